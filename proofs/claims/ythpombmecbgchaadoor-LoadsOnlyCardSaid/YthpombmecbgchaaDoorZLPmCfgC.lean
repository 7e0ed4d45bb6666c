/- Codes of the program's functions, as a program printed them, and that they are what the program's functions are compiled to.
   No condition: plain facts. -/

import Derived.KernelRfl
import Derived.Test.YthpombmecbgchaaDoorZLPm5
import Derived.Test.YthpombmecbgchaaDoorProg
namespace Pm
set_option linter.unusedSimpArgs false
set_option linter.unusedVariables false
open Go Am
set_option maxRecDepth 100000
def c_RHas : AFn :=
⟨(O [T 4 false]
 (O [V 5 1, Bn 6 .geq 5 0, V 7 6, Gd 7 true (V 8 1), Gd 7 true (Bn 9 .lss 8 64), Pk 10 7 9 false, V 11 10, Gd 11 true (V 12 0), Gd 11 true (V 13 1), ⟨some 14, some (11, true), .call 69 [(.tmp 13)], []⟩, Gd 11 true (B 15 .quo 12 14), Gd 11 true (Bk 16 .rem 15 .u64 2), Gd 11 true (Bk 17 .eql 16 .u64 1), Pk 18 11 17 false, V 4 18]
 .ret)), [.tmp 4], 19⟩
theorem call_RHas {args : List Value} {h : Heap} {K : Value → Heap → Prop} (hl : args.length ≤ 19) (k : pwp Proofs.Tryd.prog c_RHas.body (BodyK c_RHas.results K) (enterF args) h) : PCall Proofs.Tryd.prog 68 args h K :=
  pcall_of (fn := Proofs.Tryd.f68) (by kernel_rfl) (by kernel_rfl) (by kernel_rfl) (by kernel_rfl) hl k
def c_RWith : AFn :=
⟨(O [⟨some 4, none, .q (.val (.const (.int .u64 0))), []⟩]
 (.seq (O [N 5 0]
 (.block 0 (.loop (.seq (O [V 6 5, V 7 1, Ln 8 7, B 9 .lss 6 8]
 (.cond (.tmp 9)
 .skip
 (.exit 0)))
 (.seq (.block 1 (O [V 12 1, V 13 5, X 14 1 12 13, L 15 14, Bn 16 .geq 15 0, V 17 16, Gd 17 true (V 18 1), Gd 17 true (V 19 5), Gd 17 true (X 20 1 18 19), Gd 17 true (L 21 20), Gd 17 true (Bn 22 .lss 21 64), Pk 23 17 22 false, V 24 23, Gd 24 true (V 25 0), Gd 24 true (V 26 1), Gd 24 true (V 27 5), Gd 24 true (X 28 1 26 27), Gd 24 true (L 29 28), ⟨some 30, some (24, true), .call 68 [(.tmp 25), (.tmp 29)], []⟩, Gd 24 true (Nt 31 30), Pk 32 24 31 false]
 (.cond (.tmp 32)
 (.ops [V 33 0, V 34 1, V 35 5, X 36 1 34 35, L 37 36, ⟨some 38, none, .call 69 [(.tmp 37)], []⟩, B 39 .add 33 38, V 0 39])
 .skip)))
 (.ops [V 10 5, Bn 11 .add 10 1, V 5 11]))))))
 (O [V 40 0, V 4 40]
 .ret))), [.tmp 4], 41⟩
theorem call_RWith {args : List Value} {h : Heap} {K : Value → Heap → Prop} (hl : args.length ≤ 41) (k : pwp Proofs.Tryd.prog c_RWith.body (BodyK c_RWith.results K) (enterF args) h) : PCall Proofs.Tryd.prog 37 args h K :=
  pcall_of (fn := Proofs.Tryd.f37) (by kernel_rfl) (by kernel_rfl) (by kernel_rfl) (by kernel_rfl) hl k
end Pm
/- Codes of the program's functions, as a program printed them, and that they are what the program's functions are compiled to.
   No condition: plain facts. -/
namespace Pm
set_option linter.unusedSimpArgs false
set_option linter.unusedVariables false
open Go Am
set_option maxRecDepth 100000
@[irreducible] def len8tab : ByteArray := ⟨#[0, 1, 2, 2, 3, 3, 3, 3, 4, 4, 4, 4, 4, 4, 4, 4, 5, 5, 5, 5, 5, 5, 5, 5, 5, 5, 5, 5, 5, 5, 5, 5, 6, 6, 6, 6, 6, 6, 6, 6, 6, 6, 6, 6, 6, 6, 6, 6, 6, 6, 6, 6, 6, 6, 6, 6, 6, 6, 6, 6, 6, 6, 6, 6, 7, 7, 7, 7, 7, 7, 7, 7, 7, 7, 7, 7, 7, 7, 7, 7, 7, 7, 7, 7, 7, 7, 7, 7, 7, 7, 7, 7, 7, 7, 7, 7, 7, 7, 7, 7, 7, 7, 7, 7, 7, 7, 7, 7, 7, 7, 7, 7, 7, 7, 7, 7, 7, 7, 7, 7, 7, 7, 7, 7, 7, 7, 7, 7, 8, 8, 8, 8, 8, 8, 8, 8, 8, 8, 8, 8, 8, 8, 8, 8, 8, 8, 8, 8, 8, 8, 8, 8, 8, 8, 8, 8, 8, 8, 8, 8, 8, 8, 8, 8, 8, 8, 8, 8, 8, 8, 8, 8, 8, 8, 8, 8, 8, 8, 8, 8, 8, 8, 8, 8, 8, 8, 8, 8, 8, 8, 8, 8, 8, 8, 8, 8, 8, 8, 8, 8, 8, 8, 8, 8, 8, 8, 8, 8, 8, 8, 8, 8, 8, 8, 8, 8, 8, 8, 8, 8, 8, 8, 8, 8, 8, 8, 8, 8, 8, 8, 8, 8, 8, 8, 8, 8, 8, 8, 8, 8, 8, 8, 8, 8, 8, 8, 8, 8, 8, 8, 8, 8, 8, 8, 8, 8]⟩
def c_SortI : AFn :=
⟨(O [V 3 0, Ln 4 3, V 2 4]
 (.ops [V 5 0, V 6 2, V 7 2, Cv' 8 .u64 7, ⟨some 9, none, .call 71 [(.tmp 8)], []⟩, ⟨some 10, none, .call 70 [(.tmp 5), (.const (.int .i64 0)), (.tmp 6), (.tmp 9)], []⟩])), [], 11⟩
theorem call_SortI {args : List Value} {h : Heap} {K : Value → Heap → Prop} (hl : args.length ≤ 11) (k : pwp Proofs.Tryd.prog c_SortI.body (BodyK c_SortI.results K) (enterF args) h) : PCall Proofs.Tryd.prog 38 args h K :=
  pcall_of (fn := Proofs.Tryd.f38) (by kernel_rfl) (by kernel_rfl) (by kernel_rfl) (by kernel_rfl) hl k
def c_pdqI : AFn :=
⟨(O [T 8 true]
 (O [T 9 true]
 (.block 0 (.loop (.block 1 (O [V 19 2, V 20 1, B 21 .sub 19 20, V 10 21]
 (.seq (O [V 22 10, Bn 23 .leq 22 12]
 (.cond (.tmp 23)
 (O [V 24 0, V 25 1, V 26 2, ⟨some 27, none, .call 97 [(.tmp 24), (.tmp 25), (.tmp 26)], []⟩]
 .ret)
 .skip))
 (.seq (O [V 28 3, Bn 29 .eql 28 0]
 (.cond (.tmp 29)
 (O [V 30 0, V 31 1, V 32 2, ⟨some 33, none, .call 98 [(.tmp 30), (.tmp 31), (.tmp 32)], []⟩]
 .ret)
 .skip))
 (.seq (O [V 34 8, Nt 35 34]
 (.cond (.tmp 35)
 (O [V 36 0, V 37 1, V 38 2, ⟨some 39, none, .call 99 [(.tmp 36), (.tmp 37), (.tmp 38)], []⟩]
 (.ops [V 40 3, Bn 41 .sub 40 1, V 3 41]))
 .skip))
 (O [V 43 0, V 44 1, V 45 2, ⟨some 46, none, .call 100 [(.tmp 43), (.tmp 44), (.tmp 45)], []⟩, V 42 46, ⟨some 47, none, .q (.ext (.tmp 42) 0), []⟩, ⟨some 48, none, .q (.ext (.tmp 42) 1), []⟩, V 11 47, V 12 48]
 (.seq (O [V 49 12, Bn 50 .eql 49 2]
 (.cond (.tmp 50)
 (O [V 51 0, V 52 1, V 53 2, ⟨some 54, none, .call 101 [(.tmp 51), (.tmp 52), (.tmp 53)], []⟩]
 (O [V 55 2, Bn 56 .sub 55 1, V 57 11, V 58 1, B 59 .sub 57 58, B 60 .sub 56 59, V 11 60]
 (.ops [N 12 1])))
 .skip))
 (.seq (O [V 61 8, V 62 61, Gd 62 true (V 63 9), Pk 64 62 63 false, V 65 64, Gd 65 true (V 66 12), Gd 65 true (Bn 67 .eql 66 1), Pk 68 65 67 false]
 (.cond (.tmp 68)
 (O [V 69 0, V 70 1, V 71 2, ⟨some 72, none, .call 102 [(.tmp 69), (.tmp 70), (.tmp 71)], []⟩]
 (.cond (.tmp 72)
 .ret
 .skip))
 .skip))
 (.seq (O [V 73 1, Bn 74 .gtr 73 0, V 75 74, Gd 75 true (V 76 0), Gd 75 true (V 77 1), Gd 75 true (Bn 78 .sub 77 1), Gd 75 true (X 79 1 76 78), Gd 75 true (L 80 79), Gd 75 true (V 81 0), Gd 75 true (V 82 11), Gd 75 true (X 83 1 81 82), Gd 75 true (L 84 83), ⟨some 85, some (75, true), .call 103 [(.tmp 80), (.tmp 84)], []⟩, Gd 75 true (Nt 86 85), Pk 87 75 86 false]
 (.cond (.tmp 87)
 (O [V 88 0, V 89 1, V 90 2, V 91 11, ⟨some 92, none, .call 104 [(.tmp 88), (.tmp 89), (.tmp 90), (.tmp 91)], []⟩, V 13 92]
 (O [V 93 13, V 1 93]
 (.exit 1)))
 .skip))
 (O [V 95 0, V 96 1, V 97 2, V 98 11, ⟨some 99, none, .call 105 [(.tmp 95), (.tmp 96), (.tmp 97), (.tmp 98)], []⟩, V 94 99, ⟨some 100, none, .q (.ext (.tmp 94) 0), []⟩, ⟨some 101, none, .q (.ext (.tmp 94) 1), []⟩, V 14 100, V 15 101]
 (O [V 102 15, V 9 102]
 (O [V 103 14, V 104 1, B 105 .sub 103 104, V 106 2, V 107 14, B 108 .sub 106 107, V 16 105, V 17 108]
 (O [V 109 10, Bn 110 .quo 109 8, V 18 110]
 (O [V 111 16, V 112 17, B 113 .lss 111 112]
 (.cond (.tmp 113)
 (O [V 114 16, V 115 18, B 116 .geq 114 115, V 8 116]
 (O [V 117 0, V 118 1, V 119 14, V 120 3, ⟨some 121, none, .call 70 [(.tmp 117), (.tmp 118), (.tmp 119), (.tmp 120)], []⟩]
 (.ops [V 122 14, Bn 123 .add 122 1, V 1 123])))
 (O [V 124 17, V 125 18, B 126 .geq 124 125, V 8 126]
 (O [V 127 0, V 128 14, Bn 129 .add 128 1, V 130 2, V 131 3, ⟨some 132, none, .call 70 [(.tmp 127), (.tmp 129), (.tmp 130), (.tmp 131)], []⟩]
 (.ops [V 133 14, V 2 133])))))))))))))))))))))), [], 134⟩
theorem call_pdqI {args : List Value} {h : Heap} {K : Value → Heap → Prop} (hl : args.length ≤ 134) (k : pwp Proofs.Tryd.prog c_pdqI.body (BodyK c_pdqI.results K) (enterF args) h) : PCall Proofs.Tryd.prog 70 args h K :=
  pcall_of (fn := Proofs.Tryd.f70) (by kernel_rfl) (by kernel_rfl) (by kernel_rfl) (by kernel_rfl) hl k
def c_insI : AFn :=
⟨(O [V 8 1, Bn 9 .add 8 1, V 6 9]
 (.block 0 (.loop (.seq (O [V 10 6, V 11 2, B 12 .lss 10 11]
 (.cond (.tmp 12)
 .skip
 (.exit 0)))
 (.seq (.block 1 (O [V 15 6, V 7 15]
 (.block 2 (.loop (.seq (O [V 16 7, V 17 1, B 18 .gtr 16 17, V 19 18, Gd 19 true (V 20 0), Gd 19 true (V 21 7), Gd 19 true (X 22 1 20 21), Gd 19 true (L 23 22), Gd 19 true (V 24 0), Gd 19 true (V 25 7), Gd 19 true (Bn 26 .sub 25 1), Gd 19 true (X 27 1 24 26), Gd 19 true (L 28 27), ⟨some 29, some (19, true), .call 103 [(.tmp 23), (.tmp 28)], []⟩, Pk 30 19 29 false]
 (.cond (.tmp 30)
 .skip
 (.exit 2)))
 (.seq (.block 3 (.ops [V 33 0, V 34 7, V 35 0, V 36 7, Bn 37 .sub 36 1, V 38 0, V 39 7, Bn 40 .sub 39 1, X 41 1 38 40, L 42 41, V 43 0, V 44 7, X 45 1 43 44, L 46 45, X 47 1 33 34, S 47 42, X 48 1 35 37, S 48 46]))
 (.ops [V 31 7, Bn 32 .sub 31 1, V 7 32])))))))
 (.ops [V 13 6, Bn 14 .add 13 1, V 6 14])))))), [], 49⟩
theorem call_insI {args : List Value} {h : Heap} {K : Value → Heap → Prop} (hl : args.length ≤ 49) (k : pwp Proofs.Tryd.prog c_insI.body (BodyK c_insI.results K) (enterF args) h) : PCall Proofs.Tryd.prog 97 args h K :=
  pcall_of (fn := Proofs.Tryd.f97) (by kernel_rfl) (by kernel_rfl) (by kernel_rfl) (by kernel_rfl) hl k
def c_LessI : AFn :=
⟨(O [T 4 false]
 (O [V 5 0, ⟨some 6, none, .call 119 [(.tmp 5)], []⟩, V 7 6, Gd 7 true (V 8 1), ⟨some 9, some (7, true), .call 119 [(.tmp 8)], []⟩, Gd 7 true (Nt 10 9), Pk 11 7 10 false, V 12 11, Gd 12 false (V 13 0), Gd 12 false (V 14 1), Gd 12 false (B 15 .lss 13 14), ⟨some 16, none, .q (.pick (.tmp 12) (.const (.bool true)) (.tmp 15)), []⟩, V 4 16]
 .ret)), [.tmp 4], 17⟩
theorem call_LessI {args : List Value} {h : Heap} {K : Value → Heap → Prop} (hl : args.length ≤ 17) (k : pwp Proofs.Tryd.prog c_LessI.body (BodyK c_LessI.results K) (enterF args) h) : PCall Proofs.Tryd.prog 103 args h K :=
  pcall_of (fn := Proofs.Tryd.f103) (by kernel_rfl) (by kernel_rfl) (by kernel_rfl) (by kernel_rfl) hl k
def c_isNaNI : AFn :=
⟨(O [T 2 false]
 (O [V 3 0, V 4 0, B 5 .neq 3 4, V 2 5]
 .ret)), [.tmp 2], 6⟩
theorem call_isNaNI {args : List Value} {h : Heap} {K : Value → Heap → Prop} (hl : args.length ≤ 6) (k : pwp Proofs.Tryd.prog c_isNaNI.body (BodyK c_isNaNI.results K) (enterF args) h) : PCall Proofs.Tryd.prog 119 args h K :=
  pcall_of (fn := Proofs.Tryd.f119) (by kernel_rfl) (by kernel_rfl) (by kernel_rfl) (by kernel_rfl) hl k
def c_LenU : AFn :=
⟨(O [N 2 0]
 (.seq (.cond (.const (.bool false))
 (O [V 3 0, Cv' 4 .u32 3, ⟨some 5, none, .call 106 [(.tmp 4)], []⟩, V 2 5]
 .ret)
 .skip)
 (O [V 6 0, ⟨some 7, none, .call 107 [(.tmp 6)], []⟩, V 2 7]
 .ret))), [.tmp 2], 8⟩
theorem call_LenU {args : List Value} {h : Heap} {K : Value → Heap → Prop} (hl : args.length ≤ 8) (k : pwp Proofs.Tryd.prog c_LenU.body (BodyK c_LenU.results K) (enterF args) h) : PCall Proofs.Tryd.prog 71 args h K :=
  pcall_of (fn := Proofs.Tryd.f71) (by kernel_rfl) (by kernel_rfl) (by kernel_rfl) (by kernel_rfl) hl k
def c_Len64 : AFn :=
⟨(O [N 2 0]
 (.seq (O [V 3 0, Bk 4 .geq 3 .u64 4294967296]
 (.cond (.tmp 4)
 (O [V 5 0, Bk 6 .shr 5 .u64 32, V 0 6]
 (.ops [N 2 32]))
 .skip))
 (.seq (O [V 7 0, Bk 8 .geq 7 .u64 65536]
 (.cond (.tmp 8)
 (O [V 9 0, Bk 10 .shr 9 .u64 16, V 0 10]
 (.ops [V 11 2, Bn 12 .add 11 16, V 2 12]))
 .skip))
 (.seq (O [V 13 0, Bk 14 .geq 13 .u64 256]
 (.cond (.tmp 14)
 (O [V 15 0, Bk 16 .shr 15 .u64 8, V 0 16]
 (.ops [V 17 2, Bn 18 .add 17 8, V 2 18]))
 .skip))
 (O [V 19 2, V 20 0, Cv' 21 .u8 20, ⟨some 22, none, .q (.idxS (.const (.string len8tab)) (.tmp 21)), []⟩, Cv' 23 .i64 22, B 24 .add 19 23, V 2 24]
 .ret))))), [.tmp 2], 25⟩
theorem call_Len64 {args : List Value} {h : Heap} {K : Value → Heap → Prop} (hl : args.length ≤ 25) (k : pwp Proofs.Tryd.prog c_Len64.body (BodyK c_Len64.results K) (enterF args) h) : PCall Proofs.Tryd.prog 107 args h K :=
  pcall_of (fn := Proofs.Tryd.f107) (by kernel_rfl) (by kernel_rfl) (by kernel_rfl) (by kernel_rfl) hl k
def c_CompactI : AFn :=
⟨(O [E 2]
 (.seq (O [V 6 0, Ln 7 6, Bn 8 .lss 7 2]
 (.cond (.tmp 8)
 (O [V 9 0, V 2 9]
 .ret)
 .skip))
 (.seq (O [N 3 1]
 (.block 0 (.loop (.seq (O [V 10 3, V 11 0, Ln 12 11, B 13 .lss 10 12]
 (.cond (.tmp 13)
 .skip
 (.exit 0)))
 (.seq (.block 1 (O [V 16 0, V 17 3, X 18 1 16 17, L 19 18, V 20 0, V 21 3, Bn 22 .sub 21 1, X 23 1 20 22, L 24 23, B 25 .eql 19 24]
 (.cond (.tmp 25)
 (O [V 26 0, V 27 3, ⟨some 28, none, .q (.cut 1 (.tmp 26) (some (.tmp 27)) none), []⟩, V 4 28]
 (.seq (O [N 5 1]
 (.block 2 (.loop (.seq (O [V 29 5, V 30 4, Ln 31 30, B 32 .lss 29 31]
 (.cond (.tmp 32)
 .skip
 (.exit 2)))
 (.seq (.block 3 (O [V 35 4, V 36 5, X 37 1 35 36, L 38 37, V 39 4, V 40 5, Bn 41 .sub 40 1, X 42 1 39 41, L 43 42, B 44 .neq 38 43]
 (.cond (.tmp 44)
 (O [V 45 0, V 46 3, V 47 4, V 48 5, X 49 1 47 48, L 50 49, X 51 1 45 46, S 51 50]
 (.ops [V 52 3, Bn 53 .add 52 1, V 3 53]))
 .skip)))
 (.ops [V 33 5, Bn 34 .add 33 1, V 5 34]))))))
 (O [V 54 0, V 55 3, ⟨some 56, none, .q (.cut 1 (.tmp 54) (some (.tmp 55)) none), []⟩, ⟨none, none, .e (.clear [(.int .i64 0)] (.tmp 56)), []⟩]
 (O [V 57 0, V 58 3, ⟨some 59, none, .q (.cut 1 (.tmp 57) none (some (.tmp 58))), []⟩, V 2 59]
 .ret))))
 .skip)))
 (.ops [V 14 3, Bn 15 .add 14 1, V 3 15]))))))
 (O [V 60 0, V 2 60]
 .ret)))), [.tmp 2], 61⟩
theorem call_CompactI {args : List Value} {h : Heap} {K : Value → Heap → Prop} (hl : args.length ≤ 61) (k : pwp Proofs.Tryd.prog c_CompactI.body (BodyK c_CompactI.results K) (enterF args) h) : PCall Proofs.Tryd.prog 39 args h K :=
  pcall_of (fn := Proofs.Tryd.f39) (by kernel_rfl) (by kernel_rfl) (by kernel_rfl) (by kernel_rfl) hl k
def c_Succs : AFn :=
⟨(O [E 2]
 (O [V 7 0, Ln 8 7, ⟨some 9, none, .e (.make [(.slice none 0 0)] 1 (.tmp 8) (.tmp 8)), []⟩, V 3 9]
 (.seq (O [V 10 0, Ln 11 10, N 12 0]
 (.block 0 (.loop (O [B 13 .lss 12 11]
 (.seq (.cond (.tmp 13)
 .skip
 (.exit 0))
 (.seq (.block 1 (O [V 14 12, X 15 4 10 12, LA 16 4 15, ⟨some 5, none, .e (.new [(.int .u8 0), (.int .i64 0), (.int .i64 0), (.int .i64 0)] 4), []⟩, V 4 14, ⟨none, none, .e (.store 4 (.tmp 5) (.tmp 16)), []⟩]
 (O [V 17 4, Bn 18 .add 17 1, ⟨some 19, none, .e (.lit [(.int .i64 0)] 1 1 [(0, 1, (.tmp 18))]), []⟩, V 6 19]
 (.seq (O [FA 20 0 5, L 21 20]
 (.block 2 (O [Bk 23 .eql 21 .u8 10, V 22 23]
 (.cond (.tmp 22)
 (.ops [V 24 6, FA 25 1 5, L 26 25, ⟨some 27, none, .q (.idxA 1 (.tmp 24) (.const (.int .i64 0))), []⟩, S 27 26])
 (O [Bk 29 .eql 21 .u8 11, V 28 29]
 (.cond (.tmp 28)
 (.ops [V 30 6, FA 31 2 5, L 32 31, ⟨some 33, none, .e (.lit [(.int .i64 0)] 1 1 [(0, 1, (.tmp 32))]), []⟩, Ap 34 1 30 33, V 6 34])
 .skip))))))
 (O [V 35 6, ⟨some 36, none, .call 38 [(.tmp 35)], []⟩]
 (.ops [V 37 3, V 38 4, V 39 6, ⟨some 40, none, .call 39 [(.tmp 39)], []⟩, Z 1 40, X 41 1 37 38, S 41 40]))))))
 (.ops [Bn 42 .add 12 1, V 12 42])))))))
 (O [V 43 3, V 2 43]
 .ret)))), [.tmp 2], 44⟩
theorem call_Succs {args : List Value} {h : Heap} {K : Value → Heap → Prop} (hl : args.length ≤ 44) (k : pwp Proofs.Tryd.prog c_Succs.body (BodyK c_Succs.results K) (enterF args) h) : PCall Proofs.Tryd.prog 22 args h K :=
  pcall_of (fn := Proofs.Tryd.f22) (by kernel_rfl) (by kernel_rfl) (by kernel_rfl) (by kernel_rfl) hl k
end Pm
/- Codes of the program's functions, as a program printed them, and that they are what the program's functions are compiled to.
   No condition: plain facts. -/
namespace Pm
set_option linter.unusedSimpArgs false
set_option linter.unusedVariables false
open Go Am
set_option maxRecDepth 100000
def c_MkIns : AFn :=
⟨(O [⟨some 8, none, .e (.new [(.int .u8 0), (.int .i64 0), (.int .i64 0), (.int .i64 0)] 4), []⟩]
 (O [⟨some 14, none, .e (.lit [(.int .u8 0), (.int .u8 0), (.int .u8 0), (.int .u8 0), (.int .u8 0), (.int .u8 0), (.int .u8 0), (.int .u8 0), (.int .u8 0), (.int .u8 0), (.int .u8 0), (.int .u8 0), (.int .u8 0), (.int .u8 0), (.int .u8 0), (.int .u8 0), (.int .u8 0), (.int .u8 0), (.int .u8 0), (.int .u8 0), (.int .u8 0), (.int .u8 0), (.int .u8 0), (.int .u8 0), (.int .u8 0), (.int .u8 0), (.int .u8 0), (.int .u8 0), (.int .u8 0), (.int .u8 0), (.int .u8 0), (.int .u8 0), (.int .u8 0), (.int .u8 0), (.int .u8 0), (.int .u8 0)] 1 36 [(0, 1, (.const (.int .u8 7))), (1, 1, (.const (.int .u8 8))), (2, 1, (.const (.int .u8 9))), (3, 1, (.const (.int .u8 1))), (4, 1, (.const (.int .u8 3))), (5, 1, (.const (.int .u8 7))), (6, 1, (.const (.int .u8 8))), (7, 1, (.const (.int .u8 9))), (8, 1, (.const (.int .u8 13))), (9, 1, (.const (.int .u8 14))), (10, 1, (.const (.int .u8 15))), (11, 1, (.const (.int .u8 16))), (12, 1, (.const (.int .u8 17))), (13, 1, (.const (.int .u8 18))), (14, 1, (.const (.int .u8 19))), (15, 1, (.const (.int .u8 20))), (16, 1, (.const (.int .u8 21))), (17, 1, (.const (.int .u8 22))), (18, 1, (.const (.int .u8 23))), (19, 1, (.const (.int .u8 24))), (20, 1, (.const (.int .u8 25))), (21, 1, (.const (.int .u8 26))), (22, 1, (.const (.int .u8 27))), (23, 1, (.const (.int .u8 11))), (24, 1, (.const (.int .u8 10))), (25, 1, (.const (.int .u8 0))), (26, 1, (.const (.int .u8 2))), (27, 1, (.const (.int .u8 4))), (28, 1, (.const (.int .u8 5))), (29, 1, (.const (.int .u8 6))), (30, 1, (.const (.int .u8 7))), (31, 1, (.const (.int .u8 8))), (32, 1, (.const (.int .u8 13))), (33, 1, (.const (.int .u8 14))), (34, 1, (.const (.int .u8 9))), (35, 1, (.const (.int .u8 8)))]), []⟩, V 9 14]
 (O [V 15 9, V 16 0, Cv' 17 .i64 16, V 18 9, Ln 19 18, B 20 .rem 17 19, X 21 1 15 20, L 22 21, V 10 22]
 (O [V 23 1, Bk 24 .rem 23 .u8 4, Cv' 25 .i64 24, V 11 25]
 (O [V 26 1, Bk 27 .quo 26 .u8 4, Bk 28 .rem 27 .u8 4, Cv' 29 .i64 28, V 12 29]
 (O [V 30 1, Bk 31 .quo 30 .u8 16, Bk 32 .rem 31 .u8 2, Cv' 33 .i64 32, V 13 33]
 (.seq (O [V 34 10]
 (.block 0 (O [Bk 36 .eql 34 .u8 1, V 35 36]
 (.cond (.tmp 35)
 (O [V 37 10, V 38 11, V 39 1, Bk 40 .quo 39 .u8 4, Bk 41 .rem 40 .u8 8, Cv' 42 .i64 41, ⟨some 43, none, .q (.build [(.int .u8 0), (.int .i64 0), (.int .i64 0), (.int .i64 0)] [(0, 1, (.tmp 37)), (1, 1, (.tmp 38)), (2, 1, (.tmp 42))]), []⟩, ⟨none, none, .e (.store 4 (.tmp 8) (.tmp 43)), []⟩]
 .ret)
 (O [Bk 45 .eql 34 .u8 2, V 44 45]
 (.cond (.tmp 44)
 (O [V 46 10, V 47 11, V 48 12, ⟨some 49, none, .q (.build [(.int .u8 0), (.int .i64 0), (.int .i64 0), (.int .i64 0)] [(0, 1, (.tmp 46)), (1, 1, (.tmp 47)), (2, 1, (.tmp 48))]), []⟩, ⟨none, none, .e (.store 4 (.tmp 8) (.tmp 49)), []⟩]
 .ret)
 (.seq (O [Bk 51 .eql 34 .u8 3, V 50 51]
 (.cond (.tmp 50)
 .skip
 (O [Bk 52 .eql 34 .u8 4, V 50 52]
 (.cond (.tmp 50)
 .skip
 (O [Bk 53 .eql 34 .u8 5, V 50 53]
 (.cond (.tmp 50)
 .skip
 (.ops [Bk 54 .eql 34 .u8 6, V 50 54])))))))
 (.cond (.tmp 50)
 (O [V 55 10, V 56 11, V 57 12, V 58 1, Bk 59 .quo 58 .u8 16, Bk 60 .rem 59 .u8 4, Cv' 61 .i64 60, ⟨some 62, none, .q (.build [(.int .u8 0), (.int .i64 0), (.int .i64 0), (.int .i64 0)] [(0, 1, (.tmp 55)), (1, 1, (.tmp 56)), (2, 1, (.tmp 57)), (3, 1, (.tmp 61))]), []⟩, ⟨none, none, .e (.store 4 (.tmp 8) (.tmp 62)), []⟩]
 .ret)
 (O [Bk 64 .eql 34 .u8 7, V 63 64]
 (.cond (.tmp 63)
 (O [V 65 10, V 66 11, V 67 13, ⟨some 68, none, .q (.build [(.int .u8 0), (.int .i64 0), (.int .i64 0), (.int .i64 0)] [(0, 1, (.tmp 65)), (1, 1, (.tmp 66)), (2, 1, (.tmp 67))]), []⟩, ⟨none, none, .e (.store 4 (.tmp 8) (.tmp 68)), []⟩]
 .ret)
 (O [Bk 70 .eql 34 .u8 8, V 69 70]
 (.cond (.tmp 69)
 (O [V 71 10, V 72 13, V 73 11, ⟨some 74, none, .q (.build [(.int .u8 0), (.int .i64 0), (.int .i64 0), (.int .i64 0)] [(0, 1, (.tmp 71)), (1, 1, (.tmp 72)), (2, 1, (.tmp 73))]), []⟩, ⟨none, none, .e (.store 4 (.tmp 8) (.tmp 74)), []⟩]
 .ret)
 (O [Bk 76 .eql 34 .u8 9, V 75 76]
 (.cond (.tmp 75)
 (O [V 77 10, V 78 11, ⟨some 79, none, .q (.build [(.int .u8 0), (.int .i64 0), (.int .i64 0), (.int .i64 0)] [(0, 1, (.tmp 77)), (1, 1, (.tmp 78))]), []⟩, ⟨none, none, .e (.store 4 (.tmp 8) (.tmp 79)), []⟩]
 .ret)
 (O [Bk 81 .eql 34 .u8 10, V 80 81]
 (.cond (.tmp 80)
 (O [V 82 10, V 83 2, Bn 84 .add 83 1, V 85 12, B 86 .add 84 85, V 87 3, ⟨some 88, none, .q (.mm false (.tmp 86) [(.tmp 87)]), []⟩, ⟨some 89, none, .q (.build [(.int .u8 0), (.int .i64 0), (.int .i64 0), (.int .i64 0)] [(0, 1, (.tmp 82)), (1, 1, (.tmp 88))]), []⟩, ⟨none, none, .e (.store 4 (.tmp 8) (.tmp 89)), []⟩]
 .ret)
 (O [Bk 91 .eql 34 .u8 11, V 90 91]
 (.cond (.tmp 90)
 (.seq (O [V 92 1, Bk 93 .geq 92 .u8 200]
 (.cond (.tmp 93)
 (O [V 94 10, V 95 11, V 96 2, V 97 12, B 98 .sub 96 97, ⟨some 99, none, .q (.mm true (.tmp 98) [(.const (.int .i64 0))]), []⟩, ⟨some 100, none, .q (.build [(.int .u8 0), (.int .i64 0), (.int .i64 0), (.int .i64 0)] [(0, 1, (.tmp 94)), (1, 1, (.tmp 95)), (2, 1, (.tmp 99))]), []⟩, ⟨none, none, .e (.store 4 (.tmp 8) (.tmp 100)), []⟩]
 .ret)
 .skip))
 (O [V 101 10, V 102 11, V 103 2, Bn 104 .add 103 1, V 105 12, B 106 .add 104 105, V 107 3, ⟨some 108, none, .q (.mm false (.tmp 106) [(.tmp 107)]), []⟩, ⟨some 109, none, .q (.build [(.int .u8 0), (.int .i64 0), (.int .i64 0), (.int .i64 0)] [(0, 1, (.tmp 101)), (1, 1, (.tmp 102)), (2, 1, (.tmp 108))]), []⟩, ⟨none, none, .e (.store 4 (.tmp 8) (.tmp 109)), []⟩]
 .ret))
 (O [Bk 111 .eql 34 .u8 18, V 110 111]
 (.cond (.tmp 110)
 (O [V 112 10, V 113 11, ⟨some 114, none, .q (.build [(.int .u8 0), (.int .i64 0), (.int .i64 0), (.int .i64 0)] [(0, 1, (.tmp 112)), (2, 1, (.tmp 113))]), []⟩, ⟨none, none, .e (.store 4 (.tmp 8) (.tmp 114)), []⟩]
 .ret)
 (O [Bk 116 .eql 34 .u8 19, V 115 116]
 (.cond (.tmp 115)
 (O [V 117 10, V 118 11, V 119 12, ⟨some 120, none, .q (.build [(.int .u8 0), (.int .i64 0), (.int .i64 0), (.int .i64 0)] [(0, 1, (.tmp 117)), (1, 1, (.tmp 118)), (3, 1, (.tmp 119))]), []⟩, ⟨none, none, .e (.store 4 (.tmp 8) (.tmp 120)), []⟩]
 .ret)
 (O [Bk 122 .eql 34 .u8 20, V 121 122]
 (.cond (.tmp 121)
 (O [V 123 10, V 124 11, ⟨some 125, none, .q (.build [(.int .u8 0), (.int .i64 0), (.int .i64 0), (.int .i64 0)] [(0, 1, (.tmp 123)), (2, 1, (.tmp 124))]), []⟩, ⟨none, none, .e (.store 4 (.tmp 8) (.tmp 125)), []⟩]
 .ret)
 (.seq (O [Bk 127 .eql 34 .u8 17, V 126 127]
 (.cond (.tmp 126)
 .skip
 (O [Bk 128 .eql 34 .u8 21, V 126 128]
 (.cond (.tmp 126)
 .skip
 (.ops [Bk 129 .eql 34 .u8 26, V 126 129])))))
 (.cond (.tmp 126)
 (O [V 130 10, V 131 11, ⟨some 132, none, .q (.build [(.int .u8 0), (.int .i64 0), (.int .i64 0), (.int .i64 0)] [(0, 1, (.tmp 130)), (1, 1, (.tmp 131))]), []⟩, ⟨none, none, .e (.store 4 (.tmp 8) (.tmp 132)), []⟩]
 .ret)
 (O [Bk 134 .eql 34 .u8 22, V 133 134]
 (.cond (.tmp 133)
 (O [V 135 10, V 136 11, V 137 12, ⟨some 138, none, .q (.build [(.int .u8 0), (.int .i64 0), (.int .i64 0), (.int .i64 0)] [(0, 1, (.tmp 135)), (1, 1, (.tmp 136)), (3, 1, (.tmp 137))]), []⟩, ⟨none, none, .e (.store 4 (.tmp 8) (.tmp 138)), []⟩]
 .ret)
 (O [Bk 140 .eql 34 .u8 24, V 139 140]
 (.cond (.tmp 139)
 (O [V 141 10, V 142 1, Bk 143 .rem 142 .u8 3, Cv' 144 .i64 143, Bn 145 .sub 144 1, ⟨some 146, none, .q (.build [(.int .u8 0), (.int .i64 0), (.int .i64 0), (.int .i64 0)] [(0, 1, (.tmp 141)), (2, 1, (.tmp 145))]), []⟩, ⟨none, none, .e (.store 4 (.tmp 8) (.tmp 146)), []⟩]
 .ret)
 .skip))))))))))))))))))))))))))))))
 (O [V 147 10, ⟨some 148, none, .q (.build [(.int .u8 0), (.int .i64 0), (.int .i64 0), (.int .i64 0)] [(0, 1, (.tmp 147))]), []⟩, ⟨none, none, .e (.store 4 (.tmp 8) (.tmp 148)), []⟩]
 .ret)))))))), [.cells 8 4], 149⟩
theorem call_MkIns {args : List Value} {h : Heap} {K : Value → Heap → Prop} (hl : args.length ≤ 149) (k : pwp Proofs.Tryd.prog c_MkIns.body (BodyK c_MkIns.results K) (enterF args) h) : PCall Proofs.Tryd.prog 25 args h K :=
  pcall_of (fn := Proofs.Tryd.f25) (by kernel_rfl) (by kernel_rfl) (by kernel_rfl) (by kernel_rfl) hl k
def c_Make : AFn :=
⟨(O [⟨some 2, none, .e (.new [(.int .i64 0), (.int .i64 0), (.int .i64 0), (.slice none 0 0), (.int .i64 0), (.int .i64 0), (.slice none 0 0)] 7), []⟩]
 (O [⟨some 12, none, .e (.lit [(.int .i64 0)] 1 1 [(0, 1, (.const (.int .i64 1)))]), []⟩, ⟨some 13, none, .q (.build [(.int .i64 0), (.int .i64 0), (.int .i64 0), (.slice none 0 0), (.int .i64 0), (.int .i64 0), (.slice none 0 0)] [(0, 1, (.const (.int .i64 2))), (1, 1, (.const (.int .i64 1))), (2, 1, (.const (.int .i64 1))), (3, 1, (.tmp 12)), (4, 1, (.const (.int .i64 1))), (5, 1, (.const (.int .i64 1)))]), []⟩, ⟨some 3, none, .e (.new [(.int .i64 0), (.int .i64 0), (.int .i64 0), (.slice none 0 0), (.int .i64 0), (.int .i64 0), (.slice none 0 0)] 7), []⟩, ⟨none, none, .e (.store 7 (.tmp 3) (.tmp 13)), []⟩]
 (O [V 14 0, Ln 15 14, ⟨some 16, none, .q (.mm false (.tmp 15) [(.const (.int .i64 3))]), []⟩, ⟨some 17, none, .q (.mm true (.tmp 16) [(.const (.int .i64 1))]), []⟩, V 4 17]
 (.seq (O [N 5 0]
 (.block 0 (.loop (.seq (O [V 18 5, V 19 4, B 20 .lss 18 19]
 (.cond (.tmp 20)
 .skip
 (.exit 0)))
 (.seq (.block 1 (O [E 6]
 (.seq (O [N 7 1]
 (.block 2 (.loop (.seq (O [V 23 7, V 24 4, B 25 .lss 23 24, V 26 25, Gd 26 true (V 27 5), Gd 26 true (Bn 28 .eql 27 0), Pk 29 26 28 false]
 (.cond (.tmp 29)
 .skip
 (.exit 2)))
 (.seq (.block 3 (.ops [V 32 6, V 33 7, ⟨some 34, none, .q (.build [(.int .u8 0), (.int .i64 0), (.int .i64 0), (.int .i64 0)] [(0, 1, (.const (.int .u8 12))), (1, 1, (.tmp 33))]), []⟩, ⟨some 35, none, .e (.lit [(.int .u8 0), (.int .i64 0), (.int .i64 0), (.int .i64 0)] 4 1 [(0, 4, (.tmp 34))]), []⟩, Ap 36 4 32 35, V 6 36]))
 (.ops [V 30 7, Bn 31 .add 30 1, V 7 31]))))))
 (O [V 37 6, Ln 38 37, V 8 38]
 (O [E 9]
 (.seq (O [V 39 5, V 40 0, Ln 41 40, B 42 .lss 39 41]
 (.cond (.tmp 42)
 (.ops [V 43 0, V 44 5, X 45 1 43 44, L 46 45, V 9 46])
 .skip))
 (O [V 47 9, Ln 48 47, Bn 49 .quo 48 2, ⟨some 50, none, .q (.mm false (.tmp 49) [(.const (.int .i64 9))]), []⟩, V 10 50]
 (.seq (O [N 11 0]
 (.block 4 (.loop (.seq (O [V 51 11, V 52 10, B 53 .lss 51 52]
 (.cond (.tmp 53)
 .skip
 (.exit 4)))
 (.seq (.block 5 (.ops [V 56 6, V 57 9, V 58 11, ⟨some 59, none, .q (.bin .mul (.const (.int .i64 2)) (.tmp 58)), []⟩, X 60 1 57 59, L 61 60, V 62 9, V 63 11, ⟨some 64, none, .q (.bin .mul (.const (.int .i64 2)) (.tmp 63)), []⟩, Bn 65 .add 64 1, X 66 1 62 65, L 67 66, V 68 8, V 69 11, B 70 .add 68 69, V 71 8, V 72 10, B 73 .add 71 72, ⟨some 74, none, .call 25 [(.tmp 61), (.tmp 67), (.tmp 70), (.tmp 73)], []⟩, ⟨some 75, none, .e (.lit [(.int .u8 0), (.int .i64 0), (.int .i64 0), (.int .i64 0)] 4 1 [(0, 4, (.tmp 74))]), []⟩, Ap 76 4 56 75, V 6 76]))
 (.ops [V 54 11, Bn 55 .add 54 1, V 11 55]))))))
 (.ops [FA 77 6 3, L 78 77, V 79 6, Z 4 79, ⟨some 80, none, .e (.lit [(.slice none 0 0)] 1 1 [(0, 1, (.tmp 79))]), []⟩, Ap 81 1 78 80, FA 82 6 3, S 82 81])))))))))
 (.ops [V 21 5, Bn 22 .add 21 1, V 5 22]))))))
 (O [LA 83 7 3, ⟨none, none, .e (.store 7 (.tmp 2) (.tmp 83)), []⟩]
 .ret))))), [.cells 2 7], 84⟩
theorem call_Make {args : List Value} {h : Heap} {K : Value → Heap → Prop} (hl : args.length ≤ 84) (k : pwp Proofs.Tryd.prog c_Make.body (BodyK c_Make.results K) (enterF args) h) : PCall Proofs.Tryd.prog 13 args h K :=
  pcall_of (fn := Proofs.Tryd.f13) (by kernel_rfl) (by kernel_rfl) (by kernel_rfl) (by kernel_rfl) hl k
end Pm

/- Codes of the program's functions, as a program printed them, and that they are what the program's functions are compiled to.
   No condition: plain facts. -/
namespace Pm
set_option linter.unusedSimpArgs false
set_option linter.unusedVariables false
open Go Am
set_option maxRecDepth 100000
@[irreducible] def z196 : List Value := [(.string ⟨#[]⟩), (.int .u8 0), (.int .u8 0), (.int .u8 0), (.bool false), (.bool false), (.bool false), (.string ⟨#[]⟩), (.int .u8 0), (.int .u8 0), (.int .u8 0), (.bool false), (.bool false), (.bool false), (.string ⟨#[]⟩), (.int .u8 0), (.int .u8 0), (.int .u8 0), (.bool false), (.bool false), (.bool false), (.string ⟨#[]⟩), (.int .u8 0), (.int .u8 0), (.int .u8 0), (.bool false), (.bool false), (.bool false), (.string ⟨#[]⟩), (.int .u8 0), (.int .u8 0), (.int .u8 0), (.bool false), (.bool false), (.bool false), (.string ⟨#[]⟩), (.int .u8 0), (.int .u8 0), (.int .u8 0), (.bool false), (.bool false), (.bool false), (.string ⟨#[]⟩), (.int .u8 0), (.int .u8 0), (.int .u8 0), (.bool false), (.bool false), (.bool false), (.string ⟨#[]⟩), (.int .u8 0), (.int .u8 0), (.int .u8 0), (.bool false), (.bool false), (.bool false), (.string ⟨#[]⟩), (.int .u8 0), (.int .u8 0), (.int .u8 0), (.bool false), (.bool false), (.bool false), (.string ⟨#[]⟩), (.int .u8 0), (.int .u8 0), (.int .u8 0), (.bool false), (.bool false), (.bool false), (.string ⟨#[]⟩), (.int .u8 0), (.int .u8 0), (.int .u8 0), (.bool false), (.bool false), (.bool false), (.string ⟨#[]⟩), (.int .u8 0), (.int .u8 0), (.int .u8 0), (.bool false), (.bool false), (.bool false), (.string ⟨#[]⟩), (.int .u8 0), (.int .u8 0), (.int .u8 0), (.bool false), (.bool false), (.bool false), (.string ⟨#[]⟩), (.int .u8 0), (.int .u8 0), (.int .u8 0), (.bool false), (.bool false), (.bool false), (.string ⟨#[]⟩), (.int .u8 0), (.int .u8 0), (.int .u8 0), (.bool false), (.bool false), (.bool false), (.string ⟨#[]⟩), (.int .u8 0), (.int .u8 0), (.int .u8 0), (.bool false), (.bool false), (.bool false), (.string ⟨#[]⟩), (.int .u8 0), (.int .u8 0), (.int .u8 0), (.bool false), (.bool false), (.bool false), (.string ⟨#[]⟩), (.int .u8 0), (.int .u8 0), (.int .u8 0), (.bool false), (.bool false), (.bool false), (.string ⟨#[]⟩), (.int .u8 0), (.int .u8 0), (.int .u8 0), (.bool false), (.bool false), (.bool false), (.string ⟨#[]⟩), (.int .u8 0), (.int .u8 0), (.int .u8 0), (.bool false), (.bool false), (.bool false), (.string ⟨#[]⟩), (.int .u8 0), (.int .u8 0), (.int .u8 0), (.bool false), (.bool false), (.bool false), (.string ⟨#[]⟩), (.int .u8 0), (.int .u8 0), (.int .u8 0), (.bool false), (.bool false), (.bool false), (.string ⟨#[]⟩), (.int .u8 0), (.int .u8 0), (.int .u8 0), (.bool false), (.bool false), (.bool false), (.string ⟨#[]⟩), (.int .u8 0), (.int .u8 0), (.int .u8 0), (.bool false), (.bool false), (.bool false), (.string ⟨#[]⟩), (.int .u8 0), (.int .u8 0), (.int .u8 0), (.bool false), (.bool false), (.bool false), (.string ⟨#[]⟩), (.int .u8 0), (.int .u8 0), (.int .u8 0), (.bool false), (.bool false), (.bool false), (.string ⟨#[]⟩), (.int .u8 0), (.int .u8 0), (.int .u8 0), (.bool false), (.bool false), (.bool false), (.string ⟨#[]⟩), (.int .u8 0), (.int .u8 0), (.int .u8 0), (.bool false), (.bool false), (.bool false)]
def c_shapes : AFn :=
⟨(O [⟨some 0, none, .e (.new [(.string ⟨#[]⟩), (.int .u8 0), (.int .u8 0), (.int .u8 0), (.bool false), (.bool false), (.bool false), (.string ⟨#[]⟩), (.int .u8 0), (.int .u8 0), (.int .u8 0), (.bool false), (.bool false), (.bool false), (.string ⟨#[]⟩), (.int .u8 0), (.int .u8 0), (.int .u8 0), (.bool false), (.bool false), (.bool false), (.string ⟨#[]⟩), (.int .u8 0), (.int .u8 0), (.int .u8 0), (.bool false), (.bool false), (.bool false), (.string ⟨#[]⟩), (.int .u8 0), (.int .u8 0), (.int .u8 0), (.bool false), (.bool false), (.bool false), (.string ⟨#[]⟩), (.int .u8 0), (.int .u8 0), (.int .u8 0), (.bool false), (.bool false), (.bool false), (.string ⟨#[]⟩), (.int .u8 0), (.int .u8 0), (.int .u8 0), (.bool false), (.bool false), (.bool false), (.string ⟨#[]⟩), (.int .u8 0), (.int .u8 0), (.int .u8 0), (.bool false), (.bool false), (.bool false), (.string ⟨#[]⟩), (.int .u8 0), (.int .u8 0), (.int .u8 0), (.bool false), (.bool false), (.bool false), (.string ⟨#[]⟩), (.int .u8 0), (.int .u8 0), (.int .u8 0), (.bool false), (.bool false), (.bool false), (.string ⟨#[]⟩), (.int .u8 0), (.int .u8 0), (.int .u8 0), (.bool false), (.bool false), (.bool false), (.string ⟨#[]⟩), (.int .u8 0), (.int .u8 0), (.int .u8 0), (.bool false), (.bool false), (.bool false), (.string ⟨#[]⟩), (.int .u8 0), (.int .u8 0), (.int .u8 0), (.bool false), (.bool false), (.bool false), (.string ⟨#[]⟩), (.int .u8 0), (.int .u8 0), (.int .u8 0), (.bool false), (.bool false), (.bool false), (.string ⟨#[]⟩), (.int .u8 0), (.int .u8 0), (.int .u8 0), (.bool false), (.bool false), (.bool false), (.string ⟨#[]⟩), (.int .u8 0), (.int .u8 0), (.int .u8 0), (.bool false), (.bool false), (.bool false), (.string ⟨#[]⟩), (.int .u8 0), (.int .u8 0), (.int .u8 0), (.bool false), (.bool false), (.bool false), (.string ⟨#[]⟩), (.int .u8 0), (.int .u8 0), (.int .u8 0), (.bool false), (.bool false), (.bool false), (.string ⟨#[]⟩), (.int .u8 0), (.int .u8 0), (.int .u8 0), (.bool false), (.bool false), (.bool false), (.string ⟨#[]⟩), (.int .u8 0), (.int .u8 0), (.int .u8 0), (.bool false), (.bool false), (.bool false), (.string ⟨#[]⟩), (.int .u8 0), (.int .u8 0), (.int .u8 0), (.bool false), (.bool false), (.bool false), (.string ⟨#[]⟩), (.int .u8 0), (.int .u8 0), (.int .u8 0), (.bool false), (.bool false), (.bool false), (.string ⟨#[]⟩), (.int .u8 0), (.int .u8 0), (.int .u8 0), (.bool false), (.bool false), (.bool false), (.string ⟨#[]⟩), (.int .u8 0), (.int .u8 0), (.int .u8 0), (.bool false), (.bool false), (.bool false), (.string ⟨#[]⟩), (.int .u8 0), (.int .u8 0), (.int .u8 0), (.bool false), (.bool false), (.bool false), (.string ⟨#[]⟩), (.int .u8 0), (.int .u8 0), (.int .u8 0), (.bool false), (.bool false), (.bool false), (.string ⟨#[]⟩), (.int .u8 0), (.int .u8 0), (.int .u8 0), (.bool false), (.bool false), (.bool false), (.string ⟨#[]⟩), (.int .u8 0), (.int .u8 0), (.int .u8 0), (.bool false), (.bool false), (.bool false)] 7), []⟩]
 (O [⟨some 1, none, .q (.val (.func 122)), []⟩]
 (O [⟨some 2, none, .q (.val (.func 123)), []⟩]
 (O [⟨some 3, none, .q (.build [(.string ⟨#[]⟩), (.int .u8 0), (.int .u8 0), (.int .u8 0), (.bool false), (.bool false), (.bool false)] [(0, 1, (.const (.string ⟨#[110, 111, 112]⟩))), (4, 1, (.const (.bool true)))]), []⟩, ⟨some 4, none, .q (.build [(.int .u8 0), (.int .u8 0), (.int .u8 0)] [(0, 1, (.const (.int .u8 2))), (1, 1, (.const (.int .u8 1)))]), []⟩, ⟨some 5, none, .q (.build [(.string ⟨#[]⟩), (.int .u8 0), (.int .u8 0), (.int .u8 0), (.bool false), (.bool false), (.bool false)] [(0, 1, (.const (.string ⟨#[99, 111, 110, 115, 116]⟩))), (1, 3, (.tmp 4)), (4, 1, (.const (.bool true)))]), []⟩, ⟨some 6, none, .q (.build [(.int .u8 0), (.int .u8 0), (.int .u8 0)] [(0, 1, (.const (.int .u8 2))), (1, 1, (.const (.int .u8 3)))]), []⟩, ⟨some 7, none, .q (.build [(.string ⟨#[]⟩), (.int .u8 0), (.int .u8 0), (.int .u8 0), (.bool false), (.bool false), (.bool false)] [(0, 1, (.const (.string ⟨#[109, 111, 118, 101]⟩))), (1, 3, (.tmp 6)), (4, 1, (.const (.bool true)))]), []⟩, V 8 1, ⟨some 9, none, .callv (.tmp 8) [(.const (.string ⟨#[97, 100, 100]⟩))], []⟩, V 10 1, ⟨some 11, none, .callv (.tmp 10) [(.const (.string ⟨#[115, 117, 98]⟩))], []⟩, V 12 1, ⟨some 13, none, .callv (.tmp 12) [(.const (.string ⟨#[109, 117, 108]⟩))], []⟩, V 14 1, ⟨some 15, none, .callv (.tmp 14) [(.const (.string ⟨#[108, 101, 115, 115]⟩))], []⟩, ⟨some 16, none, .q (.build [(.int .u8 0), (.int .u8 0), (.int .u8 0)] [(0, 1, (.const (.int .u8 2))), (1, 1, (.const (.int .u8 4)))]), []⟩, ⟨some 17, none, .q (.build [(.string ⟨#[]⟩), (.int .u8 0), (.int .u8 0), (.int .u8 0), (.bool false), (.bool false), (.bool false)] [(0, 1, (.const (.string ⟨#[108, 111, 97, 100]⟩))), (1, 3, (.tmp 16)), (4, 1, (.const (.bool true)))]), []⟩, ⟨some 18, none, .q (.build [(.int .u8 0), (.int .u8 0), (.int .u8 0)] [(0, 1, (.const (.int .u8 4))), (1, 1, (.const (.int .u8 3)))]), []⟩, ⟨some 19, none, .q (.build [(.string ⟨#[]⟩), (.int .u8 0), (.int .u8 0), (.int .u8 0), (.bool false), (.bool false), (.bool false)] [(0, 1, (.const (.string ⟨#[115, 116, 111, 114, 101]⟩))), (1, 3, (.tmp 18)), (4, 1, (.const (.bool true)))]), []⟩, V 20 2, ⟨some 21, none, .callv (.tmp 20) [(.const (.string ⟨#[112, 114, 105, 110, 116]⟩)), (.const (.int .u8 3)), (.const (.bool false)), (.const (.bool false))], []⟩, V 22 2, ⟨some 23, none, .callv (.tmp 22) [(.const (.string ⟨#[106, 117, 109, 112]⟩)), (.const (.int .u8 5)), (.const (.bool false)), (.const (.bool false))], []⟩, ⟨some 24, none, .q (.build [(.int .u8 0), (.int .u8 0), (.int .u8 0)] [(0, 1, (.const (.int .u8 3))), (1, 1, (.const (.int .u8 5)))]), []⟩, ⟨some 25, none, .q (.build [(.string ⟨#[]⟩), (.int .u8 0), (.int .u8 0), (.int .u8 0), (.bool false), (.bool false), (.bool false)] [(0, 1, (.const (.string ⟨#[122, 101, 114, 111]⟩))), (1, 3, (.tmp 24))]), []⟩, V 26 2, ⟨some 27, none, .callv (.tmp 26) [(.const (.string ⟨#[103, 111]⟩)), (.const (.int .u8 6)), (.const (.bool false)), (.const (.bool true))], []⟩, V 28 2, ⟨some 29, none, .callv (.tmp 28) [(.const (.string ⟨#[108, 111, 99, 107]⟩)), (.const (.int .u8 7)), (.const (.bool true)), (.const (.bool false))], []⟩, V 30 2, ⟨some 31, none, .callv (.tmp 30) [(.const (.string ⟨#[117, 110, 108, 111, 99, 107]⟩)), (.const (.int .u8 7)), (.const (.bool false)), (.const (.bool true))], []⟩, V 32 2, ⟨some 33, none, .callv (.tmp 32) [(.const (.string ⟨#[114, 108, 111, 99, 107]⟩)), (.const (.int .u8 7)), (.const (.bool true)), (.const (.bool false))], []⟩, V 34 2, ⟨some 35, none, .callv (.tmp 34) [(.const (.string ⟨#[114, 117, 110, 108, 111, 99, 107]⟩)), (.const (.int .u8 7)), (.const (.bool false)), (.const (.bool true))], []⟩, ⟨some 36, none, .q (.build [(.int .u8 0), (.int .u8 0), (.int .u8 0)] [(0, 1, (.const (.int .u8 2))), (1, 1, (.const (.int .u8 8)))]), []⟩, ⟨some 37, none, .q (.build [(.string ⟨#[]⟩), (.int .u8 0), (.int .u8 0), (.int .u8 0), (.bool false), (.bool false), (.bool false)] [(0, 1, (.const (.string ⟨#[114, 101, 97, 100]⟩))), (1, 3, (.tmp 36)), (5, 1, (.const (.bool true)))]), []⟩, ⟨some 38, none, .q (.build [(.int .u8 0), (.int .u8 0), (.int .u8 0)] [(0, 1, (.const (.int .u8 8))), (1, 1, (.const (.int .u8 3)))]), []⟩, ⟨some 39, none, .q (.build [(.string ⟨#[]⟩), (.int .u8 0), (.int .u8 0), (.int .u8 0), (.bool false), (.bool false), (.bool false)] [(0, 1, (.const (.string ⟨#[119, 114, 105, 116, 101]⟩))), (1, 3, (.tmp 38)), (6, 1, (.const (.bool true)))]), []⟩, ⟨some 40, none, .q (.build [(.int .u8 0), (.int .u8 0), (.int .u8 0)] [(0, 1, (.const (.int .u8 2))), (1, 1, (.const (.int .u8 8))), (2, 1, (.const (.int .u8 3)))]), []⟩, ⟨some 41, none, .q (.build [(.string ⟨#[]⟩), (.int .u8 0), (.int .u8 0), (.int .u8 0), (.bool false), (.bool false), (.bool false)] [(0, 1, (.const (.string ⟨#[98, 117, 109, 112]⟩))), (1, 3, (.tmp 40)), (5, 1, (.const (.bool true))), (6, 1, (.const (.bool true)))]), []⟩, ⟨some 42, none, .q (.build [(.int .u8 0), (.int .u8 0), (.int .u8 0)] [(0, 1, (.const (.int .u8 9))), (1, 1, (.const (.int .u8 3)))]), []⟩, ⟨some 43, none, .q (.build [(.string ⟨#[]⟩), (.int .u8 0), (.int .u8 0), (.int .u8 0), (.bool false), (.bool false), (.bool false)] [(0, 1, (.const (.string ⟨#[115, 101, 110, 100]⟩))), (1, 3, (.tmp 42)), (5, 1, (.const (.bool true))), (6, 1, (.const (.bool true)))]), []⟩, ⟨some 44, none, .q (.build [(.int .u8 0), (.int .u8 0), (.int .u8 0)] [(0, 1, (.const (.int .u8 2))), (1, 1, (.const (.int .u8 9)))]), []⟩, ⟨some 45, none, .q (.build [(.string ⟨#[]⟩), (.int .u8 0), (.int .u8 0), (.int .u8 0), (.bool false), (.bool false), (.bool false)] [(0, 1, (.const (.string ⟨#[114, 101, 99, 118]⟩))), (1, 3, (.tmp 44)), (5, 1, (.const (.bool true))), (6, 1, (.const (.bool true)))]), []⟩, ⟨some 46, none, .q (.build [(.int .u8 0), (.int .u8 0), (.int .u8 0)] [(0, 1, (.const (.int .u8 2))), (1, 1, (.const (.int .u8 9))), (2, 1, (.const (.int .u8 2)))]), []⟩, ⟨some 47, none, .q (.build [(.string ⟨#[]⟩), (.int .u8 0), (.int .u8 0), (.int .u8 0), (.bool false), (.bool false), (.bool false)] [(0, 1, (.const (.string ⟨#[112, 111, 108, 108]⟩))), (1, 3, (.tmp 46)), (5, 1, (.const (.bool true))), (6, 1, (.const (.bool true)))]), []⟩, V 48 2, ⟨some 49, none, .callv (.tmp 48) [(.const (.string ⟨#[99, 108, 111, 115, 101]⟩)), (.const (.int .u8 9)), (.const (.bool false)), (.const (.bool true))], []⟩, ⟨some 50, none, .q (.build [(.int .u8 0), (.int .u8 0), (.int .u8 0)] [(0, 1, (.const (.int .u8 10))), (1, 1, (.const (.int .u8 1)))]), []⟩, ⟨some 51, none, .q (.build [(.string ⟨#[]⟩), (.int .u8 0), (.int .u8 0), (.int .u8 0), (.bool false), (.bool false), (.bool false)] [(0, 1, (.const (.string ⟨#[103, 114, 111, 119]⟩))), (1, 3, (.tmp 50)), (6, 1, (.const (.bool true)))]), []⟩, V 52 2, ⟨some 53, none, .callv (.tmp 52) [(.const (.string ⟨#[119, 97, 105, 116]⟩)), (.const (.int .u8 10)), (.const (.bool true)), (.const (.bool false))], []⟩, ⟨some 54, none, .q (.build [(.int .u8 0), (.int .u8 0), (.int .u8 0)] [(0, 1, (.const (.int .u8 2))), (1, 1, (.const (.int .u8 11)))]), []⟩, ⟨some 55, none, .q (.build [(.string ⟨#[]⟩), (.int .u8 0), (.int .u8 0), (.int .u8 0), (.bool false), (.bool false), (.bool false)] [(0, 1, (.const (.string ⟨#[98, 101, 103, 105, 110]⟩))), (1, 3, (.tmp 54)), (5, 1, (.const (.bool true)))]), []⟩, V 56 2, ⟨some 57, none, .callv (.tmp 56) [(.const (.string ⟨#[101, 110, 100]⟩)), (.const (.int .u8 11)), (.const (.bool false)), (.const (.bool true))], []⟩, ⟨some 58, none, .q (.build [(.string ⟨#[]⟩), (.int .u8 0), (.int .u8 0), (.int .u8 0), (.bool false), (.bool false), (.bool false), (.string ⟨#[]⟩), (.int .u8 0), (.int .u8 0), (.int .u8 0), (.bool false), (.bool false), (.bool false), (.string ⟨#[]⟩), (.int .u8 0), (.int .u8 0), (.int .u8 0), (.bool false), (.bool false), (.bool false), (.string ⟨#[]⟩), (.int .u8 0), (.int .u8 0), (.int .u8 0), (.bool false), (.bool false), (.bool false), (.string ⟨#[]⟩), (.int .u8 0), (.int .u8 0), (.int .u8 0), (.bool false), (.bool false), (.bool false), (.string ⟨#[]⟩), (.int .u8 0), (.int .u8 0), (.int .u8 0), (.bool false), (.bool false), (.bool false), (.string ⟨#[]⟩), (.int .u8 0), (.int .u8 0), (.int .u8 0), (.bool false), (.bool false), (.bool false), (.string ⟨#[]⟩), (.int .u8 0), (.int .u8 0), (.int .u8 0), (.bool false), (.bool false), (.bool false), (.string ⟨#[]⟩), (.int .u8 0), (.int .u8 0), (.int .u8 0), (.bool false), (.bool false), (.bool false), (.string ⟨#[]⟩), (.int .u8 0), (.int .u8 0), (.int .u8 0), (.bool false), (.bool false), (.bool false), (.string ⟨#[]⟩), (.int .u8 0), (.int .u8 0), (.int .u8 0), (.bool false), (.bool false), (.bool false), (.string ⟨#[]⟩), (.int .u8 0), (.int .u8 0), (.int .u8 0), (.bool false), (.bool false), (.bool false), (.string ⟨#[]⟩), (.int .u8 0), (.int .u8 0), (.int .u8 0), (.bool false), (.bool false), (.bool false), (.string ⟨#[]⟩), (.int .u8 0), (.int .u8 0), (.int .u8 0), (.bool false), (.bool false), (.bool false), (.string ⟨#[]⟩), (.int .u8 0), (.int .u8 0), (.int .u8 0), (.bool false), (.bool false), (.bool false), (.string ⟨#[]⟩), (.int .u8 0), (.int .u8 0), (.int .u8 0), (.bool false), (.bool false), (.bool false), (.string ⟨#[]⟩), (.int .u8 0), (.int .u8 0), (.int .u8 0), (.bool false), (.bool false), (.bool false), (.string ⟨#[]⟩), (.int .u8 0), (.int .u8 0), (.int .u8 0), (.bool false), (.bool false), (.bool false), (.string ⟨#[]⟩), (.int .u8 0), (.int .u8 0), (.int .u8 0), (.bool false), (.bool false), (.bool false), (.string ⟨#[]⟩), (.int .u8 0), (.int .u8 0), (.int .u8 0), (.bool false), (.bool false), (.bool false), (.string ⟨#[]⟩), (.int .u8 0), (.int .u8 0), (.int .u8 0), (.bool false), (.bool false), (.bool false), (.string ⟨#[]⟩), (.int .u8 0), (.int .u8 0), (.int .u8 0), (.bool false), (.bool false), (.bool false), (.string ⟨#[]⟩), (.int .u8 0), (.int .u8 0), (.int .u8 0), (.bool false), (.bool false), (.bool false), (.string ⟨#[]⟩), (.int .u8 0), (.int .u8 0), (.int .u8 0), (.bool false), (.bool false), (.bool false), (.string ⟨#[]⟩), (.int .u8 0), (.int .u8 0), (.int .u8 0), (.bool false), (.bool false), (.bool false), (.string ⟨#[]⟩), (.int .u8 0), (.int .u8 0), (.int .u8 0), (.bool false), (.bool false), (.bool false), (.string ⟨#[]⟩), (.int .u8 0), (.int .u8 0), (.int .u8 0), (.bool false), (.bool false), (.bool false), (.string ⟨#[]⟩), (.int .u8 0), (.int .u8 0), (.int .u8 0), (.bool false), (.bool false), (.bool false)] [(0, 7, (.tmp 3)), (7, 7, (.tmp 5)), (14, 7, (.tmp 7)), (21, 7, (.tmp 9)), (28, 7, (.tmp 11)), (35, 7, (.tmp 13)), (42, 7, (.tmp 15)), (49, 7, (.tmp 17)), (56, 7, (.tmp 19)), (63, 7, (.tmp 21)), (70, 7, (.tmp 23)), (77, 7, (.tmp 25)), (84, 7, (.tmp 27)), (91, 7, (.tmp 29)), (98, 7, (.tmp 31)), (105, 7, (.tmp 33)), (112, 7, (.tmp 35)), (119, 7, (.tmp 37)), (126, 7, (.tmp 39)), (133, 7, (.tmp 41)), (140, 7, (.tmp 43)), (147, 7, (.tmp 45)), (154, 7, (.tmp 47)), (161, 7, (.tmp 49)), (168, 7, (.tmp 51)), (175, 7, (.tmp 53)), (182, 7, (.tmp 55)), (189, 7, (.tmp 57))]), []⟩, ⟨none, none, .e (.store 196 (.tmp 0) (.tmp 58)), []⟩]
 .ret)))), [.cells 0 196], 59⟩
theorem c_shapes_is : cFunc Proofs.Tryd.prog Proofs.Tryd.f112 = some (eraseF c_shapes) := by kernel_rfl
def c_shapes1 : AFn :=
⟨(O [⟨some 2, none, .e (.new [(.string ⟨#[]⟩), (.int .u8 0), (.int .u8 0), (.int .u8 0), (.bool false), (.bool false), (.bool false)] 7), []⟩]
 (O [V 3 0, ⟨some 4, none, .q (.build [(.int .u8 0), (.int .u8 0), (.int .u8 0)] [(0, 1, (.const (.int .u8 2))), (1, 1, (.const (.int .u8 3))), (2, 1, (.const (.int .u8 3)))]), []⟩, ⟨some 5, none, .q (.build [(.string ⟨#[]⟩), (.int .u8 0), (.int .u8 0), (.int .u8 0), (.bool false), (.bool false), (.bool false)] [(0, 1, (.tmp 3)), (1, 3, (.tmp 4)), (4, 1, (.const (.bool true))), (5, 1, (.const (.bool false))), (6, 1, (.const (.bool false)))]), []⟩, ⟨none, none, .e (.store 7 (.tmp 2) (.tmp 5)), []⟩]
 .ret)), [.cells 2 7], 6⟩
theorem c_shapes1_is : cFunc Proofs.Tryd.prog Proofs.Tryd.f122 = some (eraseF c_shapes1) := by kernel_rfl
def c_shapes2 : AFn :=
⟨(O [⟨some 8, none, .e (.new [(.string ⟨#[]⟩), (.int .u8 0), (.int .u8 0), (.int .u8 0), (.bool false), (.bool false), (.bool false)] 7), []⟩]
 (O [V 9 0, V 10 1, ⟨some 11, none, .q (.build [(.int .u8 0), (.int .u8 0), (.int .u8 0)] [(0, 1, (.tmp 10))]), []⟩, V 12 2, V 13 3, ⟨some 14, none, .q (.build [(.string ⟨#[]⟩), (.int .u8 0), (.int .u8 0), (.int .u8 0), (.bool false), (.bool false), (.bool false)] [(0, 1, (.tmp 9)), (1, 3, (.tmp 11)), (4, 1, (.const (.bool false))), (5, 1, (.tmp 12)), (6, 1, (.tmp 13))]), []⟩, ⟨none, none, .e (.store 7 (.tmp 8) (.tmp 14)), []⟩]
 .ret)), [.cells 8 7], 15⟩
theorem c_shapes2_is : cFunc Proofs.Tryd.prog Proofs.Tryd.f123 = some (eraseF c_shapes2) := by kernel_rfl
def c_irOf : AFn :=
⟨(O [⟨some 2, none, .e (.new [(.string ⟨#[]⟩), (.int .u8 0), (.int .u8 0), (.int .u8 0), (.bool false), (.bool false), (.bool false)] 7), []⟩, T 3 false]
 (O [⟨some 5, none, .call 112 [], []⟩, ⟨some 4, none, .e (.new z196 7), []⟩, ⟨none, none, .e (.store 196 (.tmp 4) (.tmp 5)), []⟩]
 (.seq (O [V 6 0, Cv' 7 .i64 6, Bn 8 .geq 7 28]
 (.cond (.tmp 8)
 (O [⟨some 9, none, .q (.build [(.string ⟨#[]⟩), (.int .u8 0), (.int .u8 0), (.int .u8 0), (.bool false), (.bool false), (.bool false)] []), []⟩, ⟨none, none, .e (.store 7 (.tmp 2) (.tmp 9)), []⟩, T 3 false]
 .ret)
 .skip))
 (O [V 10 0, ⟨some 11, none, .q (.idxP 28 7 (.tmp 4) (.tmp 10)), []⟩, LA 12 7 11, ⟨none, none, .e (.store 7 (.tmp 2) (.tmp 12)), []⟩, T 3 true]
 .ret)))), [.cells 2 7, .tmp 3], 13⟩
theorem c_irOf_is : cFunc Proofs.Tryd.prog Proofs.Tryd.f92 = some (eraseF c_irOf) := by kernel_rfl
theorem call_irOf {args : List Value} {h : Heap} {K : Value → Heap → Prop} (hl : args.length ≤ 13) (k : pwp Proofs.Tryd.prog c_irOf.body (BodyK c_irOf.results K) (enterF args) h) : PCall Proofs.Tryd.prog 92 args h K :=
  pcall_of (by kernel_rfl) (by kernel_rfl) c_irOf_is (by kernel_rfl) hl k
def c_registers : AFn :=
⟨(O [⟨some 2, none, .e (.box 4 4 (.tmp 0)), []⟩, ⟨some 4, none, .q (.val (.const (.int .u64 0))), []⟩]
 (O [FA 11 0 2, L 12 11, ⟨some 13, none, .call 92 [(.tmp 12)], []⟩, V 10 13, ⟨some 14, none, .q (.ext (.tmp 10) 0), []⟩, ⟨some 15, none, .q (.ext (.tmp 10) 1), []⟩, ⟨some 5, none, .e (.new [(.string ⟨#[]⟩), (.int .u8 0), (.int .u8 0), (.int .u8 0), (.bool false), (.bool false), (.bool false)] 7), []⟩, ⟨none, none, .e (.store 7 (.tmp 5) (.tmp 14)), []⟩, V 6 15]
 (O [⟨some 7, none, .q (.val (.const (.int .u64 0))), []⟩]
 (.seq (O [FA 16 1 2, L 17 16, FA 18 2 2, L 19 18, FA 20 3 2, L 21 20, ⟨some 22, none, .q (.build [(.int .i64 0), (.int .i64 0), (.int .i64 0)] [(0, 1, (.tmp 17)), (1, 1, (.tmp 19)), (2, 1, (.tmp 21))]), []⟩, N 23 0]
 (.block 0 (.loop (O [Bn 24 .lss 23 3]
 (.seq (.cond (.tmp 24)
 .skip
 (.exit 0))
 (.seq (.block 1 (O [V 25 23, ⟨some 26, none, .q (.idx none 3 1 (.tmp 22) (.tmp 23)), []⟩, V 8 25, V 9 26]
 (O [V 27 8, FA 28 1 5, ⟨some 29, none, .q (.idxP 3 1 (.tmp 28) (.tmp 27)), []⟩, L 30 29, V 31 1, B 32 .eql 30 31]
 (.cond (.tmp 32)
 (.ops [V 33 7, V 34 9, ⟨some 35, none, .e (.lit [(.int .i64 0)] 1 1 [(0, 1, (.tmp 34))]), []⟩, Z 1 35, ⟨some 36, none, .call 27 [(.tmp 33), (.tmp 35)], []⟩, V 7 36])
 .skip))))
 (.ops [Bn 37 .add 23 1, V 23 37])))))))
 (O [V 38 7, V 4 38]
 .ret))))), [.tmp 4], 39⟩
theorem c_registers_is : cFunc Proofs.Tryd.prog Proofs.Tryd.f85 = some (eraseF c_registers) := by kernel_rfl
theorem call_registers {args : List Value} {h : Heap} {K : Value → Heap → Prop} (hl : args.length ≤ 39) (k : pwp Proofs.Tryd.prog c_registers.body (BodyK c_registers.results K) (enterF args) h) : PCall Proofs.Tryd.prog 85 args h K :=
  pcall_of (by kernel_rfl) (by kernel_rfl) c_registers_is (by kernel_rfl) hl k
def c_irSets : AFn :=
⟨(O [⟨some 1, none, .e (.box 4 4 (.tmp 0)), []⟩, ⟨some 2, none, .q (.val (.const (.int .u64 0))), []⟩]
 (O [LA 3 4 1, ⟨some 4, none, .call 85 [(.tmp 3), (.const (.int .u8 2))], []⟩, V 2 4]
 .ret)), [.tmp 2], 5⟩
theorem c_irSets_is : cFunc Proofs.Tryd.prog Proofs.Tryd.f54 = some (eraseF c_irSets) := by kernel_rfl
theorem call_irSets {args : List Value} {h : Heap} {K : Value → Heap → Prop} (hl : args.length ≤ 5) (k : pwp Proofs.Tryd.prog c_irSets.body (BodyK c_irSets.results K) (enterF args) h) : PCall Proofs.Tryd.prog 54 args h K :=
  pcall_of (by kernel_rfl) (by kernel_rfl) c_irSets_is (by kernel_rfl) hl k
def c_R2Sets : AFn :=
⟨(O [⟨some 1, none, .e (.box 4 4 (.tmp 0)), []⟩, ⟨some 2, none, .q (.val (.const (.int .u64 0))), []⟩]
 (O [LA 3 4 1, ⟨some 4, none, .call 19 [(.tmp 3), (.const (.int .i64 2))], []⟩, V 2 4]
 .ret)), [.tmp 2], 5⟩
theorem c_R2Sets_is : cFunc Proofs.Tryd.prog Proofs.Tryd.f10 = some (eraseF c_R2Sets) := by kernel_rfl
theorem call_R2Sets {args : List Value} {h : Heap} {K : Value → Heap → Prop} (hl : args.length ≤ 5) (k : pwp Proofs.Tryd.prog c_R2Sets.body (BodyK c_R2Sets.results K) (enterF args) h) : PCall Proofs.Tryd.prog 10 args h K :=
  pcall_of (by kernel_rfl) (by kernel_rfl) c_R2Sets_is (by kernel_rfl) hl k
def c_R2of : AFn :=
⟨(O [⟨some 2, none, .e (.box 4 4 (.tmp 0)), []⟩, ⟨some 4, none, .q (.val (.const (.int .u64 0))), []⟩]
 (O [⟨some 5, none, .q (.val (.const (.int .u64 0))), []⟩]
 (O [FA 9 0 2, L 10 9, ⟨some 11, none, .call 35 [(.tmp 10)], []⟩, V 6 11]
 (O [LA 12 4 2, ⟨some 13, none, .call 36 [(.tmp 12)], []⟩, V 7 13]
 (.seq (O [N 8 0]
 (.block 0 (.loop (.seq (O [V 14 8, Bn 15 .lss 14 3]
 (.cond (.tmp 15)
 .skip
 (.exit 0)))
 (.seq (.block 1 (O [V 18 6, V 19 8, X 20 1 18 19, L 21 20, V 22 1, B 23 .eql 21 22]
 (.cond (.tmp 23)
 (.ops [V 24 5, V 25 7, V 26 8, X 27 1 25 26, L 28 27, ⟨some 29, none, .e (.lit [(.int .i64 0)] 1 1 [(0, 1, (.tmp 28))]), []⟩, Z 1 29, ⟨some 30, none, .call 37 [(.tmp 24), (.tmp 29)], []⟩, V 5 30])
 .skip)))
 (.ops [V 16 8, Bn 17 .add 16 1, V 8 17]))))))
 (O [V 31 5, V 4 31]
 .ret)))))), [.tmp 4], 32⟩
theorem c_R2of_is : cFunc Proofs.Tryd.prog Proofs.Tryd.f19 = some (eraseF c_R2of) := by kernel_rfl
theorem call_R2of {args : List Value} {h : Heap} {K : Value → Heap → Prop} (hl : args.length ≤ 32) (k : pwp Proofs.Tryd.prog c_R2of.body (BodyK c_R2of.results K) (enterF args) h) : PCall Proofs.Tryd.prog 19 args h K :=
  pcall_of (by kernel_rfl) (by kernel_rfl) c_R2of_is (by kernel_rfl) hl k
def c_R2row : AFn :=
⟨(O [E 2]
 (.seq (O [V 3 0]
 (.block 0 (O [Bk 5 .eql 3 .u8 1, V 4 5]
 (.cond (.tmp 4)
 (O [⟨some 6, none, .e (.lit [(.int .i64 0), (.int .i64 0), (.int .i64 0)] 1 3 [(0, 1, (.const (.int .i64 2))), (1, 1, (.const (.int .i64 1))), (2, 1, (.const (.int .i64 0)))]), []⟩, V 2 6]
 .ret)
 (O [Bk 8 .eql 3 .u8 2, V 7 8]
 (.cond (.tmp 7)
 (O [⟨some 9, none, .e (.lit [(.int .i64 0), (.int .i64 0), (.int .i64 0)] 1 3 [(0, 1, (.const (.int .i64 2))), (1, 1, (.const (.int .i64 3))), (2, 1, (.const (.int .i64 0)))]), []⟩, V 2 9]
 .ret)
 (.seq (O [Bk 11 .eql 3 .u8 3, V 10 11]
 (.cond (.tmp 10)
 .skip
 (O [Bk 12 .eql 3 .u8 4, V 10 12]
 (.cond (.tmp 10)
 .skip
 (O [Bk 13 .eql 3 .u8 5, V 10 13]
 (.cond (.tmp 10)
 .skip
 (.ops [Bk 14 .eql 3 .u8 6, V 10 14])))))))
 (.cond (.tmp 10)
 (O [⟨some 15, none, .e (.lit [(.int .i64 0), (.int .i64 0), (.int .i64 0)] 1 3 [(0, 1, (.const (.int .i64 2))), (1, 1, (.const (.int .i64 3))), (2, 1, (.const (.int .i64 3)))]), []⟩, V 2 15]
 .ret)
 (O [Bk 17 .eql 3 .u8 7, V 16 17]
 (.cond (.tmp 16)
 (O [⟨some 18, none, .e (.lit [(.int .i64 0), (.int .i64 0), (.int .i64 0)] 1 3 [(0, 1, (.const (.int .i64 2))), (1, 1, (.const (.int .i64 4))), (2, 1, (.const (.int .i64 0)))]), []⟩, V 2 18]
 .ret)
 (O [Bk 20 .eql 3 .u8 8, V 19 20]
 (.cond (.tmp 19)
 (O [⟨some 21, none, .e (.lit [(.int .i64 0), (.int .i64 0), (.int .i64 0)] 1 3 [(0, 1, (.const (.int .i64 4))), (1, 1, (.const (.int .i64 3))), (2, 1, (.const (.int .i64 0)))]), []⟩, V 2 21]
 .ret)
 (O [Bk 23 .eql 3 .u8 9, V 22 23]
 (.cond (.tmp 22)
 (O [⟨some 24, none, .e (.lit [(.int .i64 0), (.int .i64 0), (.int .i64 0)] 1 3 [(0, 1, (.const (.int .i64 3))), (1, 1, (.const (.int .i64 0))), (2, 1, (.const (.int .i64 0)))]), []⟩, V 2 24]
 .ret)
 (O [Bk 26 .eql 3 .u8 10, V 25 26]
 (.cond (.tmp 25)
 (O [⟨some 27, none, .e (.lit [(.int .i64 0), (.int .i64 0), (.int .i64 0)] 1 3 [(0, 1, (.const (.int .i64 5))), (1, 1, (.const (.int .i64 0))), (2, 1, (.const (.int .i64 0)))]), []⟩, V 2 27]
 .ret)
 (O [Bk 29 .eql 3 .u8 11, V 28 29]
 (.cond (.tmp 28)
 (O [⟨some 30, none, .e (.lit [(.int .i64 0), (.int .i64 0), (.int .i64 0)] 1 3 [(0, 1, (.const (.int .i64 3))), (1, 1, (.const (.int .i64 5))), (2, 1, (.const (.int .i64 0)))]), []⟩, V 2 30]
 .ret)
 (O [Bk 32 .eql 3 .u8 12, V 31 32]
 (.cond (.tmp 31)
 (O [⟨some 33, none, .e (.lit [(.int .i64 0), (.int .i64 0), (.int .i64 0)] 1 3 [(0, 1, (.const (.int .i64 6))), (1, 1, (.const (.int .i64 0))), (2, 1, (.const (.int .i64 0)))]), []⟩, V 2 33]
 .ret)
 (.seq (O [Bk 35 .eql 3 .u8 13, V 34 35]
 (.cond (.tmp 34)
 .skip
 (O [Bk 36 .eql 3 .u8 14, V 34 36]
 (.cond (.tmp 34)
 .skip
 (O [Bk 37 .eql 3 .u8 15, V 34 37]
 (.cond (.tmp 34)
 .skip
 (.ops [Bk 38 .eql 3 .u8 16, V 34 38])))))))
 (.cond (.tmp 34)
 (O [⟨some 39, none, .e (.lit [(.int .i64 0), (.int .i64 0), (.int .i64 0)] 1 3 [(0, 1, (.const (.int .i64 7))), (1, 1, (.const (.int .i64 0))), (2, 1, (.const (.int .i64 0)))]), []⟩, V 2 39]
 .ret)
 (O [Bk 41 .eql 3 .u8 17, V 40 41]
 (.cond (.tmp 40)
 (O [⟨some 42, none, .e (.lit [(.int .i64 0), (.int .i64 0), (.int .i64 0)] 1 3 [(0, 1, (.const (.int .i64 2))), (1, 1, (.const (.int .i64 8))), (2, 1, (.const (.int .i64 0)))]), []⟩, V 2 42]
 .ret)
 (O [Bk 44 .eql 3 .u8 18, V 43 44]
 (.cond (.tmp 43)
 (O [⟨some 45, none, .e (.lit [(.int .i64 0), (.int .i64 0), (.int .i64 0)] 1 3 [(0, 1, (.const (.int .i64 8))), (1, 1, (.const (.int .i64 3))), (2, 1, (.const (.int .i64 0)))]), []⟩, V 2 45]
 .ret)
 (O [Bk 47 .eql 3 .u8 19, V 46 47]
 (.cond (.tmp 46)
 (O [⟨some 48, none, .e (.lit [(.int .i64 0), (.int .i64 0), (.int .i64 0)] 1 3 [(0, 1, (.const (.int .i64 2))), (1, 1, (.const (.int .i64 8))), (2, 1, (.const (.int .i64 3)))]), []⟩, V 2 48]
 .ret)
 (O [Bk 50 .eql 3 .u8 20, V 49 50]
 (.cond (.tmp 49)
 (O [⟨some 51, none, .e (.lit [(.int .i64 0), (.int .i64 0), (.int .i64 0)] 1 3 [(0, 1, (.const (.int .i64 9))), (1, 1, (.const (.int .i64 3))), (2, 1, (.const (.int .i64 0)))]), []⟩, V 2 51]
 .ret)
 (O [Bk 53 .eql 3 .u8 21, V 52 53]
 (.cond (.tmp 52)
 (O [⟨some 54, none, .e (.lit [(.int .i64 0), (.int .i64 0), (.int .i64 0)] 1 3 [(0, 1, (.const (.int .i64 2))), (1, 1, (.const (.int .i64 9))), (2, 1, (.const (.int .i64 0)))]), []⟩, V 2 54]
 .ret)
 (O [Bk 56 .eql 3 .u8 22, V 55 56]
 (.cond (.tmp 55)
 (O [⟨some 57, none, .e (.lit [(.int .i64 0), (.int .i64 0), (.int .i64 0)] 1 3 [(0, 1, (.const (.int .i64 2))), (1, 1, (.const (.int .i64 9))), (2, 1, (.const (.int .i64 2)))]), []⟩, V 2 57]
 .ret)
 (O [Bk 59 .eql 3 .u8 23, V 58 59]
 (.cond (.tmp 58)
 (O [⟨some 60, none, .e (.lit [(.int .i64 0), (.int .i64 0), (.int .i64 0)] 1 3 [(0, 1, (.const (.int .i64 9))), (1, 1, (.const (.int .i64 0))), (2, 1, (.const (.int .i64 0)))]), []⟩, V 2 60]
 .ret)
 (O [Bk 62 .eql 3 .u8 24, V 61 62]
 (.cond (.tmp 61)
 (O [⟨some 63, none, .e (.lit [(.int .i64 0), (.int .i64 0), (.int .i64 0)] 1 3 [(0, 1, (.const (.int .i64 10))), (1, 1, (.const (.int .i64 1))), (2, 1, (.const (.int .i64 0)))]), []⟩, V 2 63]
 .ret)
 (O [Bk 65 .eql 3 .u8 25, V 64 65]
 (.cond (.tmp 64)
 (O [⟨some 66, none, .e (.lit [(.int .i64 0), (.int .i64 0), (.int .i64 0)] 1 3 [(0, 1, (.const (.int .i64 10))), (1, 1, (.const (.int .i64 0))), (2, 1, (.const (.int .i64 0)))]), []⟩, V 2 66]
 .ret)
 (O [Bk 68 .eql 3 .u8 26, V 67 68]
 (.cond (.tmp 67)
 (O [⟨some 69, none, .e (.lit [(.int .i64 0), (.int .i64 0), (.int .i64 0)] 1 3 [(0, 1, (.const (.int .i64 2))), (1, 1, (.const (.int .i64 11))), (2, 1, (.const (.int .i64 0)))]), []⟩, V 2 69]
 .ret)
 (O [Bk 71 .eql 3 .u8 27, V 70 71]
 (.cond (.tmp 70)
 (O [⟨some 72, none, .e (.lit [(.int .i64 0), (.int .i64 0), (.int .i64 0)] 1 3 [(0, 1, (.const (.int .i64 11))), (1, 1, (.const (.int .i64 0))), (2, 1, (.const (.int .i64 0)))]), []⟩, V 2 72]
 .ret)
 .skip))))))))))))))))))))))))))))))))))))))))))))
 (O [⟨some 73, none, .e (.lit [(.int .i64 0), (.int .i64 0), (.int .i64 0)] 1 3 [(0, 1, (.const (.int .i64 0))), (1, 1, (.const (.int .i64 0))), (2, 1, (.const (.int .i64 0)))]), []⟩, V 2 73]
 .ret))), [.tmp 2], 74⟩
theorem c_R2row_is : cFunc Proofs.Tryd.prog Proofs.Tryd.f35 = some (eraseF c_R2row) := by kernel_rfl
theorem call_R2row {args : List Value} {h : Heap} {K : Value → Heap → Prop} (hl : args.length ≤ 74) (k : pwp Proofs.Tryd.prog c_R2row.body (BodyK c_R2row.results K) (enterF args) h) : PCall Proofs.Tryd.prog 35 args h K :=
  pcall_of (by kernel_rfl) (by kernel_rfl) c_R2row_is (by kernel_rfl) hl k
def c_R2num : AFn :=
⟨(O [⟨some 1, none, .e (.box 4 4 (.tmp 0)), []⟩, E 2]
 (O [FA 3 1 1, L 4 3, FA 5 2 1, L 6 5, FA 7 3 1, L 8 7, ⟨some 9, none, .e (.lit [(.int .i64 0), (.int .i64 0), (.int .i64 0)] 1 3 [(0, 1, (.tmp 4)), (1, 1, (.tmp 6)), (2, 1, (.tmp 8))]), []⟩, V 2 9]
 .ret)), [.tmp 2], 10⟩
theorem c_R2num_is : cFunc Proofs.Tryd.prog Proofs.Tryd.f36 = some (eraseF c_R2num) := by kernel_rfl
theorem call_R2num {args : List Value} {h : Heap} {K : Value → Heap → Prop} (hl : args.length ≤ 10) (k : pwp Proofs.Tryd.prog c_R2num.body (BodyK c_R2num.results K) (enterF args) h) : PCall Proofs.Tryd.prog 36 args h K :=
  pcall_of (by kernel_rfl) (by kernel_rfl) c_R2num_is (by kernel_rfl) hl k
end Pm

/- Codes of the program's functions, as a program printed them, and that they are what the program's functions are compiled to.
   No condition: plain facts. -/
namespace Pm
set_option linter.unusedSimpArgs false
set_option linter.unusedVariables false
open Go Am
set_option maxRecDepth 100000
def c_Clone1 : AFn :=
⟨(O [E 2]
 (.seq (O [V 3 0, ⟨some 4, none, .nilT false (.tmp 3), []⟩]
 (.cond (.tmp 4)
 (O [E 2]
 .ret)
 .skip))
 (O [⟨some 5, none, .e (.lit [] 1 0 []), []⟩, V 6 0, Ap 7 1 5 6, V 2 7]
 .ret))), [.tmp 2], 8⟩
theorem c_Clone1_is : cFunc Proofs.Tryd.prog Proofs.Tryd.f75 = some (eraseF c_Clone1) := by kernel_rfl
theorem call_Clone1 {args : List Value} {h : Heap} {K : Value → Heap → Prop} (hl : args.length ≤ 8) (k : pwp Proofs.Tryd.prog c_Clone1.body (BodyK c_Clone1.results K) (enterF args) h) : PCall Proofs.Tryd.prog 75 args h K :=
  pcall_of (by kernel_rfl) (by kernel_rfl) c_Clone1_is (by kernel_rfl) hl k
def c_Clone4 : AFn :=
⟨(O [E 2]
 (.seq (O [V 3 0, ⟨some 4, none, .nilT false (.tmp 3), []⟩]
 (.cond (.tmp 4)
 (O [E 2]
 .ret)
 .skip))
 (O [⟨some 5, none, .e (.lit [] 4 0 []), []⟩, V 6 0, Ap 7 4 5 6, V 2 7]
 .ret))), [.tmp 2], 8⟩
theorem c_Clone4_is : cFunc Proofs.Tryd.prog Proofs.Tryd.f20 = some (eraseF c_Clone4) := by kernel_rfl
theorem call_Clone4 {args : List Value} {h : Heap} {K : Value → Heap → Prop} (hl : args.length ≤ 8) (k : pwp Proofs.Tryd.prog c_Clone4.body (BodyK c_Clone4.results K) (enterF args) h) : PCall Proofs.Tryd.prog 20 args h K :=
  pcall_of (by kernel_rfl) (by kernel_rfl) c_Clone4_is (by kernel_rfl) hl k
def c_DelF1 : AFn :=
⟨(O [E 4]
 (O [V 8 0, V 9 1, ⟨some 10, none, .call 28 [(.tmp 8), (.tmp 9)], []⟩, V 5 10]
 (.seq (O [V 11 5, Bn 12 .eql 11 (-1)]
 (.cond (.tmp 12)
 (O [V 13 0, V 4 13]
 .ret)
 .skip))
 (.seq (O [V 14 5, Bn 15 .add 14 1, V 6 15]
 (.block 0 (.loop (.seq (O [V 16 6, V 17 0, Ln 18 17, B 19 .lss 16 18]
 (.cond (.tmp 19)
 .skip
 (.exit 0)))
 (.seq (.block 1 (O [V 22 0, V 23 6, X 24 1 22 23, L 25 24, V 7 25]
 (O [V 26 1, V 27 7, ⟨some 28, none, .callv (.tmp 26) [(.tmp 27)], []⟩, Nt 29 28]
 (.cond (.tmp 29)
 (O [V 30 0, V 31 5, V 32 7, X 33 1 30 31, S 33 32]
 (.ops [V 34 5, Bn 35 .add 34 1, V 5 35]))
 .skip))))
 (.ops [V 20 6, Bn 21 .add 20 1, V 6 21]))))))
 (O [V 36 0, V 37 5, ⟨some 38, none, .q (.cut 1 (.tmp 36) (some (.tmp 37)) none), []⟩, ⟨none, none, .e (.clear [(.int .i64 0)] (.tmp 38)), []⟩]
 (O [V 39 0, V 40 5, ⟨some 41, none, .q (.cut 1 (.tmp 39) none (some (.tmp 40))), []⟩, V 4 41]
 .ret)))))), [.tmp 4], 42⟩
theorem c_DelF1_is : cFunc Proofs.Tryd.prog Proofs.Tryd.f74 = some (eraseF c_DelF1) := by kernel_rfl
theorem call_DelF1 {args : List Value} {h : Heap} {K : Value → Heap → Prop} (hl : args.length ≤ 42) (k : pwp Proofs.Tryd.prog c_DelF1.body (BodyK c_DelF1.results K) (enterF args) h) : PCall Proofs.Tryd.prog 74 args h K :=
  pcall_of (by kernel_rfl) (by kernel_rfl) c_DelF1_is (by kernel_rfl) hl k
def c_IdxF1 : AFn :=
⟨(O [N 4 0]
 (.seq (O [V 6 0, Ln 7 6, N 8 0]
 (.block 0 (.loop (O [B 9 .lss 8 7]
 (.seq (.cond (.tmp 9)
 .skip
 (.exit 0))
 (.seq (.block 1 (O [V 10 8, V 5 10]
 (O [V 11 1, V 12 0, V 13 5, X 14 1 12 13, L 15 14, ⟨some 16, none, .callv (.tmp 11) [(.tmp 15)], []⟩]
 (.cond (.tmp 16)
 (O [V 17 5, V 4 17]
 .ret)
 .skip))))
 (.ops [Bn 18 .add 8 1, V 8 18])))))))
 (O [N 4 (-1)]
 .ret))), [.tmp 4], 19⟩
theorem c_IdxF1_is : cFunc Proofs.Tryd.prog Proofs.Tryd.f28 = some (eraseF c_IdxF1) := by kernel_rfl
theorem call_IdxF1 {args : List Value} {h : Heap} {K : Value → Heap → Prop} (hl : args.length ≤ 19) (k : pwp Proofs.Tryd.prog c_IdxF1.body (BodyK c_IdxF1.results K) (enterF args) h) : PCall Proofs.Tryd.prog 28 args h K :=
  pcall_of (by kernel_rfl) (by kernel_rfl) c_IdxF1_is (by kernel_rfl) hl k
def c_Idx1 : AFn :=
⟨(O [N 4 0]
 (.seq (O [V 6 0, Ln 7 6, N 8 0]
 (.block 0 (.loop (O [B 9 .lss 8 7]
 (.seq (.cond (.tmp 9)
 .skip
 (.exit 0))
 (.seq (.block 1 (O [V 10 8, V 5 10]
 (O [V 11 1, V 12 0, V 13 5, X 14 1 12 13, L 15 14, B 16 .eql 11 15]
 (.cond (.tmp 16)
 (O [V 17 5, V 4 17]
 .ret)
 .skip))))
 (.ops [Bn 18 .add 8 1, V 8 18])))))))
 (O [N 4 (-1)]
 .ret))), [.tmp 4], 19⟩
theorem c_Idx1_is : cFunc Proofs.Tryd.prog Proofs.Tryd.f124 = some (eraseF c_Idx1) := by kernel_rfl
theorem call_Idx1 {args : List Value} {h : Heap} {K : Value → Heap → Prop} (hl : args.length ≤ 19) (k : pwp Proofs.Tryd.prog c_Idx1.body (BodyK c_Idx1.results K) (enterF args) h) : PCall Proofs.Tryd.prog 124 args h K :=
  pcall_of (by kernel_rfl) (by kernel_rfl) c_Idx1_is (by kernel_rfl) hl k
def c_Cont1 : AFn :=
⟨(O [T 4 false]
 (O [V 5 0, V 6 1, ⟨some 7, none, .call 124 [(.tmp 5), (.tmp 6)], []⟩, Bn 8 .geq 7 0, V 4 8]
 .ret)), [.tmp 4], 9⟩
theorem c_Cont1_is : cFunc Proofs.Tryd.prog Proofs.Tryd.f113 = some (eraseF c_Cont1) := by kernel_rfl
theorem call_Cont1 {args : List Value} {h : Heap} {K : Value → Heap → Prop} (hl : args.length ≤ 9) (k : pwp Proofs.Tryd.prog c_Cont1.body (BodyK c_Cont1.results K) (enterF args) h) : PCall Proofs.Tryd.prog 113 args h K :=
  pcall_of (by kernel_rfl) (by kernel_rfl) c_Cont1_is (by kernel_rfl) hl k
def c_fInside : AFn :=
⟨(O [⟨some 1, none, .e (.box 1 1 (.tmp 0)), []⟩, E 2]
 (O [E 3]
 (.seq (O [L 6 1, Ln 7 6, N 8 0]
 (.block 0 (.loop (O [B 9 .lss 8 7]
 (.seq (.cond (.tmp 9)
 .skip
 (.exit 0))
 (.seq (.block 1 (O [X 10 1 6 8, L 11 10, V 5 11]
 (.ops [V 12 3, V 13 5, ⟨some 14, none, .call 75 [(.tmp 13)], []⟩, ⟨some 15, none, .q (.fn (.func 93) [(.tmp 1)]), []⟩, ⟨some 16, none, .call 74 [(.tmp 14), (.tmp 15)], []⟩, Z 1 16, ⟨some 17, none, .e (.lit [(.slice none 0 0)] 1 1 [(0, 1, (.tmp 16))]), []⟩, Ap 18 1 12 17, V 3 18])))
 (.ops [Bn 19 .add 8 1, V 8 19])))))))
 (O [V 20 3, V 2 20]
 .ret)))), [.tmp 2], 21⟩
theorem c_fInside_is : cFunc Proofs.Tryd.prog Proofs.Tryd.f64 = some (eraseF c_fInside) := by kernel_rfl
theorem call_fInside {args : List Value} {h : Heap} {K : Value → Heap → Prop} (hl : args.length ≤ 21) (k : pwp Proofs.Tryd.prog c_fInside.body (BodyK c_fInside.results K) (enterF args) h) : PCall Proofs.Tryd.prog 64 args h K :=
  pcall_of (by kernel_rfl) (by kernel_rfl) c_fInside_is (by kernel_rfl) hl k
def c_fInside1 : AFn :=
⟨(O [T 3 false]
 (O [V 4 0, Bn 5 .lss 4 0, V 6 5, Gd 6 false (V 7 0), Gd 6 false (L 8 1), Gd 6 false (Ln 9 8), Gd 6 false (B 10 .geq 7 9), ⟨some 11, none, .q (.pick (.tmp 6) (.const (.bool true)) (.tmp 10)), []⟩, V 3 11]
 .ret)), [.tmp 3], 12⟩
theorem c_fInside1_is : cFunc Proofs.Tryd.prog Proofs.Tryd.f93 = some (eraseF c_fInside1) := by kernel_rfl
theorem call_fInside1 {args : List Value} {h : Heap} {K : Value → Heap → Prop} (hl : args.length ≤ 12) (k : pwp Proofs.Tryd.prog c_fInside1.body (BodyK c_fInside1.results K) (enterF args) h) : PCall Proofs.Tryd.prog 93 args h K :=
  pcall_of (by kernel_rfl) (by kernel_rfl) c_fInside1_is (by kernel_rfl) hl k
def c_fAt : AFn :=
⟨(O [⟨some 4, none, .q (.val (.const (.int .u64 0))), []⟩]
 (.seq (O [V 5 1, V 6 0, Ln 7 6, B 8 .geq 5 7]
 (.cond (.tmp 8)
 (O [⟨some 4, none, .q (.val (.const (.int .u64 0))), []⟩]
 .ret)
 .skip))
 (O [V 9 0, V 10 1, X 11 1 9 10, L 12 11, V 4 12]
 .ret))), [.tmp 4], 13⟩
theorem c_fAt_is : cFunc Proofs.Tryd.prog Proofs.Tryd.f96 = some (eraseF c_fAt) := by kernel_rfl
theorem call_fAt {args : List Value} {h : Heap} {K : Value → Heap → Prop} (hl : args.length ≤ 13) (k : pwp Proofs.Tryd.prog c_fAt.body (BodyK c_fAt.results K) (enterF args) h) : PCall Proofs.Tryd.prog 96 args h K :=
  pcall_of (by kernel_rfl) (by kernel_rfl) c_fAt_is (by kernel_rfl) hl k
def c_fAll : AFn :=
⟨(O [⟨some 2, none, .q (.val (.const (.int .u64 0))), []⟩]
 (.seq (O [V 3 0, ⟨some 4, none, .q (.ptrCk (.tmp 3)), []⟩, FA 5 0 4, FA 6 4 5, L 7 6]
 (.cond (.tmp 7)
 (O [⟨some 8, none, .call 41 [(.const (.int .i64 64))], []⟩, V 2 8]
 .ret)
 .skip))
 (O [⟨some 2, none, .q (.val (.const (.int .u64 0))), []⟩]
 .ret))), [.tmp 2], 9⟩
theorem c_fAll_is : cFunc Proofs.Tryd.prog Proofs.Tryd.f65 = some (eraseF c_fAll) := by kernel_rfl
theorem call_fAll {args : List Value} {h : Heap} {K : Value → Heap → Prop} (hl : args.length ≤ 9) (k : pwp Proofs.Tryd.prog c_fAll.body (BodyK c_fAll.results K) (enterF args) h) : PCall Proofs.Tryd.prog 65 args h K :=
  pcall_of (by kernel_rfl) (by kernel_rfl) c_fAll_is (by kernel_rfl) hl k
def c_fMeet : AFn :=
⟨(O [⟨some 6, none, .q (.val (.const (.int .u64 0))), []⟩]
 (.seq (O [V 7 0, ⟨some 8, none, .q (.ptrCk (.tmp 7)), []⟩, FA 9 0 8, FA 10 4 9, L 11 10]
 (.cond (.tmp 11)
 (O [V 12 1, V 13 2, B 14 .and 12 13, V 6 14]
 .ret)
 .skip))
 (O [V 15 1, V 16 2, B 17 .or 15 16, V 6 17]
 .ret))), [.tmp 6], 18⟩
theorem c_fMeet_is : cFunc Proofs.Tryd.prog Proofs.Tryd.f95 = some (eraseF c_fMeet) := by kernel_rfl
theorem call_fMeet {args : List Value} {h : Heap} {K : Value → Heap → Prop} (hl : args.length ≤ 18) (k : pwp Proofs.Tryd.prog c_fMeet.body (BodyK c_fMeet.results K) (enterF args) h) : PCall Proofs.Tryd.prog 95 args h K :=
  pcall_of (by kernel_rfl) (by kernel_rfl) c_fMeet_is (by kernel_rfl) hl k
def c_fEdge : AFn :=
⟨(O [T 4 false]
 (.seq (O [V 5 0, ⟨some 6, none, .q (.ptrCk (.tmp 5)), []⟩, FA 7 0 6, FA 8 5 7, L 9 8]
 (.cond (.tmp 9)
 (O [V 10 0, ⟨some 11, none, .q (.ptrCk (.tmp 10)), []⟩, FA 12 0 11, FA 13 0 12, L 14 13, V 15 1, X 16 1 14 15, L 17 16, V 18 0, ⟨some 19, none, .q (.ptrCk (.tmp 18)), []⟩, FA 20 0 19, FA 21 0 20, L 22 21, Ln 23 22, Z 1 17, ⟨some 24, none, .call 113 [(.tmp 17), (.tmp 23)], []⟩, V 4 24]
 .ret)
 .skip))
 (O [V 25 1, Bn 26 .eql 25 0, V 4 26]
 .ret))), [.tmp 4], 27⟩
theorem c_fEdge_is : cFunc Proofs.Tryd.prog Proofs.Tryd.f94 = some (eraseF c_fEdge) := by kernel_rfl
theorem call_fEdge {args : List Value} {h : Heap} {K : Value → Heap → Prop} (hl : args.length ≤ 27) (k : pwp Proofs.Tryd.prog c_fEdge.body (BodyK c_fEdge.results K) (enterF args) h) : PCall Proofs.Tryd.prog 94 args h K :=
  pcall_of (by kernel_rfl) (by kernel_rfl) c_fEdge_is (by kernel_rfl) hl k
def c_fPush : AFn :=
⟨(O [V 4 0, ⟨some 5, none, .q (.ptrCk (.tmp 4)), []⟩, FA 6 11 5, L 7 6, V 8 1, X 9 1 7 8, L 10 9, Nt 11 10]
 (.cond (.tmp 11)
 (O [V 12 0, ⟨some 13, none, .q (.ptrCk (.tmp 12)), []⟩, FA 14 11 13, L 15 14, V 16 1, X 17 1 15 16, ⟨none, none, .e (.store 1 (.tmp 17) (.const (.bool true))), []⟩]
 (.ops [V 18 0, V 19 0, ⟨some 20, none, .q (.ptrCk (.tmp 19)), []⟩, FA 21 10 20, L 22 21, V 23 1, ⟨some 24, none, .e (.lit [(.int .i64 0)] 1 1 [(0, 1, (.tmp 23))]), []⟩, Ap 25 1 22 24, ⟨some 26, none, .q (.ptrCk (.tmp 18)), []⟩, FA 27 10 26, S 27 25]))
 .skip)), [], 28⟩
theorem c_fPush_is : cFunc Proofs.Tryd.prog Proofs.Tryd.f66 = some (eraseF c_fPush) := by kernel_rfl
theorem call_fPush {args : List Value} {h : Heap} {K : Value → Heap → Prop} (hl : args.length ≤ 28) (k : pwp Proofs.Tryd.prog c_fPush.body (BodyK c_fPush.results K) (enterF args) h) : PCall Proofs.Tryd.prog 66 args h K :=
  pcall_of (by kernel_rfl) (by kernel_rfl) c_fPush_is (by kernel_rfl) hl k
def c_fLook : AFn :=
⟨(O [V 10 0, ⟨some 11, none, .call 65 [(.tmp 10)], []⟩, V 4 11]
 (.seq (O [V 12 0, V 13 1, ⟨some 14, none, .call 94 [(.tmp 12), (.tmp 13)], []⟩]
 (.cond (.tmp 14)
 (.ops [V 15 0, V 16 4, V 17 0, ⟨some 18, none, .q (.ptrCk (.tmp 17)), []⟩, FA 19 0 18, FA 20 3 19, L 21 20, ⟨some 22, none, .call 95 [(.tmp 15), (.tmp 16), (.tmp 21)], []⟩, V 4 22])
 .skip))
 (.seq (O [V 23 0, ⟨some 24, none, .q (.ptrCk (.tmp 23)), []⟩, FA 25 6 24, L 26 25, V 27 1, X 28 1 26 27, L 29 28, Ln 30 29, N 31 0]
 (.block 0 (.loop (O [B 32 .lss 31 30]
 (.seq (.cond (.tmp 32)
 .skip
 (.exit 0))
 (.seq (.block 1 (O [X 33 1 29 31, L 34 33, V 6 34]
 (.ops [V 35 0, V 36 4, V 37 0, ⟨some 38, none, .q (.ptrCk (.tmp 37)), []⟩, FA 39 9 38, L 40 39, V 41 6, X 42 1 40 41, L 43 42, ⟨some 44, none, .call 95 [(.tmp 35), (.tmp 36), (.tmp 43)], []⟩, V 4 44])))
 (.ops [Bn 45 .add 31 1, V 31 45])))))))
 (O [V 46 0, ⟨some 47, none, .q (.ptrCk (.tmp 46)), []⟩, FA 48 8 47, L 49 48, V 50 1, V 51 4, X 52 1 49 50, S 52 51]
 (O [V 53 4, V 54 0, ⟨some 55, none, .q (.ptrCk (.tmp 54)), []⟩, FA 56 0 55, FA 57 2 56, L 58 57, V 59 1, V 62 0, ⟨some 63, none, .q (.ptrCk (.tmp 62)), []⟩, FA 64 0 63, FA 65 1 64, L 66 65, V 67 1, ⟨some 60, none, .st (.call 96 [(.tmp 58), (.tmp 59)]), [.load (.tmp 65)]⟩, B 61 .andNot 53 60, ⟨some 68, none, .call 96 [(.tmp 66), (.tmp 67)], []⟩, B 69 .or 61 68, V 7 69]
 (.seq (O [V 70 7, V 71 0, ⟨some 72, none, .q (.ptrCk (.tmp 71)), []⟩, FA 73 9 72, L 74 73, V 75 1, X 76 1 74 75, L 77 76, B 78 .eql 70 77]
 (.cond (.tmp 78)
 .ret
 .skip))
 (O [V 79 0, ⟨some 80, none, .q (.ptrCk (.tmp 79)), []⟩, FA 81 9 80, L 82 81, V 83 1, V 84 7, X 85 1 82 83, S 85 84]
 (O [V 86 0, ⟨some 87, none, .q (.ptrCk (.tmp 86)), []⟩, FA 88 7 87, L 89 88, V 90 1, X 91 1 89 90, L 92 91, Ln 93 92, N 94 0]
 (.block 2 (.loop (O [B 95 .lss 94 93]
 (.seq (.cond (.tmp 95)
 .skip
 (.exit 2))
 (.seq (.block 3 (O [X 96 1 92 94, L 97 96, V 9 97]
 (.ops [V 98 0, V 99 9, ⟨some 100, none, .call 66 [(.tmp 98), (.tmp 99)], []⟩])))
 (.ops [Bn 101 .add 94 1, V 94 101])))))))))))))), [], 102⟩
theorem c_fLook_is : cFunc Proofs.Tryd.prog Proofs.Tryd.f67 = some (eraseF c_fLook) := by kernel_rfl
theorem call_fLook {args : List Value} {h : Heap} {K : Value → Heap → Prop} (hl : args.length ≤ 102) (k : pwp Proofs.Tryd.prog c_fLook.body (BodyK c_fLook.results K) (enterF args) h) : PCall Proofs.Tryd.prog 67 args h K :=
  pcall_of (by kernel_rfl) (by kernel_rfl) c_fLook_is (by kernel_rfl) hl k
def c_fSolve : AFn :=
⟨(O [⟨some 1, none, .e (.box 6 6 (.tmp 0)), []⟩, E 2, E 3]
 (O [Z 6 1, FA 8 0 1, L 9 8, Ln 10 9, V 4 10]
 (.seq (O [V 11 4, Bn 12 .gtr 11 64]
 (.cond (.tmp 12)
 (O [E 2, E 3]
 .ret)
 .skip))
 (O [LA 13 6 1, V 14 4, V 16 4, V 18 4, ⟨some 15, none, .e (.make [(.int .u64 0)] 1 (.tmp 14) (.tmp 14)), []⟩, ⟨some 17, none, .e (.make [(.int .u64 0)] 1 (.tmp 16) (.tmp 16)), []⟩, ⟨some 19, none, .e (.make [(.bool false)] 1 (.tmp 18) (.tmp 18)), []⟩, ⟨some 20, none, .q (.build [(.slice none 0 0), (.slice none 0 0), (.slice none 0 0), (.int .u64 0), (.bool false), (.bool false), (.slice none 0 0), (.slice none 0 0), (.slice none 0 0), (.slice none 0 0), (.slice none 0 0), (.slice none 0 0)] [(0, 6, (.tmp 13)), (8, 1, (.tmp 15)), (9, 1, (.tmp 17)), (11, 1, (.tmp 19))]), []⟩, ⟨some 21, none, .e (.box 12 12 (.tmp 20)), []⟩, V 5 21]
 (O [V 22 5, V 23 5, FA 24 0 1, L 25 24, FA 27 0 1, L 28 27, ⟨some 26, none, .st (.call 64 [(.tmp 25)]), [.load (.tmp 27)]⟩, ⟨some 29, none, .call 42 [(.tmp 28)], []⟩, ⟨some 30, none, .q (.ptrCk (.tmp 22)), []⟩, FA 31 7 30, S 31 26, ⟨some 32, none, .q (.ptrCk (.tmp 23)), []⟩, FA 33 6 32, S 33 29]
 (.seq (O [FA 34 5 1, L 35 34]
 (.cond (.tmp 35)
 (.ops [V 36 5, V 37 5, V 38 5, ⟨some 39, none, .q (.ptrCk (.tmp 38)), []⟩, FA 40 6 39, L 41 40, V 42 5, ⟨some 43, none, .q (.ptrCk (.tmp 42)), []⟩, FA 44 7 43, L 45 44, ⟨some 46, none, .q (.ptrCk (.tmp 36)), []⟩, FA 47 7 46, S 47 41, ⟨some 48, none, .q (.ptrCk (.tmp 37)), []⟩, FA 49 6 48, S 49 45])
 .skip))
 (.seq (O [V 50 4, N 51 0]
 (.block 0 (.loop (O [B 52 .lss 51 50]
 (.seq (.cond (.tmp 52)
 .skip
 (.exit 0))
 (.seq (.block 1 (O [V 53 51, V 6 53]
 (O [V 54 5, ⟨some 55, none, .q (.ptrCk (.tmp 54)), []⟩, FA 56 8 55, L 57 56, V 58 6, V 59 5, ⟨some 60, none, .q (.ptrCk (.tmp 59)), []⟩, FA 61 9 60, L 62 61, V 63 6, V 64 5, V 66 5, ⟨some 65, none, .st (.call 65 [(.tmp 64)]), [.load (.tmp 56), .load (.tmp 61)]⟩, ⟨some 67, none, .st (.call 65 [(.tmp 66)]), [.load (.tmp 56), .load (.tmp 61)]⟩, X 68 1 57 58, S 68 65, X 69 1 62 63, S 69 67]
 (.ops [V 70 5, V 71 6, ⟨some 72, none, .call 66 [(.tmp 70), (.tmp 71)], []⟩]))))
 (.ops [Bn 73 .add 51 1, V 51 73])))))))
 (.seq (.block 2 (.loop (.seq (O [V 74 5, ⟨some 75, none, .q (.ptrCk (.tmp 74)), []⟩, FA 76 10 75, L 77 76, Ln 78 77, Bn 79 .gtr 78 0]
 (.cond (.tmp 79)
 .skip
 (.exit 2)))
 (.block 3 (O [V 80 5, ⟨some 81, none, .q (.ptrCk (.tmp 80)), []⟩, FA 82 10 81, L 83 82, ⟨some 84, none, .q (.idxA 1 (.tmp 83) (.const (.int .i64 0))), []⟩, L 85 84, V 7 85]
 (O [V 86 5, V 87 5, ⟨some 88, none, .q (.ptrCk (.tmp 87)), []⟩, FA 89 10 88, L 90 89, ⟨some 91, none, .q (.cut 1 (.tmp 90) (some (.const (.int .i64 1))) none), []⟩, ⟨some 92, none, .q (.ptrCk (.tmp 86)), []⟩, FA 93 10 92, S 93 91]
 (O [V 94 5, ⟨some 95, none, .q (.ptrCk (.tmp 94)), []⟩, FA 96 11 95, L 97 96, V 98 7, X 99 1 97 98, ⟨none, none, .e (.store 1 (.tmp 99) (.const (.bool false))), []⟩]
 (.ops [V 100 5, V 101 7, ⟨some 102, none, .call 67 [(.tmp 100), (.tmp 101)], []⟩]))))))))
 (.seq (O [FA 103 5 1, L 104 103]
 (.cond (.tmp 104)
 (O [V 105 5, ⟨some 106, none, .q (.ptrCk (.tmp 105)), []⟩, FA 107 9 106, L 108 107, V 109 5, ⟨some 110, none, .q (.ptrCk (.tmp 109)), []⟩, FA 111 8 110, L 112 111, V 2 108, V 3 112]
 .ret)
 .skip))
 (O [V 113 5, ⟨some 114, none, .q (.ptrCk (.tmp 113)), []⟩, FA 115 8 114, L 116 115, V 117 5, ⟨some 118, none, .q (.ptrCk (.tmp 117)), []⟩, FA 119 9 118, L 120 119, V 2 116, V 3 120]
 .ret)))))))))), [.tmp 2, .tmp 3], 121⟩
theorem c_fSolve_is : cFunc Proofs.Tryd.prog Proofs.Tryd.f34 = some (eraseF c_fSolve) := by kernel_rfl
theorem call_fSolve {args : List Value} {h : Heap} {K : Value → Heap → Prop} (hl : args.length ≤ 121) (k : pwp Proofs.Tryd.prog c_fSolve.body (BodyK c_fSolve.results K) (enterF args) h) : PCall Proofs.Tryd.prog 34 args h K :=
  pcall_of (by kernel_rfl) (by kernel_rfl) c_fSolve_is (by kernel_rfl) hl k
end Pm

/- Codes of the program's functions, as a program printed them, and that they are what the program's functions are compiled to.
   No condition: plain facts. -/
namespace Pm
set_option linter.unusedSimpArgs false
set_option linter.unusedVariables false
open Go Am
set_option maxRecDepth 100000
def c_dFacts : AFn :=
⟨(O [⟨some 2, none, .q (.val (.const (.int .u64 0))), []⟩]
 (.seq (O [V 3 0, Bn 4 .lss 3 0, V 5 4, Gd 5 false (V 6 0), Gd 5 false (Bn 7 .geq 6 8), ⟨some 8, none, .q (.pick (.tmp 5) (.const (.bool true)) (.tmp 7)), []⟩]
 (.cond (.tmp 8)
 (O [⟨some 2, none, .q (.val (.const (.int .u64 0))), []⟩]
 .ret)
 .skip))
 (O [⟨some 9, none, .call 41 [(.const (.int .i64 4))], []⟩, V 10 0, ⟨some 11, none, .q (.bin .mul (.const (.int .i64 4)) (.tmp 10)), []⟩, B 12 .shl 9 11, V 2 12]
 .ret))), [.tmp 2], 13⟩
theorem c_dFacts_is : cFunc Proofs.Tryd.prog Proofs.Tryd.f24 = some (eraseF c_dFacts) := by kernel_rfl
theorem call_dFacts {args : List Value} {h : Heap} {K : Value → Heap → Prop} (hl : args.length ≤ 13) (k : pwp Proofs.Tryd.prog c_dFacts.body (BodyK c_dFacts.results K) (enterF args) h) : PCall Proofs.Tryd.prog 24 args h K :=
  pcall_of (by kernel_rfl) (by kernel_rfl) c_dFacts_is (by kernel_rfl) hl k
def c_dOf : AFn :=
⟨(O [⟨some 2, none, .q (.val (.const (.int .u64 0))), []⟩]
 (O [⟨some 3, none, .q (.val (.const (.int .u64 0))), []⟩]
 (.seq (O [N 5 0]
 (.block 0 (.loop (O [Bn 6 .lss 5 8]
 (.seq (.cond (.tmp 6)
 .skip
 (.exit 0))
 (.seq (.block 1 (O [V 7 5, V 4 7]
 (.ops [V 8 3, V 9 4, ⟨some 10, none, .q (.bin .mul (.const (.int .i64 4)) (.tmp 9)), []⟩, V 11 0, B 12 .add 10 11, ⟨some 13, none, .e (.lit [(.int .i64 0)] 1 1 [(0, 1, (.tmp 12))]), []⟩, Z 1 13, ⟨some 14, none, .call 27 [(.tmp 8), (.tmp 13)], []⟩, V 3 14])))
 (.ops [Bn 15 .add 5 1, V 5 15])))))))
 (O [V 16 3, V 2 16]
 .ret)))), [.tmp 2], 17⟩
theorem c_dOf_is : cFunc Proofs.Tryd.prog Proofs.Tryd.f62 = some (eraseF c_dOf) := by kernel_rfl
theorem call_dOf {args : List Value} {h : Heap} {K : Value → Heap → Prop} (hl : args.length ≤ 17) (k : pwp Proofs.Tryd.prog c_dOf.body (BodyK c_dOf.results K) (enterF args) h) : PCall Proofs.Tryd.prog 62 args h K :=
  pcall_of (by kernel_rfl) (by kernel_rfl) c_dOf_is (by kernel_rfl) hl k
def c_dAccess : AFn :=
⟨(O [⟨some 1, none, .e (.box 4 4 (.tmp 0)), []⟩, N 2 0, N 3 0]
 (.seq (O [FA 4 0 1, L 5 4, Bk 6 .eql 5 .u8 7]
 (.cond (.tmp 6)
 (O [FA 7 2 1, L 8 7, FA 9 1 1, L 10 9, V 2 8, V 3 10]
 .ret)
 .skip))
 (O [FA 11 1 1, L 12 11, FA 13 2 1, L 14 13, V 2 12, V 3 14]
 .ret))), [.tmp 2, .tmp 3], 15⟩
theorem c_dAccess_is : cFunc Proofs.Tryd.prog Proofs.Tryd.f61 = some (eraseF c_dAccess) := by kernel_rfl
theorem call_dAccess {args : List Value} {h : Heap} {K : Value → Heap → Prop} (hl : args.length ≤ 15) (k : pwp Proofs.Tryd.prog c_dAccess.body (BodyK c_dAccess.results K) (enterF args) h) : PCall Proofs.Tryd.prog 61 args h K :=
  pcall_of (by kernel_rfl) (by kernel_rfl) c_dAccess_is (by kernel_rfl) hl k
def c_dAdds : AFn :=
⟨(O [⟨some 1, none, .e (.box 4 4 (.tmp 0)), []⟩, ⟨some 2, none, .q (.val (.const (.int .u64 0))), []⟩]
 (O [LA 6 4 1, ⟨some 7, none, .call 61 [(.tmp 6)], []⟩, V 5 7, ⟨some 8, none, .q (.ext (.tmp 5) 0), []⟩, ⟨some 9, none, .q (.ext (.tmp 5) 1), []⟩, V 3 8, V 4 9]
 (.seq (O [FA 10 0 1, L 11 10, Bk 12 .neq 11 .u8 7, V 13 12, Gd 13 true (FA 14 0 1), Gd 13 true (L 15 14), Gd 13 true (Bk 16 .neq 15 .u8 8), Pk 17 13 16 false, V 18 17, Gd 18 false (V 19 4), Gd 18 false (Bn 20 .lss 19 0), ⟨some 21, none, .q (.pick (.tmp 18) (.const (.bool true)) (.tmp 20)), []⟩, V 22 21, Gd 22 false (V 23 4), Gd 22 false (Bn 24 .geq 23 4), ⟨some 25, none, .q (.pick (.tmp 22) (.const (.bool true)) (.tmp 24)), []⟩]
 (.cond (.tmp 25)
 (O [⟨some 2, none, .q (.val (.const (.int .u64 0))), []⟩]
 .ret)
 .skip))
 (O [V 26 3, ⟨some 27, none, .call 24 [(.tmp 26)], []⟩, V 28 4, ⟨some 29, none, .call 62 [(.tmp 28)], []⟩, B 30 .and 27 29, V 2 30]
 .ret)))), [.tmp 2], 31⟩
theorem c_dAdds_is : cFunc Proofs.Tryd.prog Proofs.Tryd.f32 = some (eraseF c_dAdds) := by kernel_rfl
theorem call_dAdds {args : List Value} {h : Heap} {K : Value → Heap → Prop} (hl : args.length ≤ 31) (k : pwp Proofs.Tryd.prog c_dAdds.body (BodyK c_dAdds.results K) (enterF args) h) : PCall Proofs.Tryd.prog 32 args h K :=
  pcall_of (by kernel_rfl) (by kernel_rfl) c_dAdds_is (by kernel_rfl) hl k
def c_dTakes : AFn :=
⟨(O [⟨some 1, none, .e (.box 4 4 (.tmp 0)), []⟩, ⟨some 2, none, .q (.val (.const (.int .u64 0))), []⟩]
 (.seq (O [FA 6 0 1, L 7 6, ⟨some 8, none, .call 63 [(.tmp 7)], []⟩]
 (.cond (.tmp 8)
 (O [⟨some 2, none, .q (.val (.const (.int .u64 18446744073709551615))), []⟩]
 .ret)
 .skip))
 (O [⟨some 3, none, .q (.val (.const (.int .u64 0))), []⟩]
 (.seq (O [LA 9 4 1, ⟨some 10, none, .call 54 [(.tmp 9)], []⟩, ⟨some 11, none, .call 41 [(.const (.int .i64 4))], []⟩, B 12 .and 10 11, ⟨some 13, none, .call 45 [(.tmp 12)], []⟩, Ln 14 13, N 15 0]
 (.block 0 (.loop (O [B 16 .lss 15 14]
 (.seq (.cond (.tmp 16)
 .skip
 (.exit 0))
 (.seq (.block 1 (O [X 17 1 13 15, L 18 17, V 5 18]
 (.ops [V 19 3, V 20 5, ⟨some 21, none, .call 62 [(.tmp 20)], []⟩, B 22 .or 19 21, V 3 22])))
 (.ops [Bn 23 .add 15 1, V 15 23])))))))
 (.seq (O [FA 24 0 1, L 25 24, Bk 26 .eql 25 .u8 8]
 (.cond (.tmp 26)
 (.ops [V 27 3, FA 28 1 1, L 29 28, ⟨some 30, none, .call 24 [(.tmp 29)], []⟩, B 31 .or 27 30, V 3 31])
 .skip))
 (O [V 32 3, V 2 32]
 .ret)))))), [.tmp 2], 33⟩
theorem c_dTakes_is : cFunc Proofs.Tryd.prog Proofs.Tryd.f33 = some (eraseF c_dTakes) := by kernel_rfl
theorem call_dTakes {args : List Value} {h : Heap} {K : Value → Heap → Prop} (hl : args.length ≤ 33) (k : pwp Proofs.Tryd.prog c_dTakes.body (BodyK c_dTakes.results K) (enterF args) h) : PCall Proofs.Tryd.prog 33 args h K :=
  pcall_of (by kernel_rfl) (by kernel_rfl) c_dTakes_is (by kernel_rfl) hl k
def c_dKnown : AFn :=
⟨(O [E 2]
 (.seq (O [V 8 0, Ln 9 8, Bn 10 .gtr 9 60]
 (.cond (.tmp 10)
 (O [E 2]
 .ret)
 .skip))
 (O [V 11 0, ⟨some 12, none, .call 22 [(.tmp 11)], []⟩, ⟨some 13, none, .q (.build [(.slice none 0 0), (.slice none 0 0), (.slice none 0 0), (.int .u64 0), (.bool false), (.bool false)] [(0, 1, (.tmp 12)), (4, 1, (.const (.bool true)))]), []⟩, ⟨some 3, none, .e (.new [(.slice none 0 0), (.slice none 0 0), (.slice none 0 0), (.int .u64 0), (.bool false), (.bool false)] 6), []⟩, ⟨none, none, .e (.store 6 (.tmp 3) (.tmp 13)), []⟩]
 (.seq (O [V 14 0, Ln 15 14, N 16 0]
 (.block 0 (.loop (O [B 17 .lss 16 15]
 (.seq (.cond (.tmp 17)
 .skip
 (.exit 0))
 (.seq (.block 1 (O [X 18 4 14 16, LA 19 4 18, ⟨some 5, none, .e (.new [(.int .u8 0), (.int .i64 0), (.int .i64 0), (.int .i64 0)] 4), []⟩, ⟨none, none, .e (.store 4 (.tmp 5) (.tmp 19)), []⟩]
 (O [FA 20 1 3, L 21 20, LA 22 4 5, ⟨some 23, none, .st (.call 32 [(.tmp 22)]), [.load (.tmp 20)]⟩, ⟨some 24, none, .st (.e (.lit [(.int .u64 0)] 1 1 [(0, 1, (.tmp 23))])), [.load (.tmp 20)]⟩, Ap 25 1 21 24, FA 26 1 3, S 26 25]
 (.ops [FA 27 2 3, L 28 27, LA 29 4 5, ⟨some 30, none, .st (.call 33 [(.tmp 29)]), [.load (.tmp 27)]⟩, ⟨some 31, none, .st (.e (.lit [(.int .u64 0)] 1 1 [(0, 1, (.tmp 30))])), [.load (.tmp 27)]⟩, Ap 32 1 28 31, FA 33 2 3, S 33 32]))))
 (.ops [Bn 34 .add 16 1, V 16 34])))))))
 (O [LA 36 6 3, Z 1 36, ⟨some 37, none, .call 34 [(.tmp 36)], []⟩, V 35 37, ⟨some 38, none, .q (.ext (.tmp 35) 0), []⟩, ⟨some 39, none, .q (.ext (.tmp 35) 1), []⟩, V 6 38, V 7 39]
 (O [V 40 6, V 2 40]
 .ret)))))), [.tmp 2], 41⟩
theorem c_dKnown_is : cFunc Proofs.Tryd.prog Proofs.Tryd.f18 = some (eraseF c_dKnown) := by kernel_rfl
theorem call_dKnown {args : List Value} {h : Heap} {K : Value → Heap → Prop} (hl : args.length ≤ 41) (k : pwp Proofs.Tryd.prog c_dKnown.body (BodyK c_dKnown.results K) (enterF args) h) : PCall Proofs.Tryd.prog 18 args h K :=
  pcall_of (by kernel_rfl) (by kernel_rfl) c_dKnown_is (by kernel_rfl) hl k
def c_dCode : AFn :=
⟨(O [⟨some 2, none, .e (.new [(.slice none 0 0), (.slice none 0 0)] 2), []⟩]
 (.seq (O [V 10 0, Ln 11 10, Bn 12 .gtr 11 60]
 (.cond (.tmp 12)
 (O [⟨some 13, none, .q (.build [(.slice none 0 0), (.slice none 0 0)] []), []⟩, ⟨none, none, .e (.store 2 (.tmp 2) (.tmp 13)), []⟩]
 .ret)
 .skip))
 (O [V 14 0, ⟨some 15, none, .call 20 [(.tmp 14)], []⟩, ⟨some 16, none, .q (.build [(.slice none 0 0), (.slice none 0 0)] [(0, 1, (.tmp 15))]), []⟩, ⟨some 3, none, .e (.new [(.slice none 0 0), (.slice none 0 0)] 2), []⟩, ⟨none, none, .e (.store 2 (.tmp 3) (.tmp 16)), []⟩]
 (O [V 17 0, ⟨some 18, none, .call 18 [(.tmp 17)], []⟩, V 19 0, ⟨some 20, none, .call 22 [(.tmp 19)], []⟩, ⟨some 21, none, .call 21 [(.tmp 20)], []⟩, V 4 18, V 5 21]
 (.seq (O [V 22 0, Ln 23 22, N 24 0]
 (.block 0 (.loop (O [B 25 .lss 24 23]
 (.seq (.cond (.tmp 25)
 .skip
 (.exit 0))
 (.seq (.block 1 (O [V 26 24, X 27 4 22 24, LA 28 4 27, ⟨some 7, none, .e (.new [(.int .u8 0), (.int .i64 0), (.int .i64 0), (.int .i64 0)] 4), []⟩, V 6 26, ⟨none, none, .e (.store 4 (.tmp 7) (.tmp 28)), []⟩]
 (O [FA 29 1 3, L 30 29, V 31 6, ⟨some 32, none, .e (.lit [(.int .i64 0)] 1 1 [(0, 1, (.tmp 31))]), []⟩, Ap 33 1 30 32, FA 34 1 3, S 34 33]
 (.seq (O [FA 35 0 7, L 36 35, Bk 37 .neq 36 .u8 7, V 38 37, Gd 38 false (V 39 5), Gd 38 false (V 40 6), Gd 38 false (X 41 1 39 40), Gd 38 false (L 42 41), Gd 38 false (Nt 43 42), ⟨some 44, none, .q (.pick (.tmp 38) (.const (.bool true)) (.tmp 43)), []⟩]
 (.cond (.tmp 44)
 (.exit 1)
 .skip))
 (O [V 45 4, V 46 6, X 47 1 45 46, L 48 47, FA 49 2 7, L 50 49, ⟨some 51, none, .st (.call 24 [(.tmp 50)]), [.load (.tmp 47)]⟩, B 52 .and 48 51, ⟨some 53, none, .call 23 [(.tmp 52), (.const (.int .i64 0))], []⟩, V 8 53]
 (.seq (O [V 54 8, Bn 55 .lss 54 0]
 (.cond (.tmp 55)
 (.exit 1)
 .skip))
 (O [FA 56 0 3, L 57 56, V 58 6, ⟨some 59, none, .q (.build [(.int .u8 0), (.int .i64 0), (.int .i64 0), (.int .i64 0)] []), []⟩, X 60 4 57 58, ⟨none, none, .e (.store 4 (.tmp 60) (.tmp 59)), []⟩]
 (O [V 61 8, Bn 62 .rem 61 4, V 9 62]
 (O [V 63 9, FA 64 1 7, L 65 64, B 66 .neq 63 65]
 (.cond (.tmp 66)
 (.ops [FA 67 0 3, L 68 67, V 69 6, FA 70 1 7, L 71 70, V 72 9, ⟨some 73, none, .q (.build [(.int .u8 0), (.int .i64 0), (.int .i64 0), (.int .i64 0)] [(0, 1, (.const (.int .u8 2))), (1, 1, (.tmp 71)), (2, 1, (.tmp 72))]), []⟩, X 74 4 68 69, ⟨none, none, .e (.store 4 (.tmp 74) (.tmp 73)), []⟩])
 .skip))))))))))
 (.ops [Bn 75 .add 24 1, V 24 75])))))))
 (O [LA 76 2 3, ⟨none, none, .e (.store 2 (.tmp 2) (.tmp 76)), []⟩]
 .ret)))))), [.cells 2 2], 77⟩
theorem c_dCode_is : cFunc Proofs.Tryd.prog Proofs.Tryd.f11 = some (eraseF c_dCode) := by kernel_rfl
theorem call_dCode {args : List Value} {h : Heap} {K : Value → Heap → Prop} (hl : args.length ≤ 77) (k : pwp Proofs.Tryd.prog c_dCode.body (BodyK c_dCode.results K) (enterF args) h) : PCall Proofs.Tryd.prog 11 args h K :=
  pcall_of (by kernel_rfl) (by kernel_rfl) c_dCode_is (by kernel_rfl) hl k
def c_irAcq : AFn :=
⟨(O [T 2 false]
 (O [V 6 0, ⟨some 7, none, .call 92 [(.tmp 6)], []⟩, V 5 7, ⟨some 8, none, .q (.ext (.tmp 5) 0), []⟩, ⟨some 9, none, .q (.ext (.tmp 5) 1), []⟩, ⟨some 3, none, .e (.new [(.string ⟨#[]⟩), (.int .u8 0), (.int .u8 0), (.int .u8 0), (.bool false), (.bool false), (.bool false)] 7), []⟩, ⟨none, none, .e (.store 7 (.tmp 3) (.tmp 8)), []⟩, V 4 9]
 (O [FA 10 5 3, L 11 10, V 2 11]
 .ret))), [.tmp 2], 12⟩
theorem c_irAcq_is : cFunc Proofs.Tryd.prog Proofs.Tryd.f63 = some (eraseF c_irAcq) := by kernel_rfl
theorem call_irAcq {args : List Value} {h : Heap} {K : Value → Heap → Prop} (hl : args.length ≤ 12) (k : pwp Proofs.Tryd.prog c_irAcq.body (BodyK c_irAcq.results K) (enterF args) h) : PCall Proofs.Tryd.prog 63 args h K :=
  pcall_of (by kernel_rfl) (by kernel_rfl) c_irAcq_is (by kernel_rfl) hl k
def c_R2Acq : AFn :=
⟨(O [T 2 false]
 (O [V 3 0, Bk 4 .eql 3 .u8 13, V 5 4, Gd 5 false (V 6 0), Gd 5 false (Bk 7 .eql 6 .u8 15), ⟨some 8, none, .q (.pick (.tmp 5) (.const (.bool true)) (.tmp 7)), []⟩, V 9 8, Gd 9 false (V 10 0), Gd 9 false (Bk 11 .eql 10 .u8 17), ⟨some 12, none, .q (.pick (.tmp 9) (.const (.bool true)) (.tmp 11)), []⟩, V 13 12, Gd 13 false (V 14 0), Gd 13 false (Bk 15 .geq 14 .u8 19), Gd 13 false (V 16 15), Gd 16 true (V 17 0), Gd 16 true (Bk 18 .leq 17 .u8 22), Gd 13 false (Pk 19 16 18 false), ⟨some 20, none, .q (.pick (.tmp 13) (.const (.bool true)) (.tmp 19)), []⟩, V 21 20, Gd 21 false (V 22 0), Gd 21 false (Bk 23 .eql 22 .u8 25), ⟨some 24, none, .q (.pick (.tmp 21) (.const (.bool true)) (.tmp 23)), []⟩, V 25 24, Gd 25 false (V 26 0), Gd 25 false (Bk 27 .eql 26 .u8 26), ⟨some 28, none, .q (.pick (.tmp 25) (.const (.bool true)) (.tmp 27)), []⟩, V 2 28]
 .ret)), [.tmp 2], 29⟩
theorem c_R2Acq_is : cFunc Proofs.Tryd.prog Proofs.Tryd.f12 = some (eraseF c_R2Acq) := by kernel_rfl
theorem call_R2Acq {args : List Value} {h : Heap} {K : Value → Heap → Prop} (hl : args.length ≤ 29) (k : pwp Proofs.Tryd.prog c_R2Acq.body (BodyK c_R2Acq.results K) (enterF args) h) : PCall Proofs.Tryd.prog 12 args h K :=
  pcall_of (by kernel_rfl) (by kernel_rfl) c_R2Acq_is (by kernel_rfl) hl k
def c_known17 : AFn :=
⟨(O [T 0 false]
 (O [⟨some 4, none, .q (.build [(.int .u8 0), (.int .i64 0), (.int .i64 0), (.int .i64 0)] [(0, 1, (.const (.int .u8 7))), (2, 1, (.const (.int .i64 1)))]), []⟩, ⟨some 5, none, .q (.build [(.int .u8 0), (.int .i64 0), (.int .i64 0), (.int .i64 0)] [(0, 1, (.const (.int .u8 7))), (1, 1, (.const (.int .i64 2))), (2, 1, (.const (.int .i64 1)))]), []⟩, ⟨some 6, none, .e (.lit [(.int .u8 0), (.int .i64 0), (.int .i64 0), (.int .i64 0), (.int .u8 0), (.int .i64 0), (.int .i64 0), (.int .i64 0)] 4 2 [(0, 4, (.tmp 4)), (4, 4, (.tmp 5))]), []⟩, Z 4 6, ⟨some 7, none, .call 11 [(.tmp 6)], []⟩, ⟨some 1, none, .e (.new [(.slice none 0 0), (.slice none 0 0)] 2), []⟩, ⟨none, none, .e (.store 2 (.tmp 1) (.tmp 7)), []⟩]
 (O [⟨some 8, none, .q (.build [(.int .u8 0), (.int .i64 0), (.int .i64 0), (.int .i64 0)] [(0, 1, (.const (.int .u8 7))), (2, 1, (.const (.int .i64 1)))]), []⟩, ⟨some 9, none, .q (.build [(.int .u8 0), (.int .i64 0), (.int .i64 0), (.int .i64 0)] [(0, 1, (.const (.int .u8 13)))]), []⟩, ⟨some 10, none, .q (.build [(.int .u8 0), (.int .i64 0), (.int .i64 0), (.int .i64 0)] [(0, 1, (.const (.int .u8 7))), (1, 1, (.const (.int .i64 2))), (2, 1, (.const (.int .i64 1)))]), []⟩, ⟨some 11, none, .e (.lit [(.int .u8 0), (.int .i64 0), (.int .i64 0), (.int .i64 0), (.int .u8 0), (.int .i64 0), (.int .i64 0), (.int .i64 0), (.int .u8 0), (.int .i64 0), (.int .i64 0), (.int .i64 0)] 4 3 [(0, 4, (.tmp 8)), (4, 4, (.tmp 9)), (8, 4, (.tmp 10))]), []⟩, Z 4 11, ⟨some 12, none, .call 11 [(.tmp 11)], []⟩, ⟨some 2, none, .e (.new [(.slice none 0 0), (.slice none 0 0)] 2), []⟩, ⟨none, none, .e (.store 2 (.tmp 2) (.tmp 12)), []⟩]
 (O [⟨some 13, none, .q (.build [(.int .u8 0), (.int .i64 0), (.int .i64 0), (.int .i64 0)] [(0, 1, (.const (.int .u8 7))), (2, 1, (.const (.int .i64 1)))]), []⟩, ⟨some 14, none, .q (.build [(.int .u8 0), (.int .i64 0), (.int .i64 0), (.int .i64 0)] []), []⟩, ⟨some 15, none, .e (.lit [(.int .u8 0), (.int .i64 0), (.int .i64 0), (.int .i64 0), (.int .u8 0), (.int .i64 0), (.int .i64 0), (.int .i64 0)] 4 2 [(0, 4, (.tmp 13)), (4, 4, (.tmp 14))]), []⟩, Z 4 15, ⟨some 16, none, .call 18 [(.tmp 15)], []⟩, V 3 16]
 (O [FA 17 0 1, L 18 17, Ln 19 18, Bn 20 .eql 19 2, V 21 20, Gd 21 true (FA 22 0 1), Gd 21 true (L 23 22), ⟨some 24, some (21, true), .q (.idxA 4 (.tmp 23) (.const (.int .i64 1))), []⟩, Gd 21 true (LA 25 4 24), ⟨some 26, some (21, true), .q (.build [(.int .u8 0), (.int .i64 0), (.int .i64 0), (.int .i64 0)] [(0, 1, (.const (.int .u8 2))), (1, 1, (.const (.int .i64 2)))]), []⟩, ⟨some 27, some (21, true), .q (.eqA [0, 0, 0, 0] false (.tmp 25) (.tmp 26)), []⟩, Pk 28 21 27 false, V 29 28, Gd 29 true (FA 30 0 2), Gd 29 true (L 31 30), Gd 29 true (Ln 32 31), Gd 29 true (Bn 33 .eql 32 3), Pk 34 29 33 false, V 35 34, Gd 35 true (FA 36 0 2), Gd 35 true (L 37 36), ⟨some 38, some (35, true), .q (.idxA 4 (.tmp 37) (.const (.int .i64 2))), []⟩, Gd 35 true (FA 39 0 38), Gd 35 true (L 40 39), Gd 35 true (Bk 41 .eql 40 .u8 7), Pk 42 35 41 false, V 43 42, Gd 43 true (V 44 3), Gd 43 true (Ln 45 44), Gd 43 true (Bn 46 .eql 45 2), Pk 47 43 46 false, V 48 47, Gd 48 true (V 49 3), ⟨some 50, some (48, true), .q (.idxA 1 (.tmp 49) (.const (.int .i64 0))), []⟩, Gd 48 true (L 51 50), Gd 48 true (Bk 52 .eql 51 .u64 0), Pk 53 48 52 false, V 54 53, Gd 54 true (V 55 3), ⟨some 56, some (54, true), .q (.idxA 1 (.tmp 55) (.const (.int .i64 1))), []⟩, Gd 54 true (L 57 56), Gd 54 true (Bk 58 .eql 57 .u64 16), Pk 59 54 58 false, V 0 59]
 .ret))))), [.tmp 0], 60⟩
theorem c_known17_is : cFunc Proofs.Tryd.prog Proofs.Tryd.f9 = some (eraseF c_known17) := by kernel_rfl
theorem call_known17 {args : List Value} {h : Heap} {K : Value → Heap → Prop} (hl : args.length ≤ 60) (k : pwp Proofs.Tryd.prog c_known17.body (BodyK c_known17.results K) (enterF args) h) : PCall Proofs.Tryd.prog 9 args h K :=
  pcall_of (by kernel_rfl) (by kernel_rfl) c_known17_is (by kernel_rfl) hl k
def c_LoadsKept : AFn :=
⟨(O [T 4 false]
 (O [V 9 0, Bk 10 .rem 9 .u8 28, ⟨some 11, none, .q (.build [(.int .u8 0), (.int .i64 0), (.int .i64 0), (.int .i64 0)] [(0, 1, (.tmp 10))]), []⟩, ⟨some 5, none, .e (.new [(.int .u8 0), (.int .i64 0), (.int .i64 0), (.int .i64 0)] 4), []⟩, ⟨none, none, .e (.store 4 (.tmp 5) (.tmp 11)), []⟩]
 (.seq (O [FA 12 0 5, L 13 12, Bk 14 .eql 13 .u8 10, V 15 14, Gd 15 false (FA 16 0 5), Gd 15 false (L 17 16), Gd 15 false (Bk 18 .eql 17 .u8 11), ⟨some 19, none, .q (.pick (.tmp 15) (.const (.bool true)) (.tmp 18)), []⟩]
 (.cond (.tmp 19)
 (O [⟨some 20, none, .call 9 [], []⟩, V 4 20]
 .ret)
 .skip))
 (.seq (O [FA 21 0 5, L 22 21]
 (.block 0 (O [Bk 31 .eql 22 .u8 8, V 30 31]
 (.cond (.tmp 30)
 (O [V 32 1, Bk 33 .rem 32 .u8 2, Cv' 34 .i64 33, FA 35 1 5, S 35 34]
 (.ops [FA 36 2 5, ⟨none, none, .e (.store 1 (.tmp 36) (.const (.int .i64 3))), []⟩]))
 (O [Bk 38 .eql 22 .u8 7, V 37 38]
 (.cond (.tmp 37)
 (O [V 39 1, Bk 40 .rem 39 .u8 2, Cv' 41 .i64 40, FA 42 1 5, S 42 41]
 (.ops [FA 43 2 5, ⟨none, none, .e (.store 1 (.tmp 43) (.const (.int .i64 1))), []⟩]))
 (O [LA 23 4 5, ⟨some 24, none, .call 10 [(.tmp 23)], []⟩, Bk 25 .gtr 24 .u64 0]
 (.cond (.tmp 25)
 (.ops [V 26 1, Bk 27 .rem 26 .u8 2, Cv' 28 .i64 27, FA 29 1 5, S 29 28])
 .skip))))))))
 (O [⟨some 44, none, .q (.build [(.int .u8 0), (.int .i64 0), (.int .i64 0), (.int .i64 0)] [(0, 1, (.const (.int .u8 7)))]), []⟩, LA 45 4 5, ⟨some 46, none, .q (.build [(.int .u8 0), (.int .i64 0), (.int .i64 0), (.int .i64 0)] [(0, 1, (.const (.int .u8 7))), (1, 1, (.const (.int .i64 2)))]), []⟩, ⟨some 47, none, .e (.lit [(.int .u8 0), (.int .i64 0), (.int .i64 0), (.int .i64 0), (.int .u8 0), (.int .i64 0), (.int .i64 0), (.int .i64 0), (.int .u8 0), (.int .i64 0), (.int .i64 0), (.int .i64 0)] 4 3 [(0, 4, (.tmp 44)), (4, 4, (.tmp 45)), (8, 4, (.tmp 46))]), []⟩, Z 4 47, ⟨some 48, none, .call 11 [(.tmp 47)], []⟩, ⟨some 6, none, .e (.new [(.slice none 0 0), (.slice none 0 0)] 2), []⟩, ⟨none, none, .e (.store 2 (.tmp 6) (.tmp 48)), []⟩]
 (.seq (O [FA 49 0 6, L 50 49, Ln 51 50, Bn 52 .neq 51 3]
 (.cond (.tmp 52)
 (O [T 4 false]
 .ret)
 .skip))
 (O [LA 53 4 5, ⟨some 54, none, .call 10 [(.tmp 53)], []⟩, Bk 55 .rem 54 .u64 2, Bk 56 .eql 55 .u64 1, V 7 56]
 (O [FA 57 0 5, L 58 57, ⟨some 59, none, .call 12 [(.tmp 58)], []⟩, V 60 59, Gd 60 false (V 61 7), Gd 60 false (V 62 61), Gd 62 true (FA 63 0 5), Gd 62 true (L 64 63), Gd 62 true (Bk 65 .neq 64 .u8 8), Gd 60 false (Pk 66 62 65 false), ⟨some 67, none, .q (.pick (.tmp 60) (.const (.bool true)) (.tmp 66)), []⟩, V 8 67]
 (.seq (O [FA 68 0 5, L 69 68, Bk 70 .eql 69 .u8 8, V 71 70, Gd 71 true (FA 72 1 5), Gd 71 true (L 73 72), Gd 71 true (Bn 74 .eql 73 0), Pk 75 71 74 false]
 (.cond (.tmp 75)
 (O [⟨some 76, none, .call 9 [], []⟩, V 77 76, Gd 77 true (FA 78 0 6), Gd 77 true (L 79 78), ⟨some 80, some (77, true), .q (.idxA 4 (.tmp 79) (.const (.int .i64 2))), []⟩, Gd 77 true (LA 81 4 80), ⟨some 82, some (77, true), .q (.build [(.int .u8 0), (.int .i64 0), (.int .i64 0), (.int .i64 0)] [(0, 1, (.const (.int .u8 2))), (1, 1, (.const (.int .i64 2))), (2, 1, (.const (.int .i64 3)))]), []⟩, ⟨some 83, some (77, true), .q (.eqA [0, 0, 0, 0] false (.tmp 81) (.tmp 82)), []⟩, Pk 84 77 83 false, V 4 84]
 .ret)
 .skip))
 (O [⟨some 85, none, .call 9 [], []⟩, V 86 85, Gd 86 true (FA 87 0 6), Gd 86 true (L 88 87), ⟨some 89, some (86, true), .q (.idxA 4 (.tmp 88) (.const (.int .i64 2))), []⟩, Gd 86 true (FA 90 0 89), Gd 86 true (L 91 90), Gd 86 true (Bk 92 .eql 91 .u8 7), Gd 86 true (V 93 8), ⟨some 94, some (86, true), .q (.eqB false (.tmp 92) (.tmp 93)), []⟩, Pk 95 86 94 false, V 96 95, Gd 96 true (V 97 8), Gd 96 true (V 98 97), Gd 98 false (FA 99 0 6), Gd 98 false (L 100 99), ⟨some 101, some (98, false), .q (.idxA 4 (.tmp 100) (.const (.int .i64 2))), []⟩, Gd 98 false (LA 102 4 101), ⟨some 103, some (98, false), .q (.build [(.int .u8 0), (.int .i64 0), (.int .i64 0), (.int .i64 0)] [(0, 1, (.const (.int .u8 2))), (1, 1, (.const (.int .i64 2)))]), []⟩, ⟨some 104, some (98, false), .q (.eqA [0, 0, 0, 0] false (.tmp 102) (.tmp 103)), []⟩, ⟨some 105, some (96, true), .q (.pick (.tmp 98) (.const (.bool true)) (.tmp 104)), []⟩, Pk 106 96 105 false, V 4 106]
 .ret)))))))))), [.tmp 4], 107⟩
theorem c_LoadsKept_is : cFunc Proofs.Tryd.prog Proofs.Tryd.f3 = some (eraseF c_LoadsKept) := by kernel_rfl
theorem call_LoadsKept {args : List Value} {h : Heap} {K : Value → Heap → Prop} (hl : args.length ≤ 107) (k : pwp Proofs.Tryd.prog c_LoadsKept.body (BodyK c_LoadsKept.results K) (enterF args) h) : PCall Proofs.Tryd.prog 3 args h K :=
  pcall_of (by kernel_rfl) (by kernel_rfl) c_LoadsKept_is (by kernel_rfl) hl k
def c_LoadsOnly : AFn :=
⟨(O [T 2 false]
 (O [V 7 0, ⟨some 8, none, .call 13 [(.tmp 7)], []⟩, F 9 6 8, ⟨some 10, none, .q (.idxA 1 (.tmp 9) (.const (.int .i64 0))), []⟩, L 11 10, V 3 11]
 (O [V 12 3, Z 4 12, ⟨some 13, none, .call 11 [(.tmp 12)], []⟩, ⟨some 4, none, .e (.new [(.slice none 0 0), (.slice none 0 0)] 2), []⟩, ⟨none, none, .e (.store 2 (.tmp 4) (.tmp 13)), []⟩]
 (.seq (O [FA 14 0 4, L 15 14, Ln 16 15, V 17 3, Ln 18 17, B 19 .neq 16 18, V 20 19, Gd 20 false (FA 21 1 4), Gd 20 false (L 22 21), Gd 20 false (Ln 23 22), Gd 20 false (V 24 3), Gd 20 false (Ln 25 24), Gd 20 false (B 26 .neq 23 25), ⟨some 27, none, .q (.pick (.tmp 20) (.const (.bool true)) (.tmp 26)), []⟩]
 (.cond (.tmp 27)
 (O [T 2 false]
 .ret)
 .skip))
 (.seq (O [N 5 0]
 (.block 0 (.loop (.seq (O [V 28 5, V 29 3, Ln 30 29, B 31 .lss 28 30]
 (.cond (.tmp 31)
 .skip
 (.exit 0)))
 (.seq (.block 1 (O [FA 34 0 4, L 35 34, V 36 5, X 37 4 35 36, LA 38 4 37, ⟨some 6, none, .e (.new [(.int .u8 0), (.int .i64 0), (.int .i64 0), (.int .i64 0)] 4), []⟩, ⟨none, none, .e (.store 4 (.tmp 6) (.tmp 38)), []⟩]
 (O [LA 39 4 6, V 40 3, V 41 5, X 42 4 40 41, LA 43 4 42, ⟨some 44, none, .q (.eqA [0, 0, 0, 0] true (.tmp 39) (.tmp 43)), []⟩, V 45 44, Gd 45 true (V 46 3), Gd 45 true (V 47 5), Gd 45 true (X 48 4 46 47), Gd 45 true (FA 49 0 48), Gd 45 true (L 50 49), Gd 45 true (Bk 51 .neq 50 .u8 7), Gd 45 true (V 52 51), Gd 52 false (FA 53 0 6), Gd 52 false (L 54 53), Gd 52 false (Bk 55 .neq 54 .u8 0), Gd 52 false (V 56 55), Gd 56 true (FA 57 0 6), Gd 56 true (L 58 57), Gd 56 true (Bk 59 .neq 58 .u8 2), Gd 56 true (V 60 59), Gd 60 false (FA 61 1 6), Gd 60 false (L 62 61), Gd 60 false (V 63 3), Gd 60 false (V 64 5), Gd 60 false (X 65 4 63 64), Gd 60 false (FA 66 1 65), Gd 60 false (L 67 66), Gd 60 false (B 68 .neq 62 67), ⟨some 69, some (56, true), .q (.pick (.tmp 60) (.const (.bool true)) (.tmp 68)), []⟩, Gd 52 false (Pk 70 56 69 false), ⟨some 71, some (45, true), .q (.pick (.tmp 52) (.const (.bool true)) (.tmp 70)), []⟩, Pk 72 45 71 false, V 73 72, Gd 73 false (FA 74 1 4), Gd 73 false (L 75 74), Gd 73 false (V 76 5), Gd 73 false (X 77 1 75 76), Gd 73 false (L 78 77), Gd 73 false (V 79 5), Gd 73 false (B 80 .neq 78 79), ⟨some 81, none, .q (.pick (.tmp 73) (.const (.bool true)) (.tmp 80)), []⟩]
 (.cond (.tmp 81)
 (O [T 2 false]
 .ret)
 .skip))))
 (.ops [V 32 5, Bn 33 .add 32 1, V 5 33]))))))
 (O [⟨some 82, none, .call 9 [], []⟩, V 2 82]
 .ret)))))), [.tmp 2], 83⟩
theorem c_LoadsOnly_is : cFunc Proofs.Tryd.prog Proofs.Tryd.f4 = some (eraseF c_LoadsOnly) := by kernel_rfl
theorem call_LoadsOnly {args : List Value} {h : Heap} {K : Value → Heap → Prop} (hl : args.length ≤ 83) (k : pwp Proofs.Tryd.prog c_LoadsOnly.body (BodyK c_LoadsOnly.results K) (enterF args) h) : PCall Proofs.Tryd.prog 4 args h K :=
  pcall_of (by kernel_rfl) (by kernel_rfl) c_LoadsOnly_is (by kernel_rfl) hl k
def c_LoadsChain : AFn :=
⟨(O [T 4 false]
 (O [V 10 0, Bk 11 .rem 10 .u8 8, Cv' 12 .i64 11, V 5 12]
 (O [V 13 5, ⟨some 14, none, .q (.build [(.int .u8 0), (.int .i64 0), (.int .i64 0), (.int .i64 0)] [(0, 1, (.const (.int .u8 7))), (2, 1, (.tmp 13))]), []⟩, ⟨some 15, none, .e (.lit [(.int .u8 0), (.int .i64 0), (.int .i64 0), (.int .i64 0)] 4 1 [(0, 4, (.tmp 14))]), []⟩, V 6 15]
 (.seq (O [N 7 0]
 (.block 0 (.loop (.seq (O [V 16 7, V 17 1, Ln 18 17, B 19 .lss 16 18, V 20 19, Gd 20 true (V 21 7), Gd 20 true (Bn 22 .lss 21 40), Pk 23 20 22 false]
 (.cond (.tmp 23)
 .skip
 (.exit 0)))
 (.seq (.block 1 (.ops [V 26 6, V 27 1, V 28 7, X 29 1 27 28, L 30 29, Bk 31 .rem 30 .u8 3, Cv' 32 .i64 31, ⟨some 33, none, .q (.bin .add (.const (.int .i64 1)) (.tmp 32)), []⟩, V 34 5, ⟨some 35, none, .q (.build [(.int .u8 0), (.int .i64 0), (.int .i64 0), (.int .i64 0)] [(0, 1, (.const (.int .u8 7))), (1, 1, (.tmp 33)), (2, 1, (.tmp 34))]), []⟩, ⟨some 36, none, .e (.lit [(.int .u8 0), (.int .i64 0), (.int .i64 0), (.int .i64 0)] 4 1 [(0, 4, (.tmp 35))]), []⟩, Ap 37 4 26 36, V 6 37]))
 (.ops [V 24 7, Bn 25 .add 24 1, V 7 25]))))))
 (O [V 38 6, Z 4 38, ⟨some 39, none, .call 11 [(.tmp 38)], []⟩, ⟨some 8, none, .e (.new [(.slice none 0 0), (.slice none 0 0)] 2), []⟩, ⟨none, none, .e (.store 2 (.tmp 8) (.tmp 39)), []⟩]
 (.seq (O [FA 40 0 8, L 41 40, Ln 42 41, V 43 6, Ln 44 43, B 45 .neq 42 44, V 46 45, Gd 46 false (FA 47 0 8), Gd 46 false (L 48 47), ⟨some 49, some (46, false), .q (.idxA 4 (.tmp 48) (.const (.int .i64 0))), []⟩, Gd 46 false (LA 50 4 49), Gd 46 false (V 51 6), ⟨some 52, some (46, false), .q (.idxA 4 (.tmp 51) (.const (.int .i64 0))), []⟩, Gd 46 false (LA 53 4 52), ⟨some 54, some (46, false), .q (.eqA [0, 0, 0, 0] true (.tmp 50) (.tmp 53)), []⟩, ⟨some 55, none, .q (.pick (.tmp 46) (.const (.bool true)) (.tmp 54)), []⟩]
 (.cond (.tmp 55)
 (O [T 4 false]
 .ret)
 .skip))
 (.seq (O [N 9 1]
 (.block 2 (.loop (.seq (O [V 56 9, V 57 6, Ln 58 57, B 59 .lss 56 58]
 (.cond (.tmp 59)
 .skip
 (.exit 2)))
 (.seq (.block 3 (O [FA 62 0 8, L 63 62, V 64 9, X 65 4 63 64, LA 66 4 65, V 67 6, V 68 9, X 69 4 67 68, FA 70 1 69, L 71 70, ⟨some 72, none, .q (.build [(.int .u8 0), (.int .i64 0), (.int .i64 0), (.int .i64 0)] [(0, 1, (.const (.int .u8 2))), (1, 1, (.tmp 71))]), []⟩, ⟨some 73, none, .q (.eqA [0, 0, 0, 0] true (.tmp 66) (.tmp 72)), []⟩]
 (.cond (.tmp 73)
 (O [T 4 false]
 .ret)
 .skip)))
 (.ops [V 60 9, Bn 61 .add 60 1, V 9 61]))))))
 (O [⟨some 74, none, .call 9 [], []⟩, V 4 74]
 .ret)))))))), [.tmp 4], 75⟩
theorem c_LoadsChain_is : cFunc Proofs.Tryd.prog Proofs.Tryd.f5 = some (eraseF c_LoadsChain) := by kernel_rfl
theorem call_LoadsChain {args : List Value} {h : Heap} {K : Value → Heap → Prop} (hl : args.length ≤ 75) (k : pwp Proofs.Tryd.prog c_LoadsChain.body (BodyK c_LoadsChain.results K) (enterF args) h) : PCall Proofs.Tryd.prog 5 args h K :=
  pcall_of (by kernel_rfl) (by kernel_rfl) c_LoadsChain_is (by kernel_rfl) hl k
end Pm
