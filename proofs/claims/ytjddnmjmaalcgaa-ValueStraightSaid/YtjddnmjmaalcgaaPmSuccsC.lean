/- Codes of the program's functions, as a program printed them, and that they are what the program's functions are compiled to.
   No condition: plain facts. -/
import Derived.Test.YtjddnmjmaalcgaaPm5
import Derived.Test.YtjddnmjmaalcgaaProg
import Derived.KernelRfl
namespace Pm
set_option linter.unusedSimpArgs false
set_option linter.unusedVariables false
open Go Am
set_option maxRecDepth 100000
@[irreducible] def len8tab : ByteArray := ⟨#[0, 1, 2, 2, 3, 3, 3, 3, 4, 4, 4, 4, 4, 4, 4, 4, 5, 5, 5, 5, 5, 5, 5, 5, 5, 5, 5, 5, 5, 5, 5, 5, 6, 6, 6, 6, 6, 6, 6, 6, 6, 6, 6, 6, 6, 6, 6, 6, 6, 6, 6, 6, 6, 6, 6, 6, 6, 6, 6, 6, 6, 6, 6, 6, 7, 7, 7, 7, 7, 7, 7, 7, 7, 7, 7, 7, 7, 7, 7, 7, 7, 7, 7, 7, 7, 7, 7, 7, 7, 7, 7, 7, 7, 7, 7, 7, 7, 7, 7, 7, 7, 7, 7, 7, 7, 7, 7, 7, 7, 7, 7, 7, 7, 7, 7, 7, 7, 7, 7, 7, 7, 7, 7, 7, 7, 7, 7, 7, 8, 8, 8, 8, 8, 8, 8, 8, 8, 8, 8, 8, 8, 8, 8, 8, 8, 8, 8, 8, 8, 8, 8, 8, 8, 8, 8, 8, 8, 8, 8, 8, 8, 8, 8, 8, 8, 8, 8, 8, 8, 8, 8, 8, 8, 8, 8, 8, 8, 8, 8, 8, 8, 8, 8, 8, 8, 8, 8, 8, 8, 8, 8, 8, 8, 8, 8, 8, 8, 8, 8, 8, 8, 8, 8, 8, 8, 8, 8, 8, 8, 8, 8, 8, 8, 8, 8, 8, 8, 8, 8, 8, 8, 8, 8, 8, 8, 8, 8, 8, 8, 8, 8, 8, 8, 8, 8, 8, 8, 8, 8, 8, 8, 8, 8, 8, 8, 8, 8, 8, 8, 8, 8, 8, 8, 8, 8, 8]⟩
def c_SortI : AFn :=
⟨(O [V 3 0, Ln 4 3, V 2 4]
 (.ops [V 5 0, V 6 2, V 7 2, Cv' 8 .u64 7, ⟨some 9, none, .call 58 [(.tmp 8)], []⟩, ⟨some 10, none, .call 57 [(.tmp 5), (.const (.int .i64 0)), (.tmp 6), (.tmp 9)], []⟩])), [], 11⟩
theorem call_SortI {args : List Value} {h : Heap} {K : Value → Heap → Prop} (hl : args.length ≤ 11) (k : pwp Proofs.Try.prog c_SortI.body (BodyK c_SortI.results K) (enterF args) h) : PCall Proofs.Try.prog 36 args h K :=
  pcall_of (fn := Proofs.Try.f36) (by kernel_rfl) (by kernel_rfl) (by kernel_rfl) (by kernel_rfl) hl k
def c_pdqI : AFn :=
⟨(O [T 8 true]
 (O [T 9 true]
 (.block 0 (.loop (.block 1 (O [V 19 2, V 20 1, B 21 .sub 19 20, V 10 21]
 (.seq (O [V 22 10, Bn 23 .leq 22 12]
 (.cond (.tmp 23)
 (O [V 24 0, V 25 1, V 26 2, ⟨some 27, none, .call 75 [(.tmp 24), (.tmp 25), (.tmp 26)], []⟩]
 .ret)
 .skip))
 (.seq (O [V 28 3, Bn 29 .eql 28 0]
 (.cond (.tmp 29)
 (O [V 30 0, V 31 1, V 32 2, ⟨some 33, none, .call 76 [(.tmp 30), (.tmp 31), (.tmp 32)], []⟩]
 .ret)
 .skip))
 (.seq (O [V 34 8, Nt 35 34]
 (.cond (.tmp 35)
 (O [V 36 0, V 37 1, V 38 2, ⟨some 39, none, .call 77 [(.tmp 36), (.tmp 37), (.tmp 38)], []⟩]
 (.ops [V 40 3, Bn 41 .sub 40 1, V 3 41]))
 .skip))
 (O [V 43 0, V 44 1, V 45 2, ⟨some 46, none, .call 78 [(.tmp 43), (.tmp 44), (.tmp 45)], []⟩, V 42 46, ⟨some 47, none, .q (.ext (.tmp 42) 0), []⟩, ⟨some 48, none, .q (.ext (.tmp 42) 1), []⟩, V 11 47, V 12 48]
 (.seq (O [V 49 12, Bn 50 .eql 49 2]
 (.cond (.tmp 50)
 (O [V 51 0, V 52 1, V 53 2, ⟨some 54, none, .call 79 [(.tmp 51), (.tmp 52), (.tmp 53)], []⟩]
 (O [V 55 2, Bn 56 .sub 55 1, V 57 11, V 58 1, B 59 .sub 57 58, B 60 .sub 56 59, V 11 60]
 (.ops [N 12 1])))
 .skip))
 (.seq (O [V 61 8, V 62 61, Gd 62 true (V 63 9), Pk 64 62 63 false, V 65 64, Gd 65 true (V 66 12), Gd 65 true (Bn 67 .eql 66 1), Pk 68 65 67 false]
 (.cond (.tmp 68)
 (O [V 69 0, V 70 1, V 71 2, ⟨some 72, none, .call 80 [(.tmp 69), (.tmp 70), (.tmp 71)], []⟩]
 (.cond (.tmp 72)
 .ret
 .skip))
 .skip))
 (.seq (O [V 73 1, Bn 74 .gtr 73 0, V 75 74, Gd 75 true (V 76 0), Gd 75 true (V 77 1), Gd 75 true (Bn 78 .sub 77 1), Gd 75 true (X 79 1 76 78), Gd 75 true (L 80 79), Gd 75 true (V 81 0), Gd 75 true (V 82 11), Gd 75 true (X 83 1 81 82), Gd 75 true (L 84 83), ⟨some 85, some (75, true), .call 81 [(.tmp 80), (.tmp 84)], []⟩, Gd 75 true (Nt 86 85), Pk 87 75 86 false]
 (.cond (.tmp 87)
 (O [V 88 0, V 89 1, V 90 2, V 91 11, ⟨some 92, none, .call 82 [(.tmp 88), (.tmp 89), (.tmp 90), (.tmp 91)], []⟩, V 13 92]
 (O [V 93 13, V 1 93]
 (.exit 1)))
 .skip))
 (O [V 95 0, V 96 1, V 97 2, V 98 11, ⟨some 99, none, .call 83 [(.tmp 95), (.tmp 96), (.tmp 97), (.tmp 98)], []⟩, V 94 99, ⟨some 100, none, .q (.ext (.tmp 94) 0), []⟩, ⟨some 101, none, .q (.ext (.tmp 94) 1), []⟩, V 14 100, V 15 101]
 (O [V 102 15, V 9 102]
 (O [V 103 14, V 104 1, B 105 .sub 103 104, V 106 2, V 107 14, B 108 .sub 106 107, V 16 105, V 17 108]
 (O [V 109 10, Bn 110 .quo 109 8, V 18 110]
 (O [V 111 16, V 112 17, B 113 .lss 111 112]
 (.cond (.tmp 113)
 (O [V 114 16, V 115 18, B 116 .geq 114 115, V 8 116]
 (O [V 117 0, V 118 1, V 119 14, V 120 3, ⟨some 121, none, .call 57 [(.tmp 117), (.tmp 118), (.tmp 119), (.tmp 120)], []⟩]
 (.ops [V 122 14, Bn 123 .add 122 1, V 1 123])))
 (O [V 124 17, V 125 18, B 126 .geq 124 125, V 8 126]
 (O [V 127 0, V 128 14, Bn 129 .add 128 1, V 130 2, V 131 3, ⟨some 132, none, .call 57 [(.tmp 127), (.tmp 129), (.tmp 130), (.tmp 131)], []⟩]
 (.ops [V 133 14, V 2 133])))))))))))))))))))))), [], 134⟩
theorem call_pdqI {args : List Value} {h : Heap} {K : Value → Heap → Prop} (hl : args.length ≤ 134) (k : pwp Proofs.Try.prog c_pdqI.body (BodyK c_pdqI.results K) (enterF args) h) : PCall Proofs.Try.prog 57 args h K :=
  pcall_of (fn := Proofs.Try.f57) (by kernel_rfl) (by kernel_rfl) (by kernel_rfl) (by kernel_rfl) hl k
def c_insI : AFn :=
⟨(O [V 8 1, Bn 9 .add 8 1, V 6 9]
 (.block 0 (.loop (.seq (O [V 10 6, V 11 2, B 12 .lss 10 11]
 (.cond (.tmp 12)
 .skip
 (.exit 0)))
 (.seq (.block 1 (O [V 15 6, V 7 15]
 (.block 2 (.loop (.seq (O [V 16 7, V 17 1, B 18 .gtr 16 17, V 19 18, Gd 19 true (V 20 0), Gd 19 true (V 21 7), Gd 19 true (X 22 1 20 21), Gd 19 true (L 23 22), Gd 19 true (V 24 0), Gd 19 true (V 25 7), Gd 19 true (Bn 26 .sub 25 1), Gd 19 true (X 27 1 24 26), Gd 19 true (L 28 27), ⟨some 29, some (19, true), .call 81 [(.tmp 23), (.tmp 28)], []⟩, Pk 30 19 29 false]
 (.cond (.tmp 30)
 .skip
 (.exit 2)))
 (.seq (.block 3 (.ops [V 33 0, V 34 7, V 35 0, V 36 7, Bn 37 .sub 36 1, V 38 0, V 39 7, Bn 40 .sub 39 1, X 41 1 38 40, L 42 41, V 43 0, V 44 7, X 45 1 43 44, L 46 45, X 47 1 33 34, S 47 42, X 48 1 35 37, S 48 46]))
 (.ops [V 31 7, Bn 32 .sub 31 1, V 7 32])))))))
 (.ops [V 13 6, Bn 14 .add 13 1, V 6 14])))))), [], 49⟩
theorem call_insI {args : List Value} {h : Heap} {K : Value → Heap → Prop} (hl : args.length ≤ 49) (k : pwp Proofs.Try.prog c_insI.body (BodyK c_insI.results K) (enterF args) h) : PCall Proofs.Try.prog 75 args h K :=
  pcall_of (fn := Proofs.Try.f75) (by kernel_rfl) (by kernel_rfl) (by kernel_rfl) (by kernel_rfl) hl k
def c_LessI : AFn :=
⟨(O [T 4 false]
 (O [V 5 0, ⟨some 6, none, .call 96 [(.tmp 5)], []⟩, V 7 6, Gd 7 true (V 8 1), ⟨some 9, some (7, true), .call 96 [(.tmp 8)], []⟩, Gd 7 true (Nt 10 9), Pk 11 7 10 false, V 12 11, Gd 12 false (V 13 0), Gd 12 false (V 14 1), Gd 12 false (B 15 .lss 13 14), ⟨some 16, none, .q (.pick (.tmp 12) (.const (.bool true)) (.tmp 15)), []⟩, V 4 16]
 .ret)), [.tmp 4], 17⟩
theorem call_LessI {args : List Value} {h : Heap} {K : Value → Heap → Prop} (hl : args.length ≤ 17) (k : pwp Proofs.Try.prog c_LessI.body (BodyK c_LessI.results K) (enterF args) h) : PCall Proofs.Try.prog 81 args h K :=
  pcall_of (fn := Proofs.Try.f81) (by kernel_rfl) (by kernel_rfl) (by kernel_rfl) (by kernel_rfl) hl k
def c_isNaNI : AFn :=
⟨(O [T 2 false]
 (O [V 3 0, V 4 0, B 5 .neq 3 4, V 2 5]
 .ret)), [.tmp 2], 6⟩
theorem call_isNaNI {args : List Value} {h : Heap} {K : Value → Heap → Prop} (hl : args.length ≤ 6) (k : pwp Proofs.Try.prog c_isNaNI.body (BodyK c_isNaNI.results K) (enterF args) h) : PCall Proofs.Try.prog 96 args h K :=
  pcall_of (fn := Proofs.Try.f96) (by kernel_rfl) (by kernel_rfl) (by kernel_rfl) (by kernel_rfl) hl k
def c_LenU : AFn :=
⟨(O [N 2 0]
 (.seq (.cond (.const (.bool false))
 (O [V 3 0, Cv' 4 .u32 3, ⟨some 5, none, .call 84 [(.tmp 4)], []⟩, V 2 5]
 .ret)
 .skip)
 (O [V 6 0, ⟨some 7, none, .call 85 [(.tmp 6)], []⟩, V 2 7]
 .ret))), [.tmp 2], 8⟩
theorem call_LenU {args : List Value} {h : Heap} {K : Value → Heap → Prop} (hl : args.length ≤ 8) (k : pwp Proofs.Try.prog c_LenU.body (BodyK c_LenU.results K) (enterF args) h) : PCall Proofs.Try.prog 58 args h K :=
  pcall_of (fn := Proofs.Try.f58) (by kernel_rfl) (by kernel_rfl) (by kernel_rfl) (by kernel_rfl) hl k
def c_Len64 : AFn :=
⟨(O [N 2 0]
 (.seq (O [V 3 0, Bk 4 .geq 3 .u64 4294967296]
 (.cond (.tmp 4)
 (O [V 5 0, Bk 6 .shr 5 .u64 32, V 0 6]
 (.ops [N 2 32]))
 .skip))
 (.seq (O [V 7 0, Bk 8 .geq 7 .u64 65536]
 (.cond (.tmp 8)
 (O [V 9 0, Bk 10 .shr 9 .u64 16, V 0 10]
 (.ops [V 11 2, Bn 12 .add 11 16, V 2 12]))
 .skip))
 (.seq (O [V 13 0, Bk 14 .geq 13 .u64 256]
 (.cond (.tmp 14)
 (O [V 15 0, Bk 16 .shr 15 .u64 8, V 0 16]
 (.ops [V 17 2, Bn 18 .add 17 8, V 2 18]))
 .skip))
 (O [V 19 2, V 20 0, Cv' 21 .u8 20, ⟨some 22, none, .q (.idxS (.const (.string len8tab)) (.tmp 21)), []⟩, Cv' 23 .i64 22, B 24 .add 19 23, V 2 24]
 .ret))))), [.tmp 2], 25⟩
theorem call_Len64 {args : List Value} {h : Heap} {K : Value → Heap → Prop} (hl : args.length ≤ 25) (k : pwp Proofs.Try.prog c_Len64.body (BodyK c_Len64.results K) (enterF args) h) : PCall Proofs.Try.prog 85 args h K :=
  pcall_of (fn := Proofs.Try.f85) (by kernel_rfl) (by kernel_rfl) (by kernel_rfl) (by kernel_rfl) hl k
def c_CompactI : AFn :=
⟨(O [E 2]
 (.seq (O [V 6 0, Ln 7 6, Bn 8 .lss 7 2]
 (.cond (.tmp 8)
 (O [V 9 0, V 2 9]
 .ret)
 .skip))
 (.seq (O [N 3 1]
 (.block 0 (.loop (.seq (O [V 10 3, V 11 0, Ln 12 11, B 13 .lss 10 12]
 (.cond (.tmp 13)
 .skip
 (.exit 0)))
 (.seq (.block 1 (O [V 16 0, V 17 3, X 18 1 16 17, L 19 18, V 20 0, V 21 3, Bn 22 .sub 21 1, X 23 1 20 22, L 24 23, B 25 .eql 19 24]
 (.cond (.tmp 25)
 (O [V 26 0, V 27 3, ⟨some 28, none, .q (.cut 1 (.tmp 26) (some (.tmp 27)) none), []⟩, V 4 28]
 (.seq (O [N 5 1]
 (.block 2 (.loop (.seq (O [V 29 5, V 30 4, Ln 31 30, B 32 .lss 29 31]
 (.cond (.tmp 32)
 .skip
 (.exit 2)))
 (.seq (.block 3 (O [V 35 4, V 36 5, X 37 1 35 36, L 38 37, V 39 4, V 40 5, Bn 41 .sub 40 1, X 42 1 39 41, L 43 42, B 44 .neq 38 43]
 (.cond (.tmp 44)
 (O [V 45 0, V 46 3, V 47 4, V 48 5, X 49 1 47 48, L 50 49, X 51 1 45 46, S 51 50]
 (.ops [V 52 3, Bn 53 .add 52 1, V 3 53]))
 .skip)))
 (.ops [V 33 5, Bn 34 .add 33 1, V 5 34]))))))
 (O [V 54 0, V 55 3, ⟨some 56, none, .q (.cut 1 (.tmp 54) (some (.tmp 55)) none), []⟩, ⟨none, none, .e (.clear [(.int .i64 0)] (.tmp 56)), []⟩]
 (O [V 57 0, V 58 3, ⟨some 59, none, .q (.cut 1 (.tmp 57) none (some (.tmp 58))), []⟩, V 2 59]
 .ret))))
 .skip)))
 (.ops [V 14 3, Bn 15 .add 14 1, V 3 15]))))))
 (O [V 60 0, V 2 60]
 .ret)))), [.tmp 2], 61⟩
theorem call_CompactI {args : List Value} {h : Heap} {K : Value → Heap → Prop} (hl : args.length ≤ 61) (k : pwp Proofs.Try.prog c_CompactI.body (BodyK c_CompactI.results K) (enterF args) h) : PCall Proofs.Try.prog 37 args h K :=
  pcall_of (fn := Proofs.Try.f37) (by kernel_rfl) (by kernel_rfl) (by kernel_rfl) (by kernel_rfl) hl k
def c_Succs : AFn :=
⟨(O [E 2]
 (O [V 7 0, Ln 8 7, ⟨some 9, none, .e (.make [(.slice none 0 0)] 1 (.tmp 8) (.tmp 8)), []⟩, V 3 9]
 (.seq (O [V 10 0, Ln 11 10, N 12 0]
 (.block 0 (.loop (O [B 13 .lss 12 11]
 (.seq (.cond (.tmp 13)
 .skip
 (.exit 0))
 (.seq (.block 1 (O [V 14 12, X 15 4 10 12, LA 16 4 15, ⟨some 5, none, .e (.new [(.int .u8 0), (.int .i64 0), (.int .i64 0), (.int .i64 0)] 4), []⟩, V 4 14, ⟨none, none, .e (.store 4 (.tmp 5) (.tmp 16)), []⟩]
 (O [V 17 4, Bn 18 .add 17 1, ⟨some 19, none, .e (.lit [(.int .i64 0)] 1 1 [(0, 1, (.tmp 18))]), []⟩, V 6 19]
 (.seq (O [FA 20 0 5, L 21 20]
 (.block 2 (O [Bk 23 .eql 21 .u8 10, V 22 23]
 (.cond (.tmp 22)
 (.ops [V 24 6, FA 25 1 5, L 26 25, ⟨some 27, none, .q (.idxA 1 (.tmp 24) (.const (.int .i64 0))), []⟩, S 27 26])
 (O [Bk 29 .eql 21 .u8 11, V 28 29]
 (.cond (.tmp 28)
 (.ops [V 30 6, FA 31 2 5, L 32 31, ⟨some 33, none, .e (.lit [(.int .i64 0)] 1 1 [(0, 1, (.tmp 32))]), []⟩, Ap 34 1 30 33, V 6 34])
 .skip))))))
 (O [V 35 6, ⟨some 36, none, .call 36 [(.tmp 35)], []⟩]
 (.ops [V 37 3, V 38 4, V 39 6, ⟨some 40, none, .call 37 [(.tmp 39)], []⟩, Z 1 40, X 41 1 37 38, S 41 40]))))))
 (.ops [Bn 42 .add 12 1, V 12 42])))))))
 (O [V 43 3, V 2 43]
 .ret)))), [.tmp 2], 44⟩
theorem call_Succs {args : List Value} {h : Heap} {K : Value → Heap → Prop} (hl : args.length ≤ 44) (k : pwp Proofs.Try.prog c_Succs.body (BodyK c_Succs.results K) (enterF args) h) : PCall Proofs.Try.prog 19 args h K :=
  pcall_of (fn := Proofs.Try.f19) (by kernel_rfl) (by kernel_rfl) (by kernel_rfl) (by kernel_rfl) hl k
end Pm
