/- Codes of the program's functions, as a program printed them, and that they are what the program's functions are compiled to.
   No condition: plain facts. -/
import Derived.KernelRfl
import Derived.Test.YtmdnkninbkcmkaaZHAmWalk
import Derived.Test.YtmdnkninbkcmkaaProg
namespace Am
set_option linter.unusedSimpArgs false
set_option linter.unusedVariables false
open Go
set_option maxRecDepth 100000
def c_Graph : AFn :=
⟨(.seq (.ops [⟨(some 4), none, .q (.val (.const (.slice none 0 0))), []⟩])
 (.seq (.ops [⟨(some 9), none, .q (.val (.tmp 0)), []⟩,
 ⟨(some 10), none, .q (.bin .rem (.tmp 9) (.const (.int .u8 12))), []⟩,
 ⟨(some 11), none, .q (.conv .i64 (.tmp 10)), []⟩,
 ⟨(some 12), none, .q (.bin .add (.const (.int .i64 1)) (.tmp 11)), []⟩,
 ⟨(some 5), none, .q (.val (.tmp 12)), []⟩])
 (.seq (.ops [⟨(some 13), none, .q (.val (.tmp 5)), []⟩,
 ⟨(some 14), none, .e (.make [(.slice none 0 0)] 1 (.tmp 13) (.tmp 13)), []⟩,
 ⟨(some 6), none, .q (.val (.tmp 14)), []⟩])
 (.seq (.seq (.ops [⟨(some 7), none, .q (.val (.const (.int .i64 0))), []⟩])
 (.block 0 (.loop (.seq (.seq (.ops [⟨(some 15), none, .q (.val (.tmp 7)), []⟩,
 ⟨(some 16), none, .q (.bin .add (.tmp 15) (.const (.int .i64 1))), []⟩,
 ⟨(some 17), none, .q (.val (.tmp 1)), []⟩,
 ⟨(some 18), none, .q (.len (.tmp 17)), []⟩,
 ⟨(some 19), none, .q (.bin .lss (.tmp 16) (.tmp 18)), []⟩,
 ⟨(some 20), none, .q (.val (.tmp 19)), []⟩,
 ⟨(some 21), (some (20, true)), .q (.val (.tmp 7)), []⟩,
 ⟨(some 22), (some (20, true)), .q (.bin .lss (.tmp 21) (.const (.int .i64 50))), []⟩,
 ⟨(some 23), none, .q (.pick (.tmp 20) (.tmp 22) (.const (.bool false))), []⟩])
 (.cond (.tmp 23)
 .skip
 (.exit 0)))
 (.seq (.block 1 (.seq (.ops [⟨(some 26), none, .q (.val (.tmp 1)), []⟩,
 ⟨(some 27), none, .q (.val (.tmp 7)), []⟩,
 ⟨(some 28), none, .q (.idxA 1 (.tmp 26) (.tmp 27)), []⟩,
 ⟨(some 29), none, .q (.load (.tmp 28)), []⟩,
 ⟨(some 30), none, .q (.conv .i64 (.tmp 29)), []⟩,
 ⟨(some 31), none, .q (.val (.tmp 5)), []⟩,
 ⟨(some 32), none, .q (.bin .rem (.tmp 30) (.tmp 31)), []⟩,
 ⟨(some 8), none, .q (.val (.tmp 32)), []⟩])
 (.ops [⟨(some 33), none, .q (.val (.tmp 6)), []⟩,
 ⟨(some 34), none, .q (.val (.tmp 8)), []⟩,
 ⟨(some 35), none, .q (.val (.tmp 6)), []⟩,
 ⟨(some 36), none, .q (.val (.tmp 8)), []⟩,
 ⟨(some 37), none, .q (.idxA 1 (.tmp 35) (.tmp 36)), []⟩,
 ⟨(some 38), none, .q (.load (.tmp 37)), []⟩,
 ⟨(some 39), none, .q (.val (.tmp 1)), []⟩,
 ⟨(some 40), none, .q (.val (.tmp 7)), []⟩,
 ⟨(some 41), none, .q (.bin .add (.tmp 40) (.const (.int .i64 1))), []⟩,
 ⟨(some 42), none, .q (.idxA 1 (.tmp 39) (.tmp 41)), []⟩,
 ⟨(some 43), none, .q (.load (.tmp 42)), []⟩,
 ⟨(some 44), none, .q (.conv .i64 (.tmp 43)), []⟩,
 ⟨(some 45), none, .q (.val (.tmp 5)), []⟩,
 ⟨(some 46), none, .q (.bin .add (.tmp 45) (.const (.int .i64 2))), []⟩,
 ⟨(some 47), none, .q (.bin .rem (.tmp 44) (.tmp 46)), []⟩,
 ⟨(some 48), none, .q (.bin .sub (.tmp 47) (.const (.int .i64 1))), []⟩,
 ⟨(some 49), none, .q (.val (.tmp 1)), []⟩,
 ⟨(some 50), none, .q (.val (.tmp 7)), []⟩,
 ⟨(some 51), none, .q (.idxA 1 (.tmp 49) (.tmp 50)), []⟩,
 ⟨(some 52), none, .q (.load (.tmp 51)), []⟩,
 ⟨(some 53), none, .q (.bin .quo (.tmp 52) (.const (.int .u8 240))), []⟩,
 ⟨(some 54), none, .q (.conv .i64 (.tmp 53)), []⟩,
 ⟨(some 55), none, .q (.bin .add (.tmp 48) (.tmp 54)), []⟩,
 ⟨(some 56), none, .e (.lit [(.int .i64 0)] 1 1 [(0, 1, (.tmp 55))]), []⟩,
 ⟨(some 57), none, .e (.app 1 (.tmp 38) (.tmp 56)), []⟩,
 ⟨(some 58), none, .q (.idxA 1 (.tmp 33) (.tmp 34)), []⟩,
 ⟨none, none, .e (.store 1 (.tmp 58) (.tmp 57)), []⟩])))
 (.ops [⟨(some 24), none, .q (.val (.tmp 7)), []⟩,
 ⟨(some 25), none, .q (.bin .add (.tmp 24) (.const (.int .i64 2))), []⟩,
 ⟨(some 7), none, .q (.val (.tmp 25)), []⟩]))))))
 (.seq (.ops [⟨(some 59), none, .q (.val (.tmp 6)), []⟩,
 ⟨(some 4), none, .q (.val (.tmp 59)), []⟩])
 .ret))))), [.tmp 4], 60⟩
theorem c_Graph_is : cFunc Proofs.Try.prog Proofs.Try.f11 = some c_Graph := by kernel_rfl
theorem call_Graph {args : List Value} {H : Heap} {K : Value → Heap → Prop} (hl : args.length ≤ 60) (h : awp Proofs.Try.prog c_Graph.body (BodyK c_Graph.results K) (enterF args) H) : ACall Proofs.Try.prog 11 args H K :=
  acall_of (by kernel_rfl) (by kernel_rfl) c_Graph_is hl h
def c_Reach : AFn :=
⟨(.seq (.ops [⟨(some 2), none, .q (.val (.const (.slice none 0 0))), []⟩])
 (.seq (.ops [⟨(some 6), none, .q (.val (.tmp 0)), []⟩,
 ⟨(some 7), none, .q (.len (.tmp 6)), []⟩,
 ⟨(some 8), none, .e (.make [(.bool false)] 1 (.tmp 7) (.tmp 7)), []⟩,
 ⟨(some 3), none, .q (.val (.tmp 8)), []⟩])
 (.seq (.ops [⟨(some 9), none, .e (.lit [(.int .i64 0)] 1 1 [(0, 1, (.const (.int .i64 0)))]), []⟩,
 ⟨(some 4), none, .q (.val (.tmp 9)), []⟩])
 (.seq (.block 0 (.loop (.seq (.seq (.ops [⟨(some 10), none, .q (.val (.tmp 4)), []⟩,
 ⟨(some 11), none, .q (.len (.tmp 10)), []⟩,
 ⟨(some 12), none, .q (.bin .gtr (.tmp 11) (.const (.int .i64 0))), []⟩])
 (.cond (.tmp 12)
 .skip
 (.exit 0)))
 (.block 1 (.seq (.ops [⟨(some 13), none, .q (.val (.tmp 4)), []⟩,
 ⟨(some 14), none, .q (.val (.tmp 4)), []⟩,
 ⟨(some 15), none, .q (.len (.tmp 14)), []⟩,
 ⟨(some 16), none, .q (.bin .sub (.tmp 15) (.const (.int .i64 1))), []⟩,
 ⟨(some 17), none, .q (.idxA 1 (.tmp 13) (.tmp 16)), []⟩,
 ⟨(some 18), none, .q (.load (.tmp 17)), []⟩,
 ⟨(some 5), none, .q (.val (.tmp 18)), []⟩])
 (.seq (.ops [⟨(some 19), none, .q (.val (.tmp 4)), []⟩,
 ⟨(some 20), none, .q (.val (.tmp 4)), []⟩,
 ⟨(some 21), none, .q (.len (.tmp 20)), []⟩,
 ⟨(some 22), none, .q (.bin .sub (.tmp 21) (.const (.int .i64 1))), []⟩,
 ⟨(some 23), none, .q (.cut 1 (.tmp 19) none (some (.tmp 22))), []⟩,
 ⟨(some 4), none, .q (.val (.tmp 23)), []⟩])
 (.seq (.seq (.ops [⟨(some 24), none, .q (.val (.tmp 5)), []⟩,
 ⟨(some 25), none, .q (.bin .lss (.tmp 24) (.const (.int .i64 0))), []⟩,
 ⟨(some 26), none, .q (.val (.tmp 25)), []⟩,
 ⟨(some 27), (some (26, false)), .q (.val (.tmp 5)), []⟩,
 ⟨(some 28), (some (26, false)), .q (.val (.tmp 0)), []⟩,
 ⟨(some 29), (some (26, false)), .q (.len (.tmp 28)), []⟩,
 ⟨(some 30), (some (26, false)), .q (.bin .geq (.tmp 27) (.tmp 29)), []⟩,
 ⟨(some 31), none, .q (.pick (.tmp 26) (.const (.bool true)) (.tmp 30)), []⟩,
 ⟨(some 32), none, .q (.val (.tmp 31)), []⟩,
 ⟨(some 33), (some (32, false)), .q (.val (.tmp 3)), []⟩,
 ⟨(some 34), (some (32, false)), .q (.val (.tmp 5)), []⟩,
 ⟨(some 35), (some (32, false)), .q (.idxA 1 (.tmp 33) (.tmp 34)), []⟩,
 ⟨(some 36), (some (32, false)), .q (.load (.tmp 35)), []⟩,
 ⟨(some 37), none, .q (.pick (.tmp 32) (.const (.bool true)) (.tmp 36)), []⟩])
 (.cond (.tmp 37)
 (.exit 1)
 .skip))
 (.seq (.ops [⟨(some 38), none, .q (.val (.tmp 3)), []⟩,
 ⟨(some 39), none, .q (.val (.tmp 5)), []⟩,
 ⟨(some 40), none, .q (.idxA 1 (.tmp 38) (.tmp 39)), []⟩,
 ⟨none, none, .e (.store 1 (.tmp 40) (.const (.bool true))), []⟩])
 (.ops [⟨(some 41), none, .q (.val (.tmp 4)), []⟩,
 ⟨(some 42), none, .q (.val (.tmp 0)), []⟩,
 ⟨(some 43), none, .q (.val (.tmp 5)), []⟩,
 ⟨(some 44), none, .q (.idxA 1 (.tmp 42) (.tmp 43)), []⟩,
 ⟨(some 45), none, .q (.load (.tmp 44)), []⟩,
 ⟨(some 46), none, .e (.app 1 (.tmp 41) (.tmp 45)), []⟩,
 ⟨(some 4), none, .q (.val (.tmp 46)), []⟩])))))))))
 (.seq (.ops [⟨(some 47), none, .q (.val (.tmp 3)), []⟩,
 ⟨(some 2), none, .q (.val (.tmp 47)), []⟩])
 .ret))))), [.tmp 2], 48⟩
theorem c_Reach_is : cFunc Proofs.Try.prog Proofs.Try.f33 = some c_Reach := by kernel_rfl
theorem call_Reach {args : List Value} {H : Heap} {K : Value → Heap → Prop} (hl : args.length ≤ 48) (h : awp Proofs.Try.prog c_Reach.body (BodyK c_Reach.results K) (enterF args) H) : ACall Proofs.Try.prog 33 args H K :=
  acall_of (by kernel_rfl) (by kernel_rfl) c_Reach_is hl h
def c_Preds : AFn :=
⟨(.seq (.ops [⟨(some 2), none, .q (.val (.const (.slice none 0 0))), []⟩])
 (.seq (.ops [⟨(some 9), none, .q (.val (.tmp 0)), []⟩,
 ⟨(some 10), none, .q (.len (.tmp 9)), []⟩,
 ⟨(some 11), none, .e (.make [(.slice none 0 0)] 1 (.tmp 10) (.tmp 10)), []⟩,
 ⟨(some 3), none, .q (.val (.tmp 11)), []⟩])
 (.seq (.seq (.ops [⟨(some 12), none, .q (.val (.tmp 0)), []⟩,
 ⟨(some 13), none, .q (.len (.tmp 12)), []⟩,
 ⟨(some 14), none, .q (.val (.const (.int .i64 0))), []⟩])
 (.block 0 (.loop (.seq (.ops [⟨(some 15), none, .q (.bin .lss (.tmp 14) (.tmp 13)), []⟩])
 (.seq (.cond (.tmp 15)
 .skip
 (.exit 0))
 (.seq (.block 1 (.seq (.ops [⟨(some 16), none, .q (.val (.tmp 14)), []⟩,
 ⟨(some 17), none, .q (.idxA 1 (.tmp 12) (.tmp 14)), []⟩,
 ⟨(some 18), none, .q (.load (.tmp 17)), []⟩,
 ⟨(some 4), none, .q (.val (.tmp 16)), []⟩,
 ⟨(some 5), none, .q (.val (.tmp 18)), []⟩])
 (.seq (.ops [⟨(some 19), none, .q (.val (.tmp 5)), []⟩,
 ⟨(some 20), none, .q (.len (.tmp 19)), []⟩,
 ⟨(some 21), none, .q (.val (.const (.int .i64 0))), []⟩])
 (.block 2 (.loop (.seq (.ops [⟨(some 22), none, .q (.bin .lss (.tmp 21) (.tmp 20)), []⟩])
 (.seq (.cond (.tmp 22)
 .skip
 (.exit 2))
 (.seq (.block 3 (.seq (.ops [⟨(some 23), none, .q (.idxA 1 (.tmp 19) (.tmp 21)), []⟩,
 ⟨(some 24), none, .q (.load (.tmp 23)), []⟩,
 ⟨(some 7), none, .q (.val (.tmp 24)), []⟩])
 (.seq (.seq (.ops [⟨(some 25), none, .q (.val (.tmp 7)), []⟩,
 ⟨(some 26), none, .q (.bin .lss (.tmp 25) (.const (.int .i64 0))), []⟩,
 ⟨(some 27), none, .q (.val (.tmp 26)), []⟩,
 ⟨(some 28), (some (27, false)), .q (.val (.tmp 7)), []⟩,
 ⟨(some 29), (some (27, false)), .q (.val (.tmp 3)), []⟩,
 ⟨(some 30), (some (27, false)), .q (.len (.tmp 29)), []⟩,
 ⟨(some 31), (some (27, false)), .q (.bin .geq (.tmp 28) (.tmp 30)), []⟩,
 ⟨(some 32), none, .q (.pick (.tmp 27) (.const (.bool true)) (.tmp 31)), []⟩])
 (.cond (.tmp 32)
 (.exit 3)
 .skip))
 (.seq (.ops [⟨(some 33), none, .q (.val (.tmp 3)), []⟩,
 ⟨(some 34), none, .q (.val (.tmp 7)), []⟩,
 ⟨(some 35), none, .q (.idxA 1 (.tmp 33) (.tmp 34)), []⟩,
 ⟨(some 36), none, .q (.load (.tmp 35)), []⟩,
 ⟨(some 37), none, .q (.len (.tmp 36)), []⟩,
 ⟨(some 8), none, .q (.val (.tmp 37)), []⟩])
 (.seq (.ops [⟨(some 38), none, .q (.val (.tmp 8)), []⟩,
 ⟨(some 39), none, .q (.bin .eql (.tmp 38) (.const (.int .i64 0))), []⟩,
 ⟨(some 40), none, .q (.val (.tmp 39)), []⟩,
 ⟨(some 41), (some (40, false)), .q (.val (.tmp 3)), []⟩,
 ⟨(some 42), (some (40, false)), .q (.val (.tmp 7)), []⟩,
 ⟨(some 43), (some (40, false)), .q (.idxA 1 (.tmp 41) (.tmp 42)), []⟩,
 ⟨(some 44), (some (40, false)), .q (.load (.tmp 43)), []⟩,
 ⟨(some 45), (some (40, false)), .q (.val (.tmp 8)), []⟩,
 ⟨(some 46), (some (40, false)), .q (.bin .sub (.tmp 45) (.const (.int .i64 1))), []⟩,
 ⟨(some 47), (some (40, false)), .q (.idxA 1 (.tmp 44) (.tmp 46)), []⟩,
 ⟨(some 48), (some (40, false)), .q (.load (.tmp 47)), []⟩,
 ⟨(some 49), (some (40, false)), .q (.val (.tmp 4)), []⟩,
 ⟨(some 50), (some (40, false)), .q (.bin .neq (.tmp 48) (.tmp 49)), []⟩,
 ⟨(some 51), none, .q (.pick (.tmp 40) (.const (.bool true)) (.tmp 50)), []⟩])
 (.cond (.tmp 51)
 (.ops [⟨(some 52), none, .q (.val (.tmp 3)), []⟩,
 ⟨(some 53), none, .q (.val (.tmp 7)), []⟩,
 ⟨(some 54), none, .q (.val (.tmp 3)), []⟩,
 ⟨(some 55), none, .q (.val (.tmp 7)), []⟩,
 ⟨(some 56), none, .q (.idxA 1 (.tmp 54) (.tmp 55)), []⟩,
 ⟨(some 57), none, .q (.load (.tmp 56)), []⟩,
 ⟨(some 58), none, .q (.val (.tmp 4)), []⟩,
 ⟨(some 59), none, .e (.lit [(.int .i64 0)] 1 1 [(0, 1, (.tmp 58))]), []⟩,
 ⟨(some 60), none, .e (.app 1 (.tmp 57) (.tmp 59)), []⟩,
 ⟨(some 61), none, .q (.idxA 1 (.tmp 52) (.tmp 53)), []⟩,
 ⟨none, none, .e (.store 1 (.tmp 61) (.tmp 60)), []⟩])
 .skip))))))
 (.ops [⟨(some 62), none, .q (.bin .add (.tmp 21) (.const (.int .i64 1))), []⟩,
 ⟨(some 21), none, .q (.val (.tmp 62)), []⟩])))))))))
 (.ops [⟨(some 63), none, .q (.bin .add (.tmp 14) (.const (.int .i64 1))), []⟩,
 ⟨(some 14), none, .q (.val (.tmp 63)), []⟩])))))))
 (.seq (.ops [⟨(some 64), none, .q (.val (.tmp 3)), []⟩,
 ⟨(some 2), none, .q (.val (.tmp 64)), []⟩])
 .ret)))), [.tmp 2], 65⟩
theorem c_Preds_is : cFunc Proofs.Try.prog Proofs.Try.f34 = some c_Preds := by kernel_rfl
theorem call_Preds {args : List Value} {H : Heap} {K : Value → Heap → Prop} (hl : args.length ≤ 65) (h : awp Proofs.Try.prog c_Preds.body (BodyK c_Preds.results K) (enterF args) H) : ACall Proofs.Try.prog 34 args H K :=
  acall_of (by kernel_rfl) (by kernel_rfl) c_Preds_is hl h
def c_Doms : AFn :=
⟨(.seq (.ops [⟨(some 2), none, .q (.val (.const (.slice none 0 0))), []⟩])
 (.scope 0 (.seq (.ops [⟨(some 12), none, .q (.val (.tmp 0)), []⟩,
 ⟨(some 13), none, .q (.len (.tmp 12)), []⟩,
 ⟨(some 3), none, .q (.val (.tmp 13)), []⟩])
 (.seq (.seq (.ops [⟨(some 14), none, .q (.val (.tmp 3)), []⟩,
 ⟨(some 15), none, .q (.bin .gtr (.tmp 14) (.const (.int .i64 64))), []⟩])
 (.cond (.tmp 15)
 (.seq (.ops [⟨(some 2), none, .q (.val (.const (.slice none 0 0))), []⟩])
 .ret)
 .skip))
 (.seq (.ops [⟨(some 16), none, .q (.val (.tmp 0)), []⟩,
 ⟨(some 17), none, .call 33 [(.tmp 16)], []⟩,
 ⟨(some 18), none, .q (.val (.tmp 0)), []⟩,
 ⟨(some 19), none, .call 34 [(.tmp 18)], []⟩,
 ⟨(some 4), none, .q (.val (.tmp 17)), []⟩,
 ⟨(some 5), none, .q (.val (.tmp 19)), []⟩])
 (.seq (.ops [⟨(some 20), none, .q (.val (.tmp 3)), []⟩,
 ⟨(some 21), none, .e (.make [(.int .u64 0)] 1 (.tmp 20) (.tmp 20)), []⟩,
 ⟨(some 6), none, .q (.val (.tmp 21)), []⟩])
 (.seq (.seq (.ops [⟨(some 22), none, .q (.val (.tmp 6)), []⟩,
 ⟨(some 23), none, .q (.len (.tmp 22)), []⟩,
 ⟨(some 24), none, .q (.val (.const (.int .i64 0))), []⟩])
 (.block 0 (.loop (.seq (.ops [⟨(some 25), none, .q (.bin .lss (.tmp 24) (.tmp 23)), []⟩])
 (.seq (.cond (.tmp 25)
 .skip
 (.exit 0))
 (.seq (.block 1 (.seq (.ops [⟨(some 26), none, .q (.val (.tmp 24)), []⟩,
 ⟨(some 7), none, .q (.val (.tmp 26)), []⟩])
 (.seq (.ops [⟨(some 27), none, .q (.val (.tmp 6)), []⟩,
 ⟨(some 28), none, .q (.val (.tmp 7)), []⟩,
 ⟨(some 29), none, .q (.val (.tmp 3)), []⟩,
 ⟨(some 30), none, .call 41 [(.tmp 29)], []⟩,
 ⟨(some 31), none, .q (.idxA 1 (.tmp 27) (.tmp 28)), []⟩,
 ⟨none, none, .e (.store 1 (.tmp 31) (.tmp 30)), []⟩])
 (.seq (.ops [⟨(some 32), none, .q (.val (.tmp 7)), []⟩,
 ⟨(some 33), none, .q (.bin .eql (.tmp 32) (.const (.int .i64 0))), []⟩,
 ⟨(some 34), none, .q (.val (.tmp 33)), []⟩,
 ⟨(some 35), (some (34, false)), .q (.val (.tmp 4)), []⟩,
 ⟨(some 36), (some (34, false)), .q (.val (.tmp 7)), []⟩,
 ⟨(some 37), (some (34, false)), .q (.idxA 1 (.tmp 35) (.tmp 36)), []⟩,
 ⟨(some 38), (some (34, false)), .q (.load (.tmp 37)), []⟩,
 ⟨(some 39), (some (34, false)), .q (.not (.tmp 38)), []⟩,
 ⟨(some 40), none, .q (.pick (.tmp 34) (.const (.bool true)) (.tmp 39)), []⟩])
 (.cond (.tmp 40)
 (.ops [⟨(some 41), none, .q (.val (.tmp 6)), []⟩,
 ⟨(some 42), none, .q (.val (.tmp 7)), []⟩,
 ⟨(some 43), none, .q (.idxA 1 (.tmp 41) (.tmp 42)), []⟩,
 ⟨none, none, .e (.store 1 (.tmp 43) (.const (.int .u64 0))), []⟩])
 .skip)))))
 (.ops [⟨(some 44), none, .q (.bin .add (.tmp 24) (.const (.int .i64 1))), []⟩,
 ⟨(some 24), none, .q (.val (.tmp 44)), []⟩])))))))
 (.seq (.seq (.ops [⟨(some 45), none, .q (.val (.tmp 3)), []⟩,
 ⟨(some 46), none, .q (.bin .gtr (.tmp 45) (.const (.int .i64 0))), []⟩])
 (.cond (.tmp 46)
 (.ops [⟨(some 47), none, .q (.val (.tmp 6)), []⟩,
 ⟨(some 48), none, .e (.lit [(.int .i64 0)] 1 1 [(0, 1, (.const (.int .i64 0)))]), []⟩,
 ⟨(some 49), none, .call 42 [(.const (.int .u64 0)), (.tmp 48)], []⟩,
 ⟨(some 50), none, .q (.idxA 1 (.tmp 47) (.const (.int .i64 0))), []⟩,
 ⟨none, none, .e (.store 1 (.tmp 50) (.tmp 49)), []⟩])
 .skip))
 (.seq (.label 0)
 (.seq (.seq (.ops [⟨(some 8), none, .q (.val (.const (.int .i64 1))), []⟩])
 (.block 2 (.loop (.seq (.seq (.ops [⟨(some 51), none, .q (.val (.tmp 8)), []⟩,
 ⟨(some 52), none, .q (.val (.tmp 3)), []⟩,
 ⟨(some 53), none, .q (.bin .lss (.tmp 51) (.tmp 52)), []⟩])
 (.cond (.tmp 53)
 .skip
 (.exit 2)))
 (.seq (.block 3 (.seq (.seq (.ops [⟨(some 56), none, .q (.val (.tmp 4)), []⟩,
 ⟨(some 57), none, .q (.val (.tmp 8)), []⟩,
 ⟨(some 58), none, .q (.idxA 1 (.tmp 56) (.tmp 57)), []⟩,
 ⟨(some 59), none, .q (.load (.tmp 58)), []⟩,
 ⟨(some 60), none, .q (.not (.tmp 59)), []⟩])
 (.cond (.tmp 60)
 (.exit 3)
 .skip))
 (.seq (.ops [⟨(some 61), none, .q (.val (.tmp 3)), []⟩,
 ⟨(some 62), none, .call 41 [(.tmp 61)], []⟩,
 ⟨(some 9), none, .q (.val (.tmp 62)), []⟩])
 (.seq (.seq (.ops [⟨(some 63), none, .q (.val (.tmp 5)), []⟩,
 ⟨(some 64), none, .q (.val (.tmp 8)), []⟩,
 ⟨(some 65), none, .q (.idxA 1 (.tmp 63) (.tmp 64)), []⟩,
 ⟨(some 66), none, .q (.load (.tmp 65)), []⟩,
 ⟨(some 67), none, .q (.len (.tmp 66)), []⟩,
 ⟨(some 68), none, .q (.val (.const (.int .i64 0))), []⟩])
 (.block 4 (.loop (.seq (.ops [⟨(some 69), none, .q (.bin .lss (.tmp 68) (.tmp 67)), []⟩])
 (.seq (.cond (.tmp 69)
 .skip
 (.exit 4))
 (.seq (.block 5 (.seq (.ops [⟨(some 70), none, .q (.idxA 1 (.tmp 66) (.tmp 68)), []⟩,
 ⟨(some 71), none, .q (.load (.tmp 70)), []⟩,
 ⟨(some 11), none, .q (.val (.tmp 71)), []⟩])
 (.seq (.ops [⟨(some 72), none, .q (.val (.tmp 4)), []⟩,
 ⟨(some 73), none, .q (.val (.tmp 11)), []⟩,
 ⟨(some 74), none, .q (.idxA 1 (.tmp 72) (.tmp 73)), []⟩,
 ⟨(some 75), none, .q (.load (.tmp 74)), []⟩])
 (.cond (.tmp 75)
 (.ops [⟨(some 76), none, .q (.val (.tmp 9)), []⟩,
 ⟨(some 77), none, .q (.val (.tmp 6)), []⟩,
 ⟨(some 78), none, .q (.val (.tmp 11)), []⟩,
 ⟨(some 79), none, .q (.idxA 1 (.tmp 77) (.tmp 78)), []⟩,
 ⟨(some 80), none, .q (.load (.tmp 79)), []⟩,
 ⟨(some 81), none, .q (.bin .and (.tmp 76) (.tmp 80)), []⟩,
 ⟨(some 9), none, .q (.val (.tmp 81)), []⟩])
 .skip))))
 (.ops [⟨(some 82), none, .q (.bin .add (.tmp 68) (.const (.int .i64 1))), []⟩,
 ⟨(some 68), none, .q (.val (.tmp 82)), []⟩])))))))
 (.seq (.ops [⟨(some 83), none, .q (.val (.tmp 9)), []⟩,
 ⟨(some 84), none, .q (.val (.tmp 8)), []⟩,
 ⟨(some 85), none, .e (.lit [(.int .i64 0)] 1 1 [(0, 1, (.tmp 84))]), []⟩,
 ⟨(some 86), none, .call 42 [(.tmp 83), (.tmp 85)], []⟩,
 ⟨(some 9), none, .q (.val (.tmp 86)), []⟩])
 (.seq (.ops [⟨(some 87), none, .q (.val (.tmp 9)), []⟩,
 ⟨(some 88), none, .q (.val (.tmp 6)), []⟩,
 ⟨(some 89), none, .q (.val (.tmp 8)), []⟩,
 ⟨(some 90), none, .q (.idxA 1 (.tmp 88) (.tmp 89)), []⟩,
 ⟨(some 91), none, .q (.load (.tmp 90)), []⟩,
 ⟨(some 92), none, .q (.bin .neq (.tmp 87) (.tmp 91)), []⟩])
 (.cond (.tmp 92)
 (.seq (.ops [⟨(some 93), none, .q (.val (.tmp 6)), []⟩,
 ⟨(some 94), none, .q (.val (.tmp 8)), []⟩,
 ⟨(some 95), none, .q (.val (.tmp 9)), []⟩,
 ⟨(some 96), none, .q (.idxA 1 (.tmp 93) (.tmp 94)), []⟩,
 ⟨none, none, .e (.store 1 (.tmp 96) (.tmp 95)), []⟩])
 (.goto 0))
 .skip)))))))
 (.ops [⟨(some 54), none, .q (.val (.tmp 8)), []⟩,
 ⟨(some 55), none, .q (.bin .add (.tmp 54) (.const (.int .i64 1))), []⟩,
 ⟨(some 8), none, .q (.val (.tmp 55)), []⟩]))))))
 (.seq (.ops [⟨(some 97), none, .q (.val (.tmp 6)), []⟩,
 ⟨(some 2), none, .q (.val (.tmp 97)), []⟩])
 .ret)))))))))
 (.seq .skip
 (.seq (.seq (.ops [⟨(some 8), none, .q (.val (.const (.int .i64 1))), []⟩])
 (.block 2 (.loop (.seq (.seq (.ops [⟨(some 51), none, .q (.val (.tmp 8)), []⟩,
 ⟨(some 52), none, .q (.val (.tmp 3)), []⟩,
 ⟨(some 53), none, .q (.bin .lss (.tmp 51) (.tmp 52)), []⟩])
 (.cond (.tmp 53)
 .skip
 (.exit 2)))
 (.seq (.block 3 (.seq (.seq (.ops [⟨(some 56), none, .q (.val (.tmp 4)), []⟩,
 ⟨(some 57), none, .q (.val (.tmp 8)), []⟩,
 ⟨(some 58), none, .q (.idxA 1 (.tmp 56) (.tmp 57)), []⟩,
 ⟨(some 59), none, .q (.load (.tmp 58)), []⟩,
 ⟨(some 60), none, .q (.not (.tmp 59)), []⟩])
 (.cond (.tmp 60)
 (.exit 3)
 .skip))
 (.seq (.ops [⟨(some 61), none, .q (.val (.tmp 3)), []⟩,
 ⟨(some 62), none, .call 41 [(.tmp 61)], []⟩,
 ⟨(some 9), none, .q (.val (.tmp 62)), []⟩])
 (.seq (.seq (.ops [⟨(some 63), none, .q (.val (.tmp 5)), []⟩,
 ⟨(some 64), none, .q (.val (.tmp 8)), []⟩,
 ⟨(some 65), none, .q (.idxA 1 (.tmp 63) (.tmp 64)), []⟩,
 ⟨(some 66), none, .q (.load (.tmp 65)), []⟩,
 ⟨(some 67), none, .q (.len (.tmp 66)), []⟩,
 ⟨(some 68), none, .q (.val (.const (.int .i64 0))), []⟩])
 (.block 4 (.loop (.seq (.ops [⟨(some 69), none, .q (.bin .lss (.tmp 68) (.tmp 67)), []⟩])
 (.seq (.cond (.tmp 69)
 .skip
 (.exit 4))
 (.seq (.block 5 (.seq (.ops [⟨(some 70), none, .q (.idxA 1 (.tmp 66) (.tmp 68)), []⟩,
 ⟨(some 71), none, .q (.load (.tmp 70)), []⟩,
 ⟨(some 11), none, .q (.val (.tmp 71)), []⟩])
 (.seq (.ops [⟨(some 72), none, .q (.val (.tmp 4)), []⟩,
 ⟨(some 73), none, .q (.val (.tmp 11)), []⟩,
 ⟨(some 74), none, .q (.idxA 1 (.tmp 72) (.tmp 73)), []⟩,
 ⟨(some 75), none, .q (.load (.tmp 74)), []⟩])
 (.cond (.tmp 75)
 (.ops [⟨(some 76), none, .q (.val (.tmp 9)), []⟩,
 ⟨(some 77), none, .q (.val (.tmp 6)), []⟩,
 ⟨(some 78), none, .q (.val (.tmp 11)), []⟩,
 ⟨(some 79), none, .q (.idxA 1 (.tmp 77) (.tmp 78)), []⟩,
 ⟨(some 80), none, .q (.load (.tmp 79)), []⟩,
 ⟨(some 81), none, .q (.bin .and (.tmp 76) (.tmp 80)), []⟩,
 ⟨(some 9), none, .q (.val (.tmp 81)), []⟩])
 .skip))))
 (.ops [⟨(some 82), none, .q (.bin .add (.tmp 68) (.const (.int .i64 1))), []⟩,
 ⟨(some 68), none, .q (.val (.tmp 82)), []⟩])))))))
 (.seq (.ops [⟨(some 83), none, .q (.val (.tmp 9)), []⟩,
 ⟨(some 84), none, .q (.val (.tmp 8)), []⟩,
 ⟨(some 85), none, .e (.lit [(.int .i64 0)] 1 1 [(0, 1, (.tmp 84))]), []⟩,
 ⟨(some 86), none, .call 42 [(.tmp 83), (.tmp 85)], []⟩,
 ⟨(some 9), none, .q (.val (.tmp 86)), []⟩])
 (.seq (.ops [⟨(some 87), none, .q (.val (.tmp 9)), []⟩,
 ⟨(some 88), none, .q (.val (.tmp 6)), []⟩,
 ⟨(some 89), none, .q (.val (.tmp 8)), []⟩,
 ⟨(some 90), none, .q (.idxA 1 (.tmp 88) (.tmp 89)), []⟩,
 ⟨(some 91), none, .q (.load (.tmp 90)), []⟩,
 ⟨(some 92), none, .q (.bin .neq (.tmp 87) (.tmp 91)), []⟩])
 (.cond (.tmp 92)
 (.seq (.ops [⟨(some 93), none, .q (.val (.tmp 6)), []⟩,
 ⟨(some 94), none, .q (.val (.tmp 8)), []⟩,
 ⟨(some 95), none, .q (.val (.tmp 9)), []⟩,
 ⟨(some 96), none, .q (.idxA 1 (.tmp 93) (.tmp 94)), []⟩,
 ⟨none, none, .e (.store 1 (.tmp 96) (.tmp 95)), []⟩])
 (.goto 0))
 .skip)))))))
 (.ops [⟨(some 54), none, .q (.val (.tmp 8)), []⟩,
 ⟨(some 55), none, .q (.bin .add (.tmp 54) (.const (.int .i64 1))), []⟩,
 ⟨(some 8), none, .q (.val (.tmp 55)), []⟩]))))))
 (.seq (.ops [⟨(some 97), none, .q (.val (.tmp 6)), []⟩,
 ⟨(some 2), none, .q (.val (.tmp 97)), []⟩])
 .ret))))), [.tmp 2], 98⟩
theorem c_Doms_is : cFunc Proofs.Try.prog Proofs.Try.f12 = some c_Doms := by kernel_rfl
theorem call_Doms {args : List Value} {H : Heap} {K : Value → Heap → Prop} (hl : args.length ≤ 98) (h : awp Proofs.Try.prog c_Doms.body (BodyK c_Doms.results K) (enterF args) H) : ACall Proofs.Try.prog 12 args H K :=
  acall_of (by kernel_rfl) (by kernel_rfl) c_Doms_is hl h
def c_Succs : AFn :=
⟨(.seq (.ops [⟨(some 2), none, .q (.val (.const (.slice none 0 0))), []⟩])
 (.seq (.ops [⟨(some 7), none, .q (.val (.tmp 0)), []⟩,
 ⟨(some 8), none, .q (.len (.tmp 7)), []⟩,
 ⟨(some 9), none, .e (.make [(.slice none 0 0)] 1 (.tmp 8) (.tmp 8)), []⟩,
 ⟨(some 3), none, .q (.val (.tmp 9)), []⟩])
 (.seq (.seq (.ops [⟨(some 10), none, .q (.val (.tmp 0)), []⟩,
 ⟨(some 11), none, .q (.len (.tmp 10)), []⟩,
 ⟨(some 12), none, .q (.val (.const (.int .i64 0))), []⟩])
 (.block 0 (.loop (.seq (.ops [⟨(some 13), none, .q (.bin .lss (.tmp 12) (.tmp 11)), []⟩])
 (.seq (.cond (.tmp 13)
 .skip
 (.exit 0))
 (.seq (.block 1 (.seq (.ops [⟨(some 14), none, .q (.val (.tmp 12)), []⟩,
 ⟨(some 15), none, .q (.idxA 4 (.tmp 10) (.tmp 12)), []⟩,
 ⟨(some 16), none, .q (.loadA 4 (.tmp 15)), []⟩,
 ⟨(some 5), none, .e (.new [(.int .u8 0), (.int .i64 0), (.int .i64 0), (.int .i64 0)] 4), []⟩,
 ⟨(some 4), none, .q (.val (.tmp 14)), []⟩,
 ⟨none, none, .e (.store 4 (.tmp 5) (.tmp 16)), []⟩])
 (.seq (.ops [⟨(some 17), none, .q (.val (.tmp 4)), []⟩,
 ⟨(some 18), none, .q (.bin .add (.tmp 17) (.const (.int .i64 1))), []⟩,
 ⟨(some 19), none, .e (.lit [(.int .i64 0)] 1 1 [(0, 1, (.tmp 18))]), []⟩,
 ⟨(some 6), none, .q (.val (.tmp 19)), []⟩])
 (.seq (.seq (.ops [⟨(some 20), none, .q (.fieldA 0 (.tmp 5)), []⟩,
 ⟨(some 21), none, .q (.load (.tmp 20)), []⟩])
 (.block 2 (.seq (.ops [⟨(some 23), none, .q (.bin .eql (.tmp 21) (.const (.int .u8 10))), []⟩,
 ⟨(some 22), none, .q (.val (.tmp 23)), []⟩])
 (.cond (.tmp 22)
 (.ops [⟨(some 24), none, .q (.val (.tmp 6)), []⟩,
 ⟨(some 25), none, .q (.fieldA 1 (.tmp 5)), []⟩,
 ⟨(some 26), none, .q (.load (.tmp 25)), []⟩,
 ⟨(some 27), none, .q (.idxA 1 (.tmp 24) (.const (.int .i64 0))), []⟩,
 ⟨none, none, .e (.store 1 (.tmp 27) (.tmp 26)), []⟩])
 (.seq (.ops [⟨(some 29), none, .q (.bin .eql (.tmp 21) (.const (.int .u8 11))), []⟩,
 ⟨(some 28), none, .q (.val (.tmp 29)), []⟩])
 (.cond (.tmp 28)
 (.ops [⟨(some 30), none, .q (.val (.tmp 6)), []⟩,
 ⟨(some 31), none, .q (.fieldA 2 (.tmp 5)), []⟩,
 ⟨(some 32), none, .q (.load (.tmp 31)), []⟩,
 ⟨(some 33), none, .e (.lit [(.int .i64 0)] 1 1 [(0, 1, (.tmp 32))]), []⟩,
 ⟨(some 34), none, .e (.app 1 (.tmp 30) (.tmp 33)), []⟩,
 ⟨(some 6), none, .q (.val (.tmp 34)), []⟩])
 .skip))))))
 (.seq (.ops [⟨(some 35), none, .q (.val (.tmp 6)), []⟩,
 ⟨(some 36), none, .call 60 [(.tmp 35)], []⟩])
 (.ops [⟨(some 37), none, .q (.val (.tmp 3)), []⟩,
 ⟨(some 38), none, .q (.val (.tmp 4)), []⟩,
 ⟨(some 39), none, .q (.val (.tmp 6)), []⟩,
 ⟨(some 40), none, .call 61 [(.tmp 39)], []⟩,
 ⟨(some 41), none, .q (.idxA 1 (.tmp 37) (.tmp 38)), []⟩,
 ⟨none, none, .e (.store 1 (.tmp 41) (.tmp 40)), []⟩]))))))
 (.ops [⟨(some 42), none, .q (.bin .add (.tmp 12) (.const (.int .i64 1))), []⟩,
 ⟨(some 12), none, .q (.val (.tmp 42)), []⟩])))))))
 (.seq (.ops [⟨(some 43), none, .q (.val (.tmp 3)), []⟩,
 ⟨(some 2), none, .q (.val (.tmp 43)), []⟩])
 .ret)))), [.tmp 2], 44⟩
theorem c_Succs_is : cFunc Proofs.Try.prog Proofs.Try.f32 = some c_Succs := by kernel_rfl
def c_has : AFn :=
⟨(.seq (.ops [⟨(some 4), none, .q (.val (.const (.bool false))), []⟩])
 (.seq (.seq (.ops [⟨(some 5), none, .q (.val (.const (.int .i64 0))), []⟩])
 (.block 0 (.loop (.seq (.seq (.ops [⟨(some 6), none, .q (.val (.tmp 5)), []⟩,
 ⟨(some 7), none, .q (.val (.tmp 0)), []⟩,
 ⟨(some 8), none, .q (.len (.tmp 7)), []⟩,
 ⟨(some 9), none, .q (.bin .lss (.tmp 6) (.tmp 8)), []⟩])
 (.cond (.tmp 9)
 .skip
 (.exit 0)))
 (.seq (.block 1 (.seq (.ops [⟨(some 12), none, .q (.val (.tmp 0)), []⟩,
 ⟨(some 13), none, .q (.val (.tmp 5)), []⟩,
 ⟨(some 14), none, .q (.idxA 1 (.tmp 12) (.tmp 13)), []⟩,
 ⟨(some 15), none, .q (.load (.tmp 14)), []⟩,
 ⟨(some 16), none, .q (.val (.tmp 1)), []⟩,
 ⟨(some 17), none, .q (.bin .eql (.tmp 15) (.tmp 16)), []⟩])
 (.cond (.tmp 17)
 (.seq (.ops [⟨(some 4), none, .q (.val (.const (.bool true))), []⟩])
 .ret)
 .skip)))
 (.ops [⟨(some 10), none, .q (.val (.tmp 5)), []⟩,
 ⟨(some 11), none, .q (.bin .add (.tmp 10) (.const (.int .i64 1))), []⟩,
 ⟨(some 5), none, .q (.val (.tmp 11)), []⟩]))))))
 (.seq (.ops [⟨(some 4), none, .q (.val (.const (.bool false))), []⟩])
 .ret))), [.tmp 4], 18⟩
theorem c_has_is : cFunc Proofs.Try.prog Proofs.Try.f62 = some c_has := by kernel_rfl
theorem call_has {args : List Value} {H : Heap} {K : Value → Heap → Prop} (hl : args.length ≤ 18) (h : awp Proofs.Try.prog c_has.body (BodyK c_has.results K) (enterF args) H) : ACall Proofs.Try.prog 62 args H K :=
  acall_of (by kernel_rfl) (by kernel_rfl) c_has_is hl h
def c_known10 : AFn :=
⟨(.seq (.ops [⟨(some 0), none, .q (.val (.const (.bool false))), []⟩])
 (.seq (.ops [⟨(some 5), none, .q (.build [(.int .u8 0), (.int .i64 0), (.int .i64 0), (.int .i64 0)] [(0, 1, (.const (.int .u8 11))), (2, 1, (.const (.int .i64 2)))]), []⟩,
 ⟨(some 6), none, .q (.build [(.int .u8 0), (.int .i64 0), (.int .i64 0), (.int .i64 0)] []), []⟩,
 ⟨(some 7), none, .q (.build [(.int .u8 0), (.int .i64 0), (.int .i64 0), (.int .i64 0)] []), []⟩,
 ⟨(some 8), none, .e (.lit [(.int .u8 0), (.int .i64 0), (.int .i64 0), (.int .i64 0), (.int .u8 0), (.int .i64 0), (.int .i64 0), (.int .i64 0), (.int .u8 0), (.int .i64 0), (.int .i64 0), (.int .i64 0)] 4 3 [(0, 4, (.tmp 5)), (4, 4, (.tmp 6)), (8, 4, (.tmp 7))]), []⟩,
 ⟨(some 9), none, .call 32 [(.tmp 8)], []⟩,
 ⟨(some 1), none, .q (.val (.tmp 9)), []⟩])
 (.seq (.ops [⟨(some 10), none, .q (.val (.tmp 1)), []⟩,
 ⟨(some 11), none, .call 12 [(.tmp 10)], []⟩,
 ⟨(some 2), none, .q (.val (.tmp 11)), []⟩])
 (.seq (.ops [⟨(some 12), none, .q (.val (.tmp 1)), []⟩,
 ⟨(some 13), none, .call 33 [(.tmp 12)], []⟩,
 ⟨(some 3), none, .q (.val (.tmp 13)), []⟩])
 (.seq (.ops [⟨(some 14), none, .q (.val (.tmp 1)), []⟩,
 ⟨(some 15), none, .call 34 [(.tmp 14)], []⟩,
 ⟨(some 4), none, .q (.val (.tmp 15)), []⟩])
 (.seq (.ops [⟨(some 16), none, .q (.val (.tmp 1)), []⟩,
 ⟨(some 17), none, .q (.len (.tmp 16)), []⟩,
 ⟨(some 18), none, .q (.bin .eql (.tmp 17) (.const (.int .i64 3))), []⟩,
 ⟨(some 19), none, .q (.val (.tmp 18)), []⟩,
 ⟨(some 20), (some (19, true)), .q (.val (.tmp 1)), []⟩,
 ⟨(some 21), (some (19, true)), .q (.idxA 1 (.tmp 20) (.const (.int .i64 0))), []⟩,
 ⟨(some 22), (some (19, true)), .q (.load (.tmp 21)), []⟩,
 ⟨(some 23), (some (19, true)), .q (.len (.tmp 22)), []⟩,
 ⟨(some 24), (some (19, true)), .q (.bin .eql (.tmp 23) (.const (.int .i64 2))), []⟩,
 ⟨(some 25), none, .q (.pick (.tmp 19) (.tmp 24) (.const (.bool false))), []⟩,
 ⟨(some 26), none, .q (.val (.tmp 25)), []⟩,
 ⟨(some 27), (some (26, true)), .q (.val (.tmp 1)), []⟩,
 ⟨(some 28), (some (26, true)), .q (.idxA 1 (.tmp 27) (.const (.int .i64 0))), []⟩,
 ⟨(some 29), (some (26, true)), .q (.load (.tmp 28)), []⟩,
 ⟨(some 30), (some (26, true)), .q (.idxA 1 (.tmp 29) (.const (.int .i64 1))), []⟩,
 ⟨(some 31), (some (26, true)), .q (.load (.tmp 30)), []⟩,
 ⟨(some 32), (some (26, true)), .q (.bin .eql (.tmp 31) (.const (.int .i64 2))), []⟩,
 ⟨(some 33), none, .q (.pick (.tmp 26) (.tmp 32) (.const (.bool false))), []⟩,
 ⟨(some 34), none, .q (.val (.tmp 33)), []⟩,
 ⟨(some 35), (some (34, true)), .q (.val (.tmp 1)), []⟩,
 ⟨(some 36), (some (34, true)), .q (.idxA 1 (.tmp 35) (.const (.int .i64 2))), []⟩,
 ⟨(some 37), (some (34, true)), .q (.load (.tmp 36)), []⟩,
 ⟨(some 38), (some (34, true)), .q (.len (.tmp 37)), []⟩,
 ⟨(some 39), (some (34, true)), .q (.bin .eql (.tmp 38) (.const (.int .i64 1))), []⟩,
 ⟨(some 40), none, .q (.pick (.tmp 34) (.tmp 39) (.const (.bool false))), []⟩,
 ⟨(some 41), none, .q (.val (.tmp 40)), []⟩,
 ⟨(some 42), (some (41, true)), .q (.val (.tmp 1)), []⟩,
 ⟨(some 43), (some (41, true)), .q (.idxA 1 (.tmp 42) (.const (.int .i64 2))), []⟩,
 ⟨(some 44), (some (41, true)), .q (.load (.tmp 43)), []⟩,
 ⟨(some 45), (some (41, true)), .q (.idxA 1 (.tmp 44) (.const (.int .i64 0))), []⟩,
 ⟨(some 46), (some (41, true)), .q (.load (.tmp 45)), []⟩,
 ⟨(some 47), (some (41, true)), .q (.bin .eql (.tmp 46) (.const (.int .i64 3))), []⟩,
 ⟨(some 48), none, .q (.pick (.tmp 41) (.tmp 47) (.const (.bool false))), []⟩,
 ⟨(some 49), none, .q (.val (.tmp 48)), []⟩,
 ⟨(some 50), (some (49, true)), .q (.val (.tmp 2)), []⟩,
 ⟨(some 51), (some (49, true)), .q (.len (.tmp 50)), []⟩,
 ⟨(some 52), (some (49, true)), .q (.bin .eql (.tmp 51) (.const (.int .i64 3))), []⟩,
 ⟨(some 53), none, .q (.pick (.tmp 49) (.tmp 52) (.const (.bool false))), []⟩,
 ⟨(some 54), none, .q (.val (.tmp 53)), []⟩,
 ⟨(some 55), (some (54, true)), .q (.val (.tmp 2)), []⟩,
 ⟨(some 56), (some (54, true)), .q (.idxA 1 (.tmp 55) (.const (.int .i64 2))), []⟩,
 ⟨(some 57), (some (54, true)), .q (.load (.tmp 56)), []⟩,
 ⟨(some 58), (some (54, true)), .q (.bin .eql (.tmp 57) (.const (.int .u64 5))), []⟩,
 ⟨(some 59), none, .q (.pick (.tmp 54) (.tmp 58) (.const (.bool false))), []⟩,
 ⟨(some 60), none, .q (.val (.tmp 59)), []⟩,
 ⟨(some 61), (some (60, true)), .q (.val (.tmp 3)), []⟩,
 ⟨(some 62), (some (60, true)), .q (.len (.tmp 61)), []⟩,
 ⟨(some 63), (some (60, true)), .q (.bin .eql (.tmp 62) (.const (.int .i64 3))), []⟩,
 ⟨(some 64), none, .q (.pick (.tmp 60) (.tmp 63) (.const (.bool false))), []⟩,
 ⟨(some 65), none, .q (.val (.tmp 64)), []⟩,
 ⟨(some 66), (some (65, true)), .q (.val (.tmp 3)), []⟩,
 ⟨(some 67), (some (65, true)), .q (.idxA 1 (.tmp 66) (.const (.int .i64 2))), []⟩,
 ⟨(some 68), (some (65, true)), .q (.load (.tmp 67)), []⟩,
 ⟨(some 69), none, .q (.pick (.tmp 65) (.tmp 68) (.const (.bool false))), []⟩,
 ⟨(some 70), none, .q (.val (.tmp 69)), []⟩,
 ⟨(some 71), (some (70, true)), .q (.val (.tmp 4)), []⟩,
 ⟨(some 72), (some (70, true)), .q (.len (.tmp 71)), []⟩,
 ⟨(some 73), (some (70, true)), .q (.bin .eql (.tmp 72) (.const (.int .i64 3))), []⟩,
 ⟨(some 74), none, .q (.pick (.tmp 70) (.tmp 73) (.const (.bool false))), []⟩,
 ⟨(some 75), none, .q (.val (.tmp 74)), []⟩,
 ⟨(some 76), (some (75, true)), .q (.val (.tmp 4)), []⟩,
 ⟨(some 77), (some (75, true)), .q (.idxA 1 (.tmp 76) (.const (.int .i64 2))), []⟩,
 ⟨(some 78), (some (75, true)), .q (.load (.tmp 77)), []⟩,
 ⟨(some 79), (some (75, true)), .q (.len (.tmp 78)), []⟩,
 ⟨(some 80), (some (75, true)), .q (.bin .eql (.tmp 79) (.const (.int .i64 2))), []⟩,
 ⟨(some 81), none, .q (.pick (.tmp 75) (.tmp 80) (.const (.bool false))), []⟩,
 ⟨(some 0), none, .q (.val (.tmp 81)), []⟩])
 .ret)))))), [.tmp 0], 82⟩
theorem c_known10_is : cFunc Proofs.Try.prog Proofs.Try.f9 = some c_known10 := by kernel_rfl
def c_SortInt : AFn :=
⟨(.seq (.ops [⟨(some 3), none, .q (.val (.tmp 0)), []⟩,
 ⟨(some 4), none, .q (.len (.tmp 3)), []⟩,
 ⟨(some 2), none, .q (.val (.tmp 4)), []⟩])
 (.ops [⟨(some 5), none, .q (.val (.tmp 0)), []⟩,
 ⟨(some 6), none, .q (.val (.tmp 2)), []⟩,
 ⟨(some 7), none, .q (.val (.tmp 2)), []⟩,
 ⟨(some 8), none, .q (.conv .u64 (.tmp 7)), []⟩,
 ⟨(some 9), none, .call 85 [(.tmp 8)], []⟩,
 ⟨(some 10), none, .call 84 [(.tmp 5), (.const (.int .i64 0)), (.tmp 6), (.tmp 9)], []⟩])), [], 11⟩
theorem c_SortInt_is : cFunc Proofs.Try.prog Proofs.Try.f60 = some c_SortInt := by kernel_rfl
def c_Len : AFn :=
⟨(.seq (.ops [⟨(some 2), none, .q (.val (.const (.int .i64 0))), []⟩])
 (.seq (.cond (.const (.bool false))
 (.seq (.ops [⟨(some 3), none, .q (.val (.tmp 0)), []⟩,
 ⟨(some 4), none, .q (.conv .u32 (.tmp 3)), []⟩,
 ⟨(some 5), none, .call 103 [(.tmp 4)], []⟩,
 ⟨(some 2), none, .q (.val (.tmp 5)), []⟩])
 .ret)
 .skip)
 (.seq (.ops [⟨(some 6), none, .q (.val (.tmp 0)), []⟩,
 ⟨(some 7), none, .call 104 [(.tmp 6)], []⟩,
 ⟨(some 2), none, .q (.val (.tmp 7)), []⟩])
 .ret))), [.tmp 2], 8⟩
theorem c_Len_is : cFunc Proofs.Try.prog Proofs.Try.f85 = some c_Len := by kernel_rfl
def c_Len64 : AFn :=
⟨(.seq (.ops [⟨(some 2), none, .q (.val (.const (.int .i64 0))), []⟩])
 (.seq (.seq (.ops [⟨(some 3), none, .q (.val (.tmp 0)), []⟩,
 ⟨(some 4), none, .q (.bin .geq (.tmp 3) (.const (.int .u64 4294967296))), []⟩])
 (.cond (.tmp 4)
 (.seq (.ops [⟨(some 5), none, .q (.val (.tmp 0)), []⟩,
 ⟨(some 6), none, .q (.bin .shr (.tmp 5) (.const (.int .u64 32))), []⟩,
 ⟨(some 0), none, .q (.val (.tmp 6)), []⟩])
 (.ops [⟨(some 2), none, .q (.val (.const (.int .i64 32))), []⟩]))
 .skip))
 (.seq (.seq (.ops [⟨(some 7), none, .q (.val (.tmp 0)), []⟩,
 ⟨(some 8), none, .q (.bin .geq (.tmp 7) (.const (.int .u64 65536))), []⟩])
 (.cond (.tmp 8)
 (.seq (.ops [⟨(some 9), none, .q (.val (.tmp 0)), []⟩,
 ⟨(some 10), none, .q (.bin .shr (.tmp 9) (.const (.int .u64 16))), []⟩,
 ⟨(some 0), none, .q (.val (.tmp 10)), []⟩])
 (.ops [⟨(some 11), none, .q (.val (.tmp 2)), []⟩,
 ⟨(some 12), none, .q (.bin .add (.tmp 11) (.const (.int .i64 16))), []⟩,
 ⟨(some 2), none, .q (.val (.tmp 12)), []⟩]))
 .skip))
 (.seq (.seq (.ops [⟨(some 13), none, .q (.val (.tmp 0)), []⟩,
 ⟨(some 14), none, .q (.bin .geq (.tmp 13) (.const (.int .u64 256))), []⟩])
 (.cond (.tmp 14)
 (.seq (.ops [⟨(some 15), none, .q (.val (.tmp 0)), []⟩,
 ⟨(some 16), none, .q (.bin .shr (.tmp 15) (.const (.int .u64 8))), []⟩,
 ⟨(some 0), none, .q (.val (.tmp 16)), []⟩])
 (.ops [⟨(some 17), none, .q (.val (.tmp 2)), []⟩,
 ⟨(some 18), none, .q (.bin .add (.tmp 17) (.const (.int .i64 8))), []⟩,
 ⟨(some 2), none, .q (.val (.tmp 18)), []⟩]))
 .skip))
 (.seq (.ops [⟨(some 19), none, .q (.val (.tmp 2)), []⟩,
 ⟨(some 20), none, .q (.val (.tmp 0)), []⟩,
 ⟨(some 21), none, .q (.conv .u8 (.tmp 20)), []⟩,
 ⟨(some 22), none, .q (.idxS (.const (.string ⟨#[0, 1, 2, 2, 3, 3, 3, 3, 4, 4, 4, 4, 4, 4, 4, 4, 5, 5, 5, 5, 5, 5, 5, 5, 5, 5, 5, 5, 5, 5, 5, 5, 6, 6, 6, 6, 6, 6, 6, 6, 6, 6, 6, 6, 6, 6, 6, 6, 6, 6, 6, 6, 6, 6, 6, 6, 6, 6, 6, 6, 6, 6, 6, 6, 7, 7, 7, 7, 7, 7, 7, 7, 7, 7, 7, 7, 7, 7, 7, 7, 7, 7, 7, 7, 7, 7, 7, 7, 7, 7, 7, 7, 7, 7, 7, 7, 7, 7, 7, 7, 7, 7, 7, 7, 7, 7, 7, 7, 7, 7, 7, 7, 7, 7, 7, 7, 7, 7, 7, 7, 7, 7, 7, 7, 7, 7, 7, 7, 8, 8, 8, 8, 8, 8, 8, 8, 8, 8, 8, 8, 8, 8, 8, 8, 8, 8, 8, 8, 8, 8, 8, 8, 8, 8, 8, 8, 8, 8, 8, 8, 8, 8, 8, 8, 8, 8, 8, 8, 8, 8, 8, 8, 8, 8, 8, 8, 8, 8, 8, 8, 8, 8, 8, 8, 8, 8, 8, 8, 8, 8, 8, 8, 8, 8, 8, 8, 8, 8, 8, 8, 8, 8, 8, 8, 8, 8, 8, 8, 8, 8, 8, 8, 8, 8, 8, 8, 8, 8, 8, 8, 8, 8, 8, 8, 8, 8, 8, 8, 8, 8, 8, 8, 8, 8, 8, 8, 8, 8, 8, 8, 8, 8, 8, 8, 8, 8, 8, 8, 8, 8, 8, 8, 8, 8, 8, 8]⟩)) (.tmp 21)), []⟩,
 ⟨(some 23), none, .q (.conv .i64 (.tmp 22)), []⟩,
 ⟨(some 24), none, .q (.bin .add (.tmp 19) (.tmp 23)), []⟩,
 ⟨(some 2), none, .q (.val (.tmp 24)), []⟩])
 .ret))))), [.tmp 2], 25⟩
theorem c_Len64_is : cFunc Proofs.Try.prog Proofs.Try.f104 = some c_Len64 := by kernel_rfl
def c_pdqInt : AFn :=
⟨(.seq (.ops [⟨(some 8), none, .q (.val (.const (.bool true))), []⟩])
 (.seq (.ops [⟨(some 9), none, .q (.val (.const (.bool true))), []⟩])
 (.block 0 (.loop (.block 1 (.seq (.ops [⟨(some 19), none, .q (.val (.tmp 2)), []⟩,
 ⟨(some 20), none, .q (.val (.tmp 1)), []⟩,
 ⟨(some 21), none, .q (.bin .sub (.tmp 19) (.tmp 20)), []⟩,
 ⟨(some 10), none, .q (.val (.tmp 21)), []⟩])
 (.seq (.seq (.ops [⟨(some 22), none, .q (.val (.tmp 10)), []⟩,
 ⟨(some 23), none, .q (.bin .leq (.tmp 22) (.const (.int .i64 12))), []⟩])
 (.cond (.tmp 23)
 (.seq (.ops [⟨(some 24), none, .q (.val (.tmp 0)), []⟩,
 ⟨(some 25), none, .q (.val (.tmp 1)), []⟩,
 ⟨(some 26), none, .q (.val (.tmp 2)), []⟩,
 ⟨(some 27), none, .call 94 [(.tmp 24), (.tmp 25), (.tmp 26)], []⟩])
 .ret)
 .skip))
 (.seq (.seq (.ops [⟨(some 28), none, .q (.val (.tmp 3)), []⟩,
 ⟨(some 29), none, .q (.bin .eql (.tmp 28) (.const (.int .i64 0))), []⟩])
 (.cond (.tmp 29)
 (.seq (.ops [⟨(some 30), none, .q (.val (.tmp 0)), []⟩,
 ⟨(some 31), none, .q (.val (.tmp 1)), []⟩,
 ⟨(some 32), none, .q (.val (.tmp 2)), []⟩,
 ⟨(some 33), none, .call 95 [(.tmp 30), (.tmp 31), (.tmp 32)], []⟩])
 .ret)
 .skip))
 (.seq (.seq (.ops [⟨(some 34), none, .q (.val (.tmp 8)), []⟩,
 ⟨(some 35), none, .q (.not (.tmp 34)), []⟩])
 (.cond (.tmp 35)
 (.seq (.ops [⟨(some 36), none, .q (.val (.tmp 0)), []⟩,
 ⟨(some 37), none, .q (.val (.tmp 1)), []⟩,
 ⟨(some 38), none, .q (.val (.tmp 2)), []⟩,
 ⟨(some 39), none, .call 96 [(.tmp 36), (.tmp 37), (.tmp 38)], []⟩])
 (.ops [⟨(some 40), none, .q (.val (.tmp 3)), []⟩,
 ⟨(some 41), none, .q (.bin .sub (.tmp 40) (.const (.int .i64 1))), []⟩,
 ⟨(some 3), none, .q (.val (.tmp 41)), []⟩]))
 .skip))
 (.seq (.ops [⟨(some 43), none, .q (.val (.tmp 0)), []⟩,
 ⟨(some 44), none, .q (.val (.tmp 1)), []⟩,
 ⟨(some 45), none, .q (.val (.tmp 2)), []⟩,
 ⟨(some 46), none, .call 97 [(.tmp 43), (.tmp 44), (.tmp 45)], []⟩,
 ⟨(some 42), none, .q (.val (.tmp 46)), []⟩,
 ⟨(some 47), none, .q (.ext (.tmp 42) 0), []⟩,
 ⟨(some 48), none, .q (.ext (.tmp 42) 1), []⟩,
 ⟨(some 11), none, .q (.val (.tmp 47)), []⟩,
 ⟨(some 12), none, .q (.val (.tmp 48)), []⟩])
 (.seq (.seq (.ops [⟨(some 49), none, .q (.val (.tmp 12)), []⟩,
 ⟨(some 50), none, .q (.bin .eql (.tmp 49) (.const (.int .i64 2))), []⟩])
 (.cond (.tmp 50)
 (.seq (.ops [⟨(some 51), none, .q (.val (.tmp 0)), []⟩,
 ⟨(some 52), none, .q (.val (.tmp 1)), []⟩,
 ⟨(some 53), none, .q (.val (.tmp 2)), []⟩,
 ⟨(some 54), none, .call 98 [(.tmp 51), (.tmp 52), (.tmp 53)], []⟩])
 (.seq (.ops [⟨(some 55), none, .q (.val (.tmp 2)), []⟩,
 ⟨(some 56), none, .q (.bin .sub (.tmp 55) (.const (.int .i64 1))), []⟩,
 ⟨(some 57), none, .q (.val (.tmp 11)), []⟩,
 ⟨(some 58), none, .q (.val (.tmp 1)), []⟩,
 ⟨(some 59), none, .q (.bin .sub (.tmp 57) (.tmp 58)), []⟩,
 ⟨(some 60), none, .q (.bin .sub (.tmp 56) (.tmp 59)), []⟩,
 ⟨(some 11), none, .q (.val (.tmp 60)), []⟩])
 (.ops [⟨(some 12), none, .q (.val (.const (.int .i64 1))), []⟩])))
 .skip))
 (.seq (.seq (.ops [⟨(some 61), none, .q (.val (.tmp 8)), []⟩,
 ⟨(some 62), none, .q (.val (.tmp 61)), []⟩,
 ⟨(some 63), (some (62, true)), .q (.val (.tmp 9)), []⟩,
 ⟨(some 64), none, .q (.pick (.tmp 62) (.tmp 63) (.const (.bool false))), []⟩,
 ⟨(some 65), none, .q (.val (.tmp 64)), []⟩,
 ⟨(some 66), (some (65, true)), .q (.val (.tmp 12)), []⟩,
 ⟨(some 67), (some (65, true)), .q (.bin .eql (.tmp 66) (.const (.int .i64 1))), []⟩,
 ⟨(some 68), none, .q (.pick (.tmp 65) (.tmp 67) (.const (.bool false))), []⟩])
 (.cond (.tmp 68)
 (.seq (.ops [⟨(some 69), none, .q (.val (.tmp 0)), []⟩,
 ⟨(some 70), none, .q (.val (.tmp 1)), []⟩,
 ⟨(some 71), none, .q (.val (.tmp 2)), []⟩,
 ⟨(some 72), none, .call 99 [(.tmp 69), (.tmp 70), (.tmp 71)], []⟩])
 (.cond (.tmp 72)
 .ret
 .skip))
 .skip))
 (.seq (.seq (.ops [⟨(some 73), none, .q (.val (.tmp 1)), []⟩,
 ⟨(some 74), none, .q (.bin .gtr (.tmp 73) (.const (.int .i64 0))), []⟩,
 ⟨(some 75), none, .q (.val (.tmp 74)), []⟩,
 ⟨(some 76), (some (75, true)), .q (.val (.tmp 0)), []⟩,
 ⟨(some 77), (some (75, true)), .q (.val (.tmp 1)), []⟩,
 ⟨(some 78), (some (75, true)), .q (.bin .sub (.tmp 77) (.const (.int .i64 1))), []⟩,
 ⟨(some 79), (some (75, true)), .q (.idxA 1 (.tmp 76) (.tmp 78)), []⟩,
 ⟨(some 80), (some (75, true)), .q (.load (.tmp 79)), []⟩,
 ⟨(some 81), (some (75, true)), .q (.val (.tmp 0)), []⟩,
 ⟨(some 82), (some (75, true)), .q (.val (.tmp 11)), []⟩,
 ⟨(some 83), (some (75, true)), .q (.idxA 1 (.tmp 81) (.tmp 82)), []⟩,
 ⟨(some 84), (some (75, true)), .q (.load (.tmp 83)), []⟩,
 ⟨(some 85), (some (75, true)), .call 100 [(.tmp 80), (.tmp 84)], []⟩,
 ⟨(some 86), (some (75, true)), .q (.not (.tmp 85)), []⟩,
 ⟨(some 87), none, .q (.pick (.tmp 75) (.tmp 86) (.const (.bool false))), []⟩])
 (.cond (.tmp 87)
 (.seq (.ops [⟨(some 88), none, .q (.val (.tmp 0)), []⟩,
 ⟨(some 89), none, .q (.val (.tmp 1)), []⟩,
 ⟨(some 90), none, .q (.val (.tmp 2)), []⟩,
 ⟨(some 91), none, .q (.val (.tmp 11)), []⟩,
 ⟨(some 92), none, .call 101 [(.tmp 88), (.tmp 89), (.tmp 90), (.tmp 91)], []⟩,
 ⟨(some 13), none, .q (.val (.tmp 92)), []⟩])
 (.seq (.ops [⟨(some 93), none, .q (.val (.tmp 13)), []⟩,
 ⟨(some 1), none, .q (.val (.tmp 93)), []⟩])
 (.exit 1)))
 .skip))
 (.seq (.ops [⟨(some 95), none, .q (.val (.tmp 0)), []⟩,
 ⟨(some 96), none, .q (.val (.tmp 1)), []⟩,
 ⟨(some 97), none, .q (.val (.tmp 2)), []⟩,
 ⟨(some 98), none, .q (.val (.tmp 11)), []⟩,
 ⟨(some 99), none, .call 102 [(.tmp 95), (.tmp 96), (.tmp 97), (.tmp 98)], []⟩,
 ⟨(some 94), none, .q (.val (.tmp 99)), []⟩,
 ⟨(some 100), none, .q (.ext (.tmp 94) 0), []⟩,
 ⟨(some 101), none, .q (.ext (.tmp 94) 1), []⟩,
 ⟨(some 14), none, .q (.val (.tmp 100)), []⟩,
 ⟨(some 15), none, .q (.val (.tmp 101)), []⟩])
 (.seq (.ops [⟨(some 102), none, .q (.val (.tmp 15)), []⟩,
 ⟨(some 9), none, .q (.val (.tmp 102)), []⟩])
 (.seq (.ops [⟨(some 103), none, .q (.val (.tmp 14)), []⟩,
 ⟨(some 104), none, .q (.val (.tmp 1)), []⟩,
 ⟨(some 105), none, .q (.bin .sub (.tmp 103) (.tmp 104)), []⟩,
 ⟨(some 106), none, .q (.val (.tmp 2)), []⟩,
 ⟨(some 107), none, .q (.val (.tmp 14)), []⟩,
 ⟨(some 108), none, .q (.bin .sub (.tmp 106) (.tmp 107)), []⟩,
 ⟨(some 16), none, .q (.val (.tmp 105)), []⟩,
 ⟨(some 17), none, .q (.val (.tmp 108)), []⟩])
 (.seq (.ops [⟨(some 109), none, .q (.val (.tmp 10)), []⟩,
 ⟨(some 110), none, .q (.bin .quo (.tmp 109) (.const (.int .i64 8))), []⟩,
 ⟨(some 18), none, .q (.val (.tmp 110)), []⟩])
 (.seq (.ops [⟨(some 111), none, .q (.val (.tmp 16)), []⟩,
 ⟨(some 112), none, .q (.val (.tmp 17)), []⟩,
 ⟨(some 113), none, .q (.bin .lss (.tmp 111) (.tmp 112)), []⟩])
 (.cond (.tmp 113)
 (.seq (.ops [⟨(some 114), none, .q (.val (.tmp 16)), []⟩,
 ⟨(some 115), none, .q (.val (.tmp 18)), []⟩,
 ⟨(some 116), none, .q (.bin .geq (.tmp 114) (.tmp 115)), []⟩,
 ⟨(some 8), none, .q (.val (.tmp 116)), []⟩])
 (.seq (.ops [⟨(some 117), none, .q (.val (.tmp 0)), []⟩,
 ⟨(some 118), none, .q (.val (.tmp 1)), []⟩,
 ⟨(some 119), none, .q (.val (.tmp 14)), []⟩,
 ⟨(some 120), none, .q (.val (.tmp 3)), []⟩,
 ⟨(some 121), none, .call 84 [(.tmp 117), (.tmp 118), (.tmp 119), (.tmp 120)], []⟩])
 (.ops [⟨(some 122), none, .q (.val (.tmp 14)), []⟩,
 ⟨(some 123), none, .q (.bin .add (.tmp 122) (.const (.int .i64 1))), []⟩,
 ⟨(some 1), none, .q (.val (.tmp 123)), []⟩])))
 (.seq (.ops [⟨(some 124), none, .q (.val (.tmp 17)), []⟩,
 ⟨(some 125), none, .q (.val (.tmp 18)), []⟩,
 ⟨(some 126), none, .q (.bin .geq (.tmp 124) (.tmp 125)), []⟩,
 ⟨(some 8), none, .q (.val (.tmp 126)), []⟩])
 (.seq (.ops [⟨(some 127), none, .q (.val (.tmp 0)), []⟩,
 ⟨(some 128), none, .q (.val (.tmp 14)), []⟩,
 ⟨(some 129), none, .q (.bin .add (.tmp 128) (.const (.int .i64 1))), []⟩,
 ⟨(some 130), none, .q (.val (.tmp 2)), []⟩,
 ⟨(some 131), none, .q (.val (.tmp 3)), []⟩,
 ⟨(some 132), none, .call 84 [(.tmp 127), (.tmp 129), (.tmp 130), (.tmp 131)], []⟩])
 (.ops [⟨(some 133), none, .q (.val (.tmp 14)), []⟩,
 ⟨(some 2), none, .q (.val (.tmp 133)), []⟩])))))))))))))))))))))), [], 134⟩
theorem c_pdqInt_is : cFunc Proofs.Try.prog Proofs.Try.f84 = some c_pdqInt := by kernel_rfl
def c_insInt : AFn :=
⟨(.seq (.ops [⟨(some 8), none, .q (.val (.tmp 1)), []⟩,
 ⟨(some 9), none, .q (.bin .add (.tmp 8) (.const (.int .i64 1))), []⟩,
 ⟨(some 6), none, .q (.val (.tmp 9)), []⟩])
 (.block 0 (.loop (.seq (.seq (.ops [⟨(some 10), none, .q (.val (.tmp 6)), []⟩,
 ⟨(some 11), none, .q (.val (.tmp 2)), []⟩,
 ⟨(some 12), none, .q (.bin .lss (.tmp 10) (.tmp 11)), []⟩])
 (.cond (.tmp 12)
 .skip
 (.exit 0)))
 (.seq (.block 1 (.seq (.ops [⟨(some 15), none, .q (.val (.tmp 6)), []⟩,
 ⟨(some 7), none, .q (.val (.tmp 15)), []⟩])
 (.block 2 (.loop (.seq (.seq (.ops [⟨(some 16), none, .q (.val (.tmp 7)), []⟩,
 ⟨(some 17), none, .q (.val (.tmp 1)), []⟩,
 ⟨(some 18), none, .q (.bin .gtr (.tmp 16) (.tmp 17)), []⟩,
 ⟨(some 19), none, .q (.val (.tmp 18)), []⟩,
 ⟨(some 20), (some (19, true)), .q (.val (.tmp 0)), []⟩,
 ⟨(some 21), (some (19, true)), .q (.val (.tmp 7)), []⟩,
 ⟨(some 22), (some (19, true)), .q (.idxA 1 (.tmp 20) (.tmp 21)), []⟩,
 ⟨(some 23), (some (19, true)), .q (.load (.tmp 22)), []⟩,
 ⟨(some 24), (some (19, true)), .q (.val (.tmp 0)), []⟩,
 ⟨(some 25), (some (19, true)), .q (.val (.tmp 7)), []⟩,
 ⟨(some 26), (some (19, true)), .q (.bin .sub (.tmp 25) (.const (.int .i64 1))), []⟩,
 ⟨(some 27), (some (19, true)), .q (.idxA 1 (.tmp 24) (.tmp 26)), []⟩,
 ⟨(some 28), (some (19, true)), .q (.load (.tmp 27)), []⟩,
 ⟨(some 29), (some (19, true)), .call 100 [(.tmp 23), (.tmp 28)], []⟩,
 ⟨(some 30), none, .q (.pick (.tmp 19) (.tmp 29) (.const (.bool false))), []⟩])
 (.cond (.tmp 30)
 .skip
 (.exit 2)))
 (.seq (.block 3 (.ops [⟨(some 33), none, .q (.val (.tmp 0)), []⟩,
 ⟨(some 34), none, .q (.val (.tmp 7)), []⟩,
 ⟨(some 35), none, .q (.val (.tmp 0)), []⟩,
 ⟨(some 36), none, .q (.val (.tmp 7)), []⟩,
 ⟨(some 37), none, .q (.bin .sub (.tmp 36) (.const (.int .i64 1))), []⟩,
 ⟨(some 38), none, .q (.val (.tmp 0)), []⟩,
 ⟨(some 39), none, .q (.val (.tmp 7)), []⟩,
 ⟨(some 40), none, .q (.bin .sub (.tmp 39) (.const (.int .i64 1))), []⟩,
 ⟨(some 41), none, .q (.idxA 1 (.tmp 38) (.tmp 40)), []⟩,
 ⟨(some 42), none, .q (.load (.tmp 41)), []⟩,
 ⟨(some 43), none, .q (.val (.tmp 0)), []⟩,
 ⟨(some 44), none, .q (.val (.tmp 7)), []⟩,
 ⟨(some 45), none, .q (.idxA 1 (.tmp 43) (.tmp 44)), []⟩,
 ⟨(some 46), none, .q (.load (.tmp 45)), []⟩,
 ⟨(some 47), none, .q (.idxA 1 (.tmp 33) (.tmp 34)), []⟩,
 ⟨none, none, .e (.store 1 (.tmp 47) (.tmp 42)), []⟩,
 ⟨(some 48), none, .q (.idxA 1 (.tmp 35) (.tmp 37)), []⟩,
 ⟨none, none, .e (.store 1 (.tmp 48) (.tmp 46)), []⟩]))
 (.ops [⟨(some 31), none, .q (.val (.tmp 7)), []⟩,
 ⟨(some 32), none, .q (.bin .sub (.tmp 31) (.const (.int .i64 1))), []⟩,
 ⟨(some 7), none, .q (.val (.tmp 32)), []⟩])))))))
 (.ops [⟨(some 13), none, .q (.val (.tmp 6)), []⟩,
 ⟨(some 14), none, .q (.bin .add (.tmp 13) (.const (.int .i64 1))), []⟩,
 ⟨(some 6), none, .q (.val (.tmp 14)), []⟩])))))), [], 49⟩
theorem c_insInt_is : cFunc Proofs.Try.prog Proofs.Try.f94 = some c_insInt := by kernel_rfl
def c_LessInt : AFn :=
⟨(.seq (.ops [⟨(some 4), none, .q (.val (.const (.bool false))), []⟩])
 (.seq (.ops [⟨(some 5), none, .q (.val (.tmp 0)), []⟩,
 ⟨(some 6), none, .call 122 [(.tmp 5)], []⟩,
 ⟨(some 7), none, .q (.val (.tmp 6)), []⟩,
 ⟨(some 8), (some (7, true)), .q (.val (.tmp 1)), []⟩,
 ⟨(some 9), (some (7, true)), .call 122 [(.tmp 8)], []⟩,
 ⟨(some 10), (some (7, true)), .q (.not (.tmp 9)), []⟩,
 ⟨(some 11), none, .q (.pick (.tmp 7) (.tmp 10) (.const (.bool false))), []⟩,
 ⟨(some 12), none, .q (.val (.tmp 11)), []⟩,
 ⟨(some 13), (some (12, false)), .q (.val (.tmp 0)), []⟩,
 ⟨(some 14), (some (12, false)), .q (.val (.tmp 1)), []⟩,
 ⟨(some 15), (some (12, false)), .q (.bin .lss (.tmp 13) (.tmp 14)), []⟩,
 ⟨(some 16), none, .q (.pick (.tmp 12) (.const (.bool true)) (.tmp 15)), []⟩,
 ⟨(some 4), none, .q (.val (.tmp 16)), []⟩])
 .ret)), [.tmp 4], 17⟩
theorem c_LessInt_is : cFunc Proofs.Try.prog Proofs.Try.f100 = some c_LessInt := by kernel_rfl
def c_isNaNInt : AFn :=
⟨(.seq (.ops [⟨(some 2), none, .q (.val (.const (.bool false))), []⟩])
 (.seq (.ops [⟨(some 3), none, .q (.val (.tmp 0)), []⟩,
 ⟨(some 4), none, .q (.val (.tmp 0)), []⟩,
 ⟨(some 5), none, .q (.bin .neq (.tmp 3) (.tmp 4)), []⟩,
 ⟨(some 2), none, .q (.val (.tmp 5)), []⟩])
 .ret)), [.tmp 2], 6⟩
theorem c_isNaNInt_is : cFunc Proofs.Try.prog Proofs.Try.f122 = some c_isNaNInt := by kernel_rfl
def c_CompactInt : AFn :=
⟨(.seq (.ops [⟨(some 2), none, .q (.val (.const (.slice none 0 0))), []⟩])
 (.seq (.seq (.ops [⟨(some 6), none, .q (.val (.tmp 0)), []⟩,
 ⟨(some 7), none, .q (.len (.tmp 6)), []⟩,
 ⟨(some 8), none, .q (.bin .lss (.tmp 7) (.const (.int .i64 2))), []⟩])
 (.cond (.tmp 8)
 (.seq (.ops [⟨(some 9), none, .q (.val (.tmp 0)), []⟩,
 ⟨(some 2), none, .q (.val (.tmp 9)), []⟩])
 .ret)
 .skip))
 (.seq (.seq (.ops [⟨(some 3), none, .q (.val (.const (.int .i64 1))), []⟩])
 (.block 0 (.loop (.seq (.seq (.ops [⟨(some 10), none, .q (.val (.tmp 3)), []⟩,
 ⟨(some 11), none, .q (.val (.tmp 0)), []⟩,
 ⟨(some 12), none, .q (.len (.tmp 11)), []⟩,
 ⟨(some 13), none, .q (.bin .lss (.tmp 10) (.tmp 12)), []⟩])
 (.cond (.tmp 13)
 .skip
 (.exit 0)))
 (.seq (.block 1 (.seq (.ops [⟨(some 16), none, .q (.val (.tmp 0)), []⟩,
 ⟨(some 17), none, .q (.val (.tmp 3)), []⟩,
 ⟨(some 18), none, .q (.idxA 1 (.tmp 16) (.tmp 17)), []⟩,
 ⟨(some 19), none, .q (.load (.tmp 18)), []⟩,
 ⟨(some 20), none, .q (.val (.tmp 0)), []⟩,
 ⟨(some 21), none, .q (.val (.tmp 3)), []⟩,
 ⟨(some 22), none, .q (.bin .sub (.tmp 21) (.const (.int .i64 1))), []⟩,
 ⟨(some 23), none, .q (.idxA 1 (.tmp 20) (.tmp 22)), []⟩,
 ⟨(some 24), none, .q (.load (.tmp 23)), []⟩,
 ⟨(some 25), none, .q (.bin .eql (.tmp 19) (.tmp 24)), []⟩])
 (.cond (.tmp 25)
 (.seq (.ops [⟨(some 26), none, .q (.val (.tmp 0)), []⟩,
 ⟨(some 27), none, .q (.val (.tmp 3)), []⟩,
 ⟨(some 28), none, .q (.cut 1 (.tmp 26) (some (.tmp 27)) none), []⟩,
 ⟨(some 4), none, .q (.val (.tmp 28)), []⟩])
 (.seq (.seq (.ops [⟨(some 5), none, .q (.val (.const (.int .i64 1))), []⟩])
 (.block 2 (.loop (.seq (.seq (.ops [⟨(some 29), none, .q (.val (.tmp 5)), []⟩,
 ⟨(some 30), none, .q (.val (.tmp 4)), []⟩,
 ⟨(some 31), none, .q (.len (.tmp 30)), []⟩,
 ⟨(some 32), none, .q (.bin .lss (.tmp 29) (.tmp 31)), []⟩])
 (.cond (.tmp 32)
 .skip
 (.exit 2)))
 (.seq (.block 3 (.seq (.ops [⟨(some 35), none, .q (.val (.tmp 4)), []⟩,
 ⟨(some 36), none, .q (.val (.tmp 5)), []⟩,
 ⟨(some 37), none, .q (.idxA 1 (.tmp 35) (.tmp 36)), []⟩,
 ⟨(some 38), none, .q (.load (.tmp 37)), []⟩,
 ⟨(some 39), none, .q (.val (.tmp 4)), []⟩,
 ⟨(some 40), none, .q (.val (.tmp 5)), []⟩,
 ⟨(some 41), none, .q (.bin .sub (.tmp 40) (.const (.int .i64 1))), []⟩,
 ⟨(some 42), none, .q (.idxA 1 (.tmp 39) (.tmp 41)), []⟩,
 ⟨(some 43), none, .q (.load (.tmp 42)), []⟩,
 ⟨(some 44), none, .q (.bin .neq (.tmp 38) (.tmp 43)), []⟩])
 (.cond (.tmp 44)
 (.seq (.ops [⟨(some 45), none, .q (.val (.tmp 0)), []⟩,
 ⟨(some 46), none, .q (.val (.tmp 3)), []⟩,
 ⟨(some 47), none, .q (.val (.tmp 4)), []⟩,
 ⟨(some 48), none, .q (.val (.tmp 5)), []⟩,
 ⟨(some 49), none, .q (.idxA 1 (.tmp 47) (.tmp 48)), []⟩,
 ⟨(some 50), none, .q (.load (.tmp 49)), []⟩,
 ⟨(some 51), none, .q (.idxA 1 (.tmp 45) (.tmp 46)), []⟩,
 ⟨none, none, .e (.store 1 (.tmp 51) (.tmp 50)), []⟩])
 (.ops [⟨(some 52), none, .q (.val (.tmp 3)), []⟩,
 ⟨(some 53), none, .q (.bin .add (.tmp 52) (.const (.int .i64 1))), []⟩,
 ⟨(some 3), none, .q (.val (.tmp 53)), []⟩]))
 .skip)))
 (.ops [⟨(some 33), none, .q (.val (.tmp 5)), []⟩,
 ⟨(some 34), none, .q (.bin .add (.tmp 33) (.const (.int .i64 1))), []⟩,
 ⟨(some 5), none, .q (.val (.tmp 34)), []⟩]))))))
 (.seq (.ops [⟨(some 54), none, .q (.val (.tmp 0)), []⟩,
 ⟨(some 55), none, .q (.val (.tmp 3)), []⟩,
 ⟨(some 56), none, .q (.cut 1 (.tmp 54) (some (.tmp 55)) none), []⟩,
 ⟨none, none, .e (.clear [(.int .i64 0)] (.tmp 56)), []⟩])
 (.seq (.ops [⟨(some 57), none, .q (.val (.tmp 0)), []⟩,
 ⟨(some 58), none, .q (.val (.tmp 3)), []⟩,
 ⟨(some 59), none, .q (.cut 1 (.tmp 57) none (some (.tmp 58))), []⟩,
 ⟨(some 2), none, .q (.val (.tmp 59)), []⟩])
 .ret))))
 .skip)))
 (.ops [⟨(some 14), none, .q (.val (.tmp 3)), []⟩,
 ⟨(some 15), none, .q (.bin .add (.tmp 14) (.const (.int .i64 1))), []⟩,
 ⟨(some 3), none, .q (.val (.tmp 15)), []⟩]))))))
 (.seq (.ops [⟨(some 60), none, .q (.val (.tmp 0)), []⟩,
 ⟨(some 2), none, .q (.val (.tmp 60)), []⟩])
 .ret)))), [.tmp 2], 61⟩
theorem c_CompactInt_is : cFunc Proofs.Try.prog Proofs.Try.f61 = some c_CompactInt := by kernel_rfl
def c_All : AFn :=
⟨(.seq (.ops [⟨(some 2), none, .q (.val (.const (.int .u64 0))), []⟩])
 (.seq (.block 0 (.seq (.ops [⟨(some 4), none, .q (.val (.tmp 0)), []⟩,
 ⟨(some 5), none, .q (.bin .leq (.tmp 4) (.const (.int .i64 0))), []⟩,
 ⟨(some 3), none, .q (.val (.tmp 5)), []⟩])
 (.cond (.tmp 3)
 (.seq (.ops [⟨(some 2), none, .q (.val (.const (.int .u64 0))), []⟩])
 .ret)
 (.seq (.ops [⟨(some 7), none, .q (.val (.tmp 0)), []⟩,
 ⟨(some 8), none, .q (.bin .geq (.tmp 7) (.const (.int .i64 64))), []⟩,
 ⟨(some 6), none, .q (.val (.tmp 8)), []⟩])
 (.cond (.tmp 6)
 (.seq (.ops [⟨(some 2), none, .q (.val (.const (.int .u64 18446744073709551615))), []⟩])
 .ret)
 .skip)))))
 (.seq (.ops [⟨(some 9), none, .q (.val (.tmp 0)), []⟩,
 ⟨(some 10), none, .q (.bin .shl (.const (.int .u64 1)) (.tmp 9)), []⟩,
 ⟨(some 11), none, .q (.bin .sub (.tmp 10) (.const (.int .u64 1))), []⟩,
 ⟨(some 2), none, .q (.val (.tmp 11)), []⟩])
 .ret))), [.tmp 2], 12⟩
theorem c_All_is : cFunc Proofs.Try.prog Proofs.Try.f41 = some c_All := by kernel_rfl
theorem call_All {args : List Value} {H : Heap} {K : Value → Heap → Prop} (hl : args.length ≤ 12) (h : awp Proofs.Try.prog c_All.body (BodyK c_All.results K) (enterF args) H) : ACall Proofs.Try.prog 41 args H K :=
  acall_of (by kernel_rfl) (by kernel_rfl) c_All_is hl h
def c_With : AFn :=
⟨(.seq (.ops [⟨(some 4), none, .q (.val (.const (.int .u64 0))), []⟩])
 (.seq (.seq (.ops [⟨(some 7), none, .q (.val (.tmp 1)), []⟩,
 ⟨(some 8), none, .q (.len (.tmp 7)), []⟩,
 ⟨(some 9), none, .q (.val (.const (.int .i64 0))), []⟩])
 (.block 0 (.loop (.seq (.ops [⟨(some 10), none, .q (.bin .lss (.tmp 9) (.tmp 8)), []⟩])
 (.seq (.cond (.tmp 10)
 .skip
 (.exit 0))
 (.seq (.block 1 (.seq (.ops [⟨(some 11), none, .q (.idxA 1 (.tmp 7) (.tmp 9)), []⟩,
 ⟨(some 12), none, .q (.load (.tmp 11)), []⟩,
 ⟨(some 6), none, .q (.val (.tmp 12)), []⟩])
 (.ops [⟨(some 13), none, .q (.val (.tmp 0)), []⟩,
 ⟨(some 14), none, .q (.val (.tmp 6)), []⟩,
 ⟨(some 15), none, .call 65 [(.tmp 14)], []⟩,
 ⟨(some 16), none, .q (.bin .or (.tmp 13) (.tmp 15)), []⟩,
 ⟨(some 0), none, .q (.val (.tmp 16)), []⟩])))
 (.ops [⟨(some 17), none, .q (.bin .add (.tmp 9) (.const (.int .i64 1))), []⟩,
 ⟨(some 9), none, .q (.val (.tmp 17)), []⟩])))))))
 (.seq (.ops [⟨(some 18), none, .q (.val (.tmp 0)), []⟩,
 ⟨(some 4), none, .q (.val (.tmp 18)), []⟩])
 .ret))), [.tmp 4], 19⟩
theorem c_With_is : cFunc Proofs.Try.prog Proofs.Try.f42 = some c_With := by kernel_rfl
theorem call_With {args : List Value} {H : Heap} {K : Value → Heap → Prop} (hl : args.length ≤ 19) (h : awp Proofs.Try.prog c_With.body (BodyK c_With.results K) (enterF args) H) : ACall Proofs.Try.prog 42 args H K :=
  acall_of (by kernel_rfl) (by kernel_rfl) c_With_is hl h
def c_bit : AFn :=
⟨(.seq (.ops [⟨(some 2), none, .q (.val (.const (.int .u64 0))), []⟩])
 (.seq (.seq (.ops [⟨(some 3), none, .q (.val (.tmp 0)), []⟩,
 ⟨(some 4), none, .q (.bin .lss (.tmp 3) (.const (.int .i64 0))), []⟩,
 ⟨(some 5), none, .q (.val (.tmp 4)), []⟩,
 ⟨(some 6), (some (5, false)), .q (.val (.tmp 0)), []⟩,
 ⟨(some 7), (some (5, false)), .q (.bin .geq (.tmp 6) (.const (.int .i64 64))), []⟩,
 ⟨(some 8), none, .q (.pick (.tmp 5) (.const (.bool true)) (.tmp 7)), []⟩])
 (.cond (.tmp 8)
 (.seq (.ops [⟨(some 2), none, .q (.val (.const (.int .u64 0))), []⟩])
 .ret)
 .skip))
 (.seq (.ops [⟨(some 9), none, .q (.val (.tmp 0)), []⟩,
 ⟨(some 10), none, .q (.bin .shl (.const (.int .u64 1)) (.tmp 9)), []⟩,
 ⟨(some 2), none, .q (.val (.tmp 10)), []⟩])
 .ret))), [.tmp 2], 11⟩
theorem c_bit_is : cFunc Proofs.Try.prog Proofs.Try.f65 = some c_bit := by kernel_rfl
theorem call_bit {args : List Value} {H : Heap} {K : Value → Heap → Prop} (hl : args.length ≤ 11) (h : awp Proofs.Try.prog c_bit.body (BodyK c_bit.results K) (enterF args) H) : ACall Proofs.Try.prog 65 args H K :=
  acall_of (by kernel_rfl) (by kernel_rfl) c_bit_is hl h
def c_RSame10 : AFn :=
⟨(.seq (.ops [⟨(some 4), none, .q (.val (.const (.bool false))), []⟩])
 (.seq (.seq (.ops [⟨(some 6), none, .q (.val (.tmp 0)), []⟩,
 ⟨(some 7), none, .q (.len (.tmp 6)), []⟩,
 ⟨(some 8), none, .q (.val (.tmp 1)), []⟩,
 ⟨(some 9), none, .q (.len (.tmp 8)), []⟩,
 ⟨(some 10), none, .q (.bin .neq (.tmp 7) (.tmp 9)), []⟩])
 (.cond (.tmp 10)
 (.seq (.ops [⟨(some 4), none, .q (.val (.const (.bool false))), []⟩])
 .ret)
 .skip))
 (.seq (.seq (.ops [⟨(some 5), none, .q (.val (.const (.int .i64 0))), []⟩])
 (.block 0 (.loop (.seq (.seq (.ops [⟨(some 11), none, .q (.val (.tmp 5)), []⟩,
 ⟨(some 12), none, .q (.val (.tmp 0)), []⟩,
 ⟨(some 13), none, .q (.len (.tmp 12)), []⟩,
 ⟨(some 14), none, .q (.bin .lss (.tmp 11) (.tmp 13)), []⟩])
 (.cond (.tmp 14)
 .skip
 (.exit 0)))
 (.seq (.block 1 (.seq (.ops [⟨(some 17), none, .q (.val (.tmp 0)), []⟩,
 ⟨(some 18), none, .q (.val (.tmp 5)), []⟩,
 ⟨(some 19), none, .q (.idxA 1 (.tmp 17) (.tmp 18)), []⟩,
 ⟨(some 20), none, .q (.load (.tmp 19)), []⟩,
 ⟨(some 21), none, .q (.val (.tmp 1)), []⟩,
 ⟨(some 22), none, .q (.val (.tmp 5)), []⟩,
 ⟨(some 23), none, .q (.idxA 1 (.tmp 21) (.tmp 22)), []⟩,
 ⟨(some 24), none, .q (.load (.tmp 23)), []⟩,
 ⟨(some 25), none, .call 23 [(.tmp 20), (.tmp 24)], []⟩,
 ⟨(some 26), none, .q (.not (.tmp 25)), []⟩])
 (.cond (.tmp 26)
 (.seq (.ops [⟨(some 4), none, .q (.val (.const (.bool false))), []⟩])
 .ret)
 .skip)))
 (.ops [⟨(some 15), none, .q (.val (.tmp 5)), []⟩,
 ⟨(some 16), none, .q (.bin .add (.tmp 15) (.const (.int .i64 1))), []⟩,
 ⟨(some 5), none, .q (.val (.tmp 16)), []⟩]))))))
 (.seq (.ops [⟨(some 4), none, .q (.val (.const (.bool true))), []⟩])
 .ret)))), [.tmp 4], 27⟩
theorem c_RSame10_is : cFunc Proofs.Try.prog Proofs.Try.f35 = some c_RSame10 := by kernel_rfl
theorem call_RSame10 {args : List Value} {H : Heap} {K : Value → Heap → Prop} (hl : args.length ≤ 27) (h : awp Proofs.Try.prog c_RSame10.body (BodyK c_RSame10.results K) (enterF args) H) : ACall Proofs.Try.prog 35 args H K :=
  acall_of (by kernel_rfl) (by kernel_rfl) c_RSame10_is hl h
def c_RPreds : AFn :=
⟨(.seq (.ops [⟨(some 2), none, .q (.val (.const (.slice none 0 0))), []⟩])
 (.seq (.ops [⟨(some 3), none, .q (.val (.const (.slice none 0 0))), []⟩])
 (.seq (.seq (.ops [⟨(some 4), none, .q (.val (.const (.int .i64 0))), []⟩])
 (.block 0 (.loop (.seq (.seq (.ops [⟨(some 7), none, .q (.val (.tmp 4)), []⟩,
 ⟨(some 8), none, .q (.val (.tmp 0)), []⟩,
 ⟨(some 9), none, .q (.len (.tmp 8)), []⟩,
 ⟨(some 10), none, .q (.bin .lss (.tmp 7) (.tmp 9)), []⟩])
 (.cond (.tmp 10)
 .skip
 (.exit 0)))
 (.seq (.block 1 (.seq (.ops [⟨(some 5), none, .q (.val (.const (.slice none 0 0))), []⟩])
 (.seq (.seq (.ops [⟨(some 6), none, .q (.val (.const (.int .i64 0))), []⟩])
 (.block 2 (.loop (.seq (.seq (.ops [⟨(some 13), none, .q (.val (.tmp 6)), []⟩,
 ⟨(some 14), none, .q (.val (.tmp 0)), []⟩,
 ⟨(some 15), none, .q (.len (.tmp 14)), []⟩,
 ⟨(some 16), none, .q (.bin .lss (.tmp 13) (.tmp 15)), []⟩])
 (.cond (.tmp 16)
 .skip
 (.exit 2)))
 (.seq (.block 3 (.seq (.ops [⟨(some 19), none, .q (.val (.tmp 0)), []⟩,
 ⟨(some 20), none, .q (.val (.tmp 6)), []⟩,
 ⟨(some 21), none, .q (.idxA 1 (.tmp 19) (.tmp 20)), []⟩,
 ⟨(some 22), none, .q (.load (.tmp 21)), []⟩,
 ⟨(some 23), none, .q (.val (.tmp 4)), []⟩,
 ⟨(some 24), none, .call 62 [(.tmp 22), (.tmp 23)], []⟩])
 (.cond (.tmp 24)
 (.ops [⟨(some 25), none, .q (.val (.tmp 5)), []⟩,
 ⟨(some 26), none, .q (.val (.tmp 6)), []⟩,
 ⟨(some 27), none, .e (.lit [(.int .i64 0)] 1 1 [(0, 1, (.tmp 26))]), []⟩,
 ⟨(some 28), none, .e (.app 1 (.tmp 25) (.tmp 27)), []⟩,
 ⟨(some 5), none, .q (.val (.tmp 28)), []⟩])
 .skip)))
 (.ops [⟨(some 17), none, .q (.val (.tmp 6)), []⟩,
 ⟨(some 18), none, .q (.bin .add (.tmp 17) (.const (.int .i64 1))), []⟩,
 ⟨(some 6), none, .q (.val (.tmp 18)), []⟩]))))))
 (.ops [⟨(some 29), none, .q (.val (.tmp 3)), []⟩,
 ⟨(some 30), none, .q (.val (.tmp 5)), []⟩,
 ⟨(some 31), none, .e (.lit [(.slice none 0 0)] 1 1 [(0, 1, (.tmp 30))]), []⟩,
 ⟨(some 32), none, .e (.app 1 (.tmp 29) (.tmp 31)), []⟩,
 ⟨(some 3), none, .q (.val (.tmp 32)), []⟩]))))
 (.ops [⟨(some 11), none, .q (.val (.tmp 4)), []⟩,
 ⟨(some 12), none, .q (.bin .add (.tmp 11) (.const (.int .i64 1))), []⟩,
 ⟨(some 4), none, .q (.val (.tmp 12)), []⟩]))))))
 (.seq (.ops [⟨(some 33), none, .q (.val (.tmp 3)), []⟩,
 ⟨(some 2), none, .q (.val (.tmp 33)), []⟩])
 .ret)))), [.tmp 2], 34⟩
theorem c_RPreds_is : cFunc Proofs.Try.prog Proofs.Try.f36 = some c_RPreds := by kernel_rfl
theorem call_RPreds {args : List Value} {H : Heap} {K : Value → Heap → Prop} (hl : args.length ≤ 34) (h : awp Proofs.Try.prog c_RPreds.body (BodyK c_RPreds.results K) (enterF args) H) : ACall Proofs.Try.prog 36 args H K :=
  acall_of (by kernel_rfl) (by kernel_rfl) c_RPreds_is hl h
def c_without : AFn :=
⟨(.seq (.ops [⟨(some 4), none, .q (.val (.const (.slice none 0 0))), []⟩])
 (.seq (.ops [⟨(some 10), none, .q (.val (.tmp 0)), []⟩,
 ⟨(some 11), none, .q (.len (.tmp 10)), []⟩,
 ⟨(some 12), none, .e (.make [(.bool false)] 1 (.tmp 11) (.tmp 11)), []⟩,
 ⟨(some 5), none, .q (.val (.tmp 12)), []⟩])
 (.seq (.seq (.ops [⟨(some 13), none, .q (.val (.tmp 0)), []⟩,
 ⟨(some 14), none, .q (.len (.tmp 13)), []⟩,
 ⟨(some 15), none, .q (.bin .gtr (.tmp 14) (.const (.int .i64 0))), []⟩,
 ⟨(some 16), none, .q (.val (.tmp 15)), []⟩,
 ⟨(some 17), (some (16, true)), .q (.val (.tmp 1)), []⟩,
 ⟨(some 18), (some (16, true)), .q (.bin .neq (.tmp 17) (.const (.int .i64 0))), []⟩,
 ⟨(some 19), none, .q (.pick (.tmp 16) (.tmp 18) (.const (.bool false))), []⟩])
 (.cond (.tmp 19)
 (.ops [⟨(some 20), none, .q (.val (.tmp 5)), []⟩,
 ⟨(some 21), none, .q (.idxA 1 (.tmp 20) (.const (.int .i64 0))), []⟩,
 ⟨none, none, .e (.store 1 (.tmp 21) (.const (.bool true))), []⟩])
 .skip))
 (.seq (.seq (.ops [⟨(some 6), none, .q (.val (.const (.bool true))), []⟩])
 (.block 0 (.loop (.seq (.seq (.ops [⟨(some 22), none, .q (.val (.tmp 6)), []⟩])
 (.cond (.tmp 22)
 .skip
 (.exit 0)))
 (.block 1 (.seq (.ops [⟨(some 6), none, .q (.val (.const (.bool false))), []⟩])
 (.seq (.ops [⟨(some 7), none, .q (.val (.const (.int .i64 0))), []⟩])
 (.block 2 (.loop (.seq (.seq (.ops [⟨(some 23), none, .q (.val (.tmp 7)), []⟩,
 ⟨(some 24), none, .q (.val (.tmp 0)), []⟩,
 ⟨(some 25), none, .q (.len (.tmp 24)), []⟩,
 ⟨(some 26), none, .q (.bin .lss (.tmp 23) (.tmp 25)), []⟩])
 (.cond (.tmp 26)
 .skip
 (.exit 2)))
 (.seq (.block 3 (.seq (.ops [⟨(some 8), none, .q (.val (.const (.int .i64 0))), []⟩])
 (.block 4 (.loop (.seq (.seq (.ops [⟨(some 29), none, .q (.val (.tmp 8)), []⟩,
 ⟨(some 30), none, .q (.val (.tmp 0)), []⟩,
 ⟨(some 31), none, .q (.val (.tmp 7)), []⟩,
 ⟨(some 32), none, .q (.idxA 1 (.tmp 30) (.tmp 31)), []⟩,
 ⟨(some 33), none, .q (.load (.tmp 32)), []⟩,
 ⟨(some 34), none, .q (.len (.tmp 33)), []⟩,
 ⟨(some 35), none, .q (.bin .lss (.tmp 29) (.tmp 34)), []⟩,
 ⟨(some 36), none, .q (.val (.tmp 35)), []⟩,
 ⟨(some 37), (some (36, true)), .q (.val (.tmp 5)), []⟩,
 ⟨(some 38), (some (36, true)), .q (.val (.tmp 7)), []⟩,
 ⟨(some 39), (some (36, true)), .q (.idxA 1 (.tmp 37) (.tmp 38)), []⟩,
 ⟨(some 40), (some (36, true)), .q (.load (.tmp 39)), []⟩,
 ⟨(some 41), none, .q (.pick (.tmp 36) (.tmp 40) (.const (.bool false))), []⟩])
 (.cond (.tmp 41)
 .skip
 (.exit 4)))
 (.seq (.block 5 (.seq (.ops [⟨(some 44), none, .q (.val (.tmp 0)), []⟩,
 ⟨(some 45), none, .q (.val (.tmp 7)), []⟩,
 ⟨(some 46), none, .q (.idxA 1 (.tmp 44) (.tmp 45)), []⟩,
 ⟨(some 47), none, .q (.load (.tmp 46)), []⟩,
 ⟨(some 48), none, .q (.val (.tmp 8)), []⟩,
 ⟨(some 49), none, .q (.idxA 1 (.tmp 47) (.tmp 48)), []⟩,
 ⟨(some 50), none, .q (.load (.tmp 49)), []⟩,
 ⟨(some 9), none, .q (.val (.tmp 50)), []⟩])
 (.seq (.ops [⟨(some 51), none, .q (.val (.tmp 9)), []⟩,
 ⟨(some 52), none, .q (.bin .geq (.tmp 51) (.const (.int .i64 0))), []⟩,
 ⟨(some 53), none, .q (.val (.tmp 52)), []⟩,
 ⟨(some 54), (some (53, true)), .q (.val (.tmp 9)), []⟩,
 ⟨(some 55), (some (53, true)), .q (.val (.tmp 0)), []⟩,
 ⟨(some 56), (some (53, true)), .q (.len (.tmp 55)), []⟩,
 ⟨(some 57), (some (53, true)), .q (.bin .lss (.tmp 54) (.tmp 56)), []⟩,
 ⟨(some 58), none, .q (.pick (.tmp 53) (.tmp 57) (.const (.bool false))), []⟩,
 ⟨(some 59), none, .q (.val (.tmp 58)), []⟩,
 ⟨(some 60), (some (59, true)), .q (.val (.tmp 9)), []⟩,
 ⟨(some 61), (some (59, true)), .q (.val (.tmp 1)), []⟩,
 ⟨(some 62), (some (59, true)), .q (.bin .neq (.tmp 60) (.tmp 61)), []⟩,
 ⟨(some 63), none, .q (.pick (.tmp 59) (.tmp 62) (.const (.bool false))), []⟩,
 ⟨(some 64), none, .q (.val (.tmp 63)), []⟩,
 ⟨(some 65), (some (64, true)), .q (.val (.tmp 5)), []⟩,
 ⟨(some 66), (some (64, true)), .q (.val (.tmp 9)), []⟩,
 ⟨(some 67), (some (64, true)), .q (.idxA 1 (.tmp 65) (.tmp 66)), []⟩,
 ⟨(some 68), (some (64, true)), .q (.load (.tmp 67)), []⟩,
 ⟨(some 69), (some (64, true)), .q (.not (.tmp 68)), []⟩,
 ⟨(some 70), none, .q (.pick (.tmp 64) (.tmp 69) (.const (.bool false))), []⟩])
 (.cond (.tmp 70)
 (.seq (.ops [⟨(some 71), none, .q (.val (.tmp 5)), []⟩,
 ⟨(some 72), none, .q (.val (.tmp 9)), []⟩,
 ⟨(some 73), none, .q (.idxA 1 (.tmp 71) (.tmp 72)), []⟩,
 ⟨none, none, .e (.store 1 (.tmp 73) (.const (.bool true))), []⟩])
 (.ops [⟨(some 6), none, .q (.val (.const (.bool true))), []⟩]))
 .skip))))
 (.ops [⟨(some 42), none, .q (.val (.tmp 8)), []⟩,
 ⟨(some 43), none, .q (.bin .add (.tmp 42) (.const (.int .i64 1))), []⟩,
 ⟨(some 8), none, .q (.val (.tmp 43)), []⟩])))))))
 (.ops [⟨(some 27), none, .q (.val (.tmp 7)), []⟩,
 ⟨(some 28), none, .q (.bin .add (.tmp 27) (.const (.int .i64 1))), []⟩,
 ⟨(some 7), none, .q (.val (.tmp 28)), []⟩]))))))))))))
 (.seq (.ops [⟨(some 74), none, .q (.val (.tmp 5)), []⟩,
 ⟨(some 4), none, .q (.val (.tmp 74)), []⟩])
 .ret))))), [.tmp 4], 75⟩
theorem c_without_is : cFunc Proofs.Try.prog Proofs.Try.f63 = some c_without := by kernel_rfl
theorem call_without {args : List Value} {H : Heap} {K : Value → Heap → Prop} (hl : args.length ≤ 75) (h : awp Proofs.Try.prog c_without.body (BodyK c_without.results K) (enterF args) H) : ACall Proofs.Try.prog 63 args H K :=
  acall_of (by kernel_rfl) (by kernel_rfl) c_without_is hl h
def c_RReach : AFn :=
⟨(.seq (.ops [⟨(some 2), none, .q (.val (.const (.slice none 0 0))), []⟩])
 (.seq (.ops [⟨(some 3), none, .q (.val (.tmp 0)), []⟩,
 ⟨(some 4), none, .call 63 [(.tmp 3), (.const (.int .i64 (-1)))], []⟩,
 ⟨(some 2), none, .q (.val (.tmp 4)), []⟩])
 .ret)), [.tmp 2], 5⟩
theorem c_RReach_is : cFunc Proofs.Try.prog Proofs.Try.f38 = some c_RReach := by kernel_rfl
theorem call_RReach {args : List Value} {H : Heap} {K : Value → Heap → Prop} (hl : args.length ≤ 5) (h : awp Proofs.Try.prog c_RReach.body (BodyK c_RReach.results K) (enterF args) H) : ACall Proofs.Try.prog 38 args H K :=
  acall_of (by kernel_rfl) (by kernel_rfl) c_RReach_is hl h
def c_RDoms : AFn :=
⟨(.seq (.ops [⟨(some 2), none, .q (.val (.const (.slice none 0 0))), []⟩])
 (.seq (.seq (.ops [⟨(some 8), none, .q (.val (.tmp 0)), []⟩,
 ⟨(some 9), none, .q (.len (.tmp 8)), []⟩,
 ⟨(some 10), none, .q (.bin .gtr (.tmp 9) (.const (.int .i64 64))), []⟩])
 (.cond (.tmp 10)
 (.seq (.ops [⟨(some 2), none, .q (.val (.const (.slice none 0 0))), []⟩])
 .ret)
 .skip))
 (.seq (.ops [⟨(some 11), none, .q (.val (.tmp 0)), []⟩,
 ⟨(some 12), none, .call 38 [(.tmp 11)], []⟩,
 ⟨(some 3), none, .q (.val (.tmp 12)), []⟩])
 (.seq (.ops [⟨(some 13), none, .q (.val (.tmp 0)), []⟩,
 ⟨(some 14), none, .q (.len (.tmp 13)), []⟩,
 ⟨(some 15), none, .e (.make [(.int .u64 0)] 1 (.tmp 14) (.tmp 14)), []⟩,
 ⟨(some 4), none, .q (.val (.tmp 15)), []⟩])
 (.seq (.seq (.ops [⟨(some 5), none, .q (.val (.const (.int .i64 0))), []⟩])
 (.block 0 (.loop (.seq (.seq (.ops [⟨(some 16), none, .q (.val (.tmp 5)), []⟩,
 ⟨(some 17), none, .q (.val (.tmp 0)), []⟩,
 ⟨(some 18), none, .q (.len (.tmp 17)), []⟩,
 ⟨(some 19), none, .q (.bin .lss (.tmp 16) (.tmp 18)), []⟩])
 (.cond (.tmp 19)
 .skip
 (.exit 0)))
 (.seq (.block 1 (.seq (.ops [⟨(some 22), none, .q (.val (.tmp 0)), []⟩,
 ⟨(some 23), none, .q (.val (.tmp 5)), []⟩,
 ⟨(some 24), none, .call 63 [(.tmp 22), (.tmp 23)], []⟩,
 ⟨(some 6), none, .q (.val (.tmp 24)), []⟩])
 (.seq (.ops [⟨(some 7), none, .q (.val (.const (.int .i64 0))), []⟩])
 (.block 2 (.loop (.seq (.seq (.ops [⟨(some 25), none, .q (.val (.tmp 7)), []⟩,
 ⟨(some 26), none, .q (.val (.tmp 0)), []⟩,
 ⟨(some 27), none, .q (.len (.tmp 26)), []⟩,
 ⟨(some 28), none, .q (.bin .lss (.tmp 25) (.tmp 27)), []⟩])
 (.cond (.tmp 28)
 .skip
 (.exit 2)))
 (.seq (.block 3 (.seq (.ops [⟨(some 31), none, .q (.val (.tmp 3)), []⟩,
 ⟨(some 32), none, .q (.val (.tmp 7)), []⟩,
 ⟨(some 33), none, .q (.idxA 1 (.tmp 31) (.tmp 32)), []⟩,
 ⟨(some 34), none, .q (.load (.tmp 33)), []⟩,
 ⟨(some 35), none, .q (.val (.tmp 34)), []⟩,
 ⟨(some 36), (some (35, true)), .q (.val (.tmp 6)), []⟩,
 ⟨(some 37), (some (35, true)), .q (.val (.tmp 7)), []⟩,
 ⟨(some 38), (some (35, true)), .q (.idxA 1 (.tmp 36) (.tmp 37)), []⟩,
 ⟨(some 39), (some (35, true)), .q (.load (.tmp 38)), []⟩,
 ⟨(some 40), (some (35, true)), .q (.not (.tmp 39)), []⟩,
 ⟨(some 41), none, .q (.pick (.tmp 35) (.tmp 40) (.const (.bool false))), []⟩])
 (.cond (.tmp 41)
 (.ops [⟨(some 42), none, .q (.val (.tmp 4)), []⟩,
 ⟨(some 43), none, .q (.val (.tmp 7)), []⟩,
 ⟨(some 44), none, .q (.val (.tmp 4)), []⟩,
 ⟨(some 45), none, .q (.val (.tmp 7)), []⟩,
 ⟨(some 46), none, .q (.idxA 1 (.tmp 44) (.tmp 45)), []⟩,
 ⟨(some 47), none, .q (.load (.tmp 46)), []⟩,
 ⟨(some 48), none, .q (.val (.tmp 5)), []⟩,
 ⟨(some 49), none, .e (.lit [(.int .i64 0)] 1 1 [(0, 1, (.tmp 48))]), []⟩,
 ⟨(some 50), none, .call 64 [(.tmp 47), (.tmp 49)], []⟩,
 ⟨(some 51), none, .q (.idxA 1 (.tmp 42) (.tmp 43)), []⟩,
 ⟨none, none, .e (.store 1 (.tmp 51) (.tmp 50)), []⟩])
 .skip)))
 (.ops [⟨(some 29), none, .q (.val (.tmp 7)), []⟩,
 ⟨(some 30), none, .q (.bin .add (.tmp 29) (.const (.int .i64 1))), []⟩,
 ⟨(some 7), none, .q (.val (.tmp 30)), []⟩]))))))))
 (.ops [⟨(some 20), none, .q (.val (.tmp 5)), []⟩,
 ⟨(some 21), none, .q (.bin .add (.tmp 20) (.const (.int .i64 1))), []⟩,
 ⟨(some 5), none, .q (.val (.tmp 21)), []⟩]))))))
 (.seq (.ops [⟨(some 52), none, .q (.val (.tmp 4)), []⟩,
 ⟨(some 2), none, .q (.val (.tmp 52)), []⟩])
 .ret)))))), [.tmp 2], 53⟩
theorem c_RDoms_is : cFunc Proofs.Try.prog Proofs.Try.f40 = some c_RDoms := by kernel_rfl
theorem call_RDoms {args : List Value} {H : Heap} {K : Value → Heap → Prop} (hl : args.length ≤ 53) (h : awp Proofs.Try.prog c_RDoms.body (BodyK c_RDoms.results K) (enterF args) H) : ACall Proofs.Try.prog 40 args H K :=
  acall_of (by kernel_rfl) (by kernel_rfl) c_RDoms_is hl h
def c_RSame01 : AFn :=
⟨(.seq (.ops [⟨(some 4), none, .q (.val (.const (.bool false))), []⟩])
 (.seq (.seq (.ops [⟨(some 6), none, .q (.val (.tmp 0)), []⟩,
 ⟨(some 7), none, .q (.len (.tmp 6)), []⟩,
 ⟨(some 8), none, .q (.val (.tmp 1)), []⟩,
 ⟨(some 9), none, .q (.len (.tmp 8)), []⟩,
 ⟨(some 10), none, .q (.bin .neq (.tmp 7) (.tmp 9)), []⟩])
 (.cond (.tmp 10)
 (.seq (.ops [⟨(some 4), none, .q (.val (.const (.bool false))), []⟩])
 .ret)
 .skip))
 (.seq (.seq (.ops [⟨(some 5), none, .q (.val (.const (.int .i64 0))), []⟩])
 (.block 0 (.loop (.seq (.seq (.ops [⟨(some 11), none, .q (.val (.tmp 5)), []⟩,
 ⟨(some 12), none, .q (.val (.tmp 0)), []⟩,
 ⟨(some 13), none, .q (.len (.tmp 12)), []⟩,
 ⟨(some 14), none, .q (.bin .lss (.tmp 11) (.tmp 13)), []⟩])
 (.cond (.tmp 14)
 .skip
 (.exit 0)))
 (.seq (.block 1 (.seq (.ops [⟨(some 17), none, .q (.val (.tmp 0)), []⟩,
 ⟨(some 18), none, .q (.val (.tmp 5)), []⟩,
 ⟨(some 19), none, .q (.idxA 1 (.tmp 17) (.tmp 18)), []⟩,
 ⟨(some 20), none, .q (.load (.tmp 19)), []⟩,
 ⟨(some 21), none, .q (.val (.tmp 1)), []⟩,
 ⟨(some 22), none, .q (.val (.tmp 5)), []⟩,
 ⟨(some 23), none, .q (.idxA 1 (.tmp 21) (.tmp 22)), []⟩,
 ⟨(some 24), none, .q (.load (.tmp 23)), []⟩,
 ⟨(some 25), none, .q (.bin .neq (.tmp 20) (.tmp 24)), []⟩])
 (.cond (.tmp 25)
 (.seq (.ops [⟨(some 4), none, .q (.val (.const (.bool false))), []⟩])
 .ret)
 .skip)))
 (.ops [⟨(some 15), none, .q (.val (.tmp 5)), []⟩,
 ⟨(some 16), none, .q (.bin .add (.tmp 15) (.const (.int .i64 1))), []⟩,
 ⟨(some 5), none, .q (.val (.tmp 16)), []⟩]))))))
 (.seq (.ops [⟨(some 4), none, .q (.val (.const (.bool true))), []⟩])
 .ret)))), [.tmp 4], 26⟩
theorem c_RSame01_is : cFunc Proofs.Try.prog Proofs.Try.f23 = some c_RSame01 := by kernel_rfl
theorem call_RSame01 {args : List Value} {H : Heap} {K : Value → Heap → Prop} (hl : args.length ≤ 26) (h : awp Proofs.Try.prog c_RSame01.body (BodyK c_RSame01.results K) (enterF args) H) : ACall Proofs.Try.prog 23 args H K :=
  acall_of (by kernel_rfl) (by kernel_rfl) c_RSame01_is hl h
def c_RWith : AFn :=
⟨(.seq (.ops [⟨(some 4), none, .q (.val (.const (.int .u64 0))), []⟩])
 (.seq (.seq (.ops [⟨(some 5), none, .q (.val (.const (.int .i64 0))), []⟩])
 (.block 0 (.loop (.seq (.seq (.ops [⟨(some 6), none, .q (.val (.tmp 5)), []⟩,
 ⟨(some 7), none, .q (.val (.tmp 1)), []⟩,
 ⟨(some 8), none, .q (.len (.tmp 7)), []⟩,
 ⟨(some 9), none, .q (.bin .lss (.tmp 6) (.tmp 8)), []⟩])
 (.cond (.tmp 9)
 .skip
 (.exit 0)))
 (.seq (.block 1 (.seq (.ops [⟨(some 12), none, .q (.val (.tmp 1)), []⟩,
 ⟨(some 13), none, .q (.val (.tmp 5)), []⟩,
 ⟨(some 14), none, .q (.idxA 1 (.tmp 12) (.tmp 13)), []⟩,
 ⟨(some 15), none, .q (.load (.tmp 14)), []⟩,
 ⟨(some 16), none, .q (.bin .geq (.tmp 15) (.const (.int .i64 0))), []⟩,
 ⟨(some 17), none, .q (.val (.tmp 16)), []⟩,
 ⟨(some 18), (some (17, true)), .q (.val (.tmp 1)), []⟩,
 ⟨(some 19), (some (17, true)), .q (.val (.tmp 5)), []⟩,
 ⟨(some 20), (some (17, true)), .q (.idxA 1 (.tmp 18) (.tmp 19)), []⟩,
 ⟨(some 21), (some (17, true)), .q (.load (.tmp 20)), []⟩,
 ⟨(some 22), (some (17, true)), .q (.bin .lss (.tmp 21) (.const (.int .i64 64))), []⟩,
 ⟨(some 23), none, .q (.pick (.tmp 17) (.tmp 22) (.const (.bool false))), []⟩,
 ⟨(some 24), none, .q (.val (.tmp 23)), []⟩,
 ⟨(some 25), (some (24, true)), .q (.val (.tmp 0)), []⟩,
 ⟨(some 26), (some (24, true)), .q (.val (.tmp 1)), []⟩,
 ⟨(some 27), (some (24, true)), .q (.val (.tmp 5)), []⟩,
 ⟨(some 28), (some (24, true)), .q (.idxA 1 (.tmp 26) (.tmp 27)), []⟩,
 ⟨(some 29), (some (24, true)), .q (.load (.tmp 28)), []⟩,
 ⟨(some 30), (some (24, true)), .call 20 [(.tmp 25), (.tmp 29)], []⟩,
 ⟨(some 31), (some (24, true)), .q (.not (.tmp 30)), []⟩,
 ⟨(some 32), none, .q (.pick (.tmp 24) (.tmp 31) (.const (.bool false))), []⟩])
 (.cond (.tmp 32)
 (.ops [⟨(some 33), none, .q (.val (.tmp 0)), []⟩,
 ⟨(some 34), none, .q (.val (.tmp 1)), []⟩,
 ⟨(some 35), none, .q (.val (.tmp 5)), []⟩,
 ⟨(some 36), none, .q (.idxA 1 (.tmp 34) (.tmp 35)), []⟩,
 ⟨(some 37), none, .q (.load (.tmp 36)), []⟩,
 ⟨(some 38), none, .call 52 [(.tmp 37)], []⟩,
 ⟨(some 39), none, .q (.bin .add (.tmp 33) (.tmp 38)), []⟩,
 ⟨(some 0), none, .q (.val (.tmp 39)), []⟩])
 .skip)))
 (.ops [⟨(some 10), none, .q (.val (.tmp 5)), []⟩,
 ⟨(some 11), none, .q (.bin .add (.tmp 10) (.const (.int .i64 1))), []⟩,
 ⟨(some 5), none, .q (.val (.tmp 11)), []⟩]))))))
 (.seq (.ops [⟨(some 40), none, .q (.val (.tmp 0)), []⟩,
 ⟨(some 4), none, .q (.val (.tmp 40)), []⟩])
 .ret))), [.tmp 4], 41⟩
theorem c_RWith_is : cFunc Proofs.Try.prog Proofs.Try.f64 = some c_RWith := by kernel_rfl
theorem call_RWith {args : List Value} {H : Heap} {K : Value → Heap → Prop} (hl : args.length ≤ 41) (h : awp Proofs.Try.prog c_RWith.body (BodyK c_RWith.results K) (enterF args) H) : ACall Proofs.Try.prog 64 args H K :=
  acall_of (by kernel_rfl) (by kernel_rfl) c_RWith_is hl h
def c_two : AFn :=
⟨(.seq (.ops [⟨(some 2), none, .q (.val (.const (.int .u64 0))), []⟩])
 (.seq (.ops [⟨(some 3), none, .q (.val (.const (.int .u64 1))), []⟩])
 (.seq (.seq (.ops [⟨(some 4), none, .q (.val (.const (.int .i64 0))), []⟩])
 (.block 0 (.loop (.seq (.seq (.ops [⟨(some 5), none, .q (.val (.tmp 4)), []⟩,
 ⟨(some 6), none, .q (.val (.tmp 0)), []⟩,
 ⟨(some 7), none, .q (.bin .lss (.tmp 5) (.tmp 6)), []⟩])
 (.cond (.tmp 7)
 .skip
 (.exit 0)))
 (.seq (.block 1 (.ops [⟨(some 10), none, .q (.val (.tmp 3)), []⟩,
 ⟨(some 11), none, .q (.bin .mul (.const (.int .u64 2)) (.tmp 10)), []⟩,
 ⟨(some 3), none, .q (.val (.tmp 11)), []⟩]))
 (.ops [⟨(some 8), none, .q (.val (.tmp 4)), []⟩,
 ⟨(some 9), none, .q (.bin .add (.tmp 8) (.const (.int .i64 1))), []⟩,
 ⟨(some 4), none, .q (.val (.tmp 9)), []⟩]))))))
 (.seq (.ops [⟨(some 12), none, .q (.val (.tmp 3)), []⟩,
 ⟨(some 2), none, .q (.val (.tmp 12)), []⟩])
 .ret)))), [.tmp 2], 13⟩
theorem c_two_is : cFunc Proofs.Try.prog Proofs.Try.f52 = some c_two := by kernel_rfl
theorem call_two {args : List Value} {H : Heap} {K : Value → Heap → Prop} (hl : args.length ≤ 13) (h : awp Proofs.Try.prog c_two.body (BodyK c_two.results K) (enterF args) H) : ACall Proofs.Try.prog 52 args H K :=
  acall_of (by kernel_rfl) (by kernel_rfl) c_two_is hl h
def c_RHas : AFn :=
⟨(.seq (.ops [⟨(some 4), none, .q (.val (.const (.bool false))), []⟩])
 (.seq (.ops [⟨(some 5), none, .q (.val (.tmp 1)), []⟩,
 ⟨(some 6), none, .q (.bin .geq (.tmp 5) (.const (.int .i64 0))), []⟩,
 ⟨(some 7), none, .q (.val (.tmp 6)), []⟩,
 ⟨(some 8), (some (7, true)), .q (.val (.tmp 1)), []⟩,
 ⟨(some 9), (some (7, true)), .q (.bin .lss (.tmp 8) (.const (.int .i64 64))), []⟩,
 ⟨(some 10), none, .q (.pick (.tmp 7) (.tmp 9) (.const (.bool false))), []⟩,
 ⟨(some 11), none, .q (.val (.tmp 10)), []⟩,
 ⟨(some 12), (some (11, true)), .q (.val (.tmp 0)), []⟩,
 ⟨(some 13), (some (11, true)), .q (.val (.tmp 1)), []⟩,
 ⟨(some 14), (some (11, true)), .call 52 [(.tmp 13)], []⟩,
 ⟨(some 15), (some (11, true)), .q (.bin .quo (.tmp 12) (.tmp 14)), []⟩,
 ⟨(some 16), (some (11, true)), .q (.bin .rem (.tmp 15) (.const (.int .u64 2))), []⟩,
 ⟨(some 17), (some (11, true)), .q (.bin .eql (.tmp 16) (.const (.int .u64 1))), []⟩,
 ⟨(some 18), none, .q (.pick (.tmp 11) (.tmp 17) (.const (.bool false))), []⟩,
 ⟨(some 4), none, .q (.val (.tmp 18)), []⟩])
 .ret)), [.tmp 4], 19⟩
theorem c_RHas_is : cFunc Proofs.Try.prog Proofs.Try.f20 = some c_RHas := by kernel_rfl
theorem call_RHas {args : List Value} {H : Heap} {K : Value → Heap → Prop} (hl : args.length ≤ 19) (h : awp Proofs.Try.prog c_RHas.body (BodyK c_RHas.results K) (enterF args) H) : ACall Proofs.Try.prog 20 args H K :=
  acall_of (by kernel_rfl) (by kernel_rfl) c_RHas_is hl h
def c_bools : AFn :=
⟨(.seq (.ops [⟨(some 4), none, .q (.val (.const (.bool false))), []⟩])
 (.seq (.seq (.ops [⟨(some 6), none, .q (.val (.tmp 0)), []⟩,
 ⟨(some 7), none, .q (.len (.tmp 6)), []⟩,
 ⟨(some 8), none, .q (.val (.tmp 1)), []⟩,
 ⟨(some 9), none, .q (.len (.tmp 8)), []⟩,
 ⟨(some 10), none, .q (.bin .neq (.tmp 7) (.tmp 9)), []⟩])
 (.cond (.tmp 10)
 (.seq (.ops [⟨(some 4), none, .q (.val (.const (.bool false))), []⟩])
 .ret)
 .skip))
 (.seq (.seq (.ops [⟨(some 5), none, .q (.val (.const (.int .i64 0))), []⟩])
 (.block 0 (.loop (.seq (.seq (.ops [⟨(some 11), none, .q (.val (.tmp 5)), []⟩,
 ⟨(some 12), none, .q (.val (.tmp 0)), []⟩,
 ⟨(some 13), none, .q (.len (.tmp 12)), []⟩,
 ⟨(some 14), none, .q (.bin .lss (.tmp 11) (.tmp 13)), []⟩])
 (.cond (.tmp 14)
 .skip
 (.exit 0)))
 (.seq (.block 1 (.seq (.ops [⟨(some 17), none, .q (.val (.tmp 0)), []⟩,
 ⟨(some 18), none, .q (.val (.tmp 5)), []⟩,
 ⟨(some 19), none, .q (.idxA 1 (.tmp 17) (.tmp 18)), []⟩,
 ⟨(some 20), none, .q (.load (.tmp 19)), []⟩,
 ⟨(some 21), none, .q (.val (.tmp 1)), []⟩,
 ⟨(some 22), none, .q (.val (.tmp 5)), []⟩,
 ⟨(some 23), none, .q (.idxA 1 (.tmp 21) (.tmp 22)), []⟩,
 ⟨(some 24), none, .q (.load (.tmp 23)), []⟩,
 ⟨(some 25), none, .q (.eqB true (.tmp 20) (.tmp 24)), []⟩])
 (.cond (.tmp 25)
 (.seq (.ops [⟨(some 4), none, .q (.val (.const (.bool false))), []⟩])
 .ret)
 .skip)))
 (.ops [⟨(some 15), none, .q (.val (.tmp 5)), []⟩,
 ⟨(some 16), none, .q (.bin .add (.tmp 15) (.const (.int .i64 1))), []⟩,
 ⟨(some 5), none, .q (.val (.tmp 16)), []⟩]))))))
 (.seq (.ops [⟨(some 4), none, .q (.val (.const (.bool true))), []⟩])
 .ret)))), [.tmp 4], 26⟩
theorem c_bools_is : cFunc Proofs.Try.prog Proofs.Try.f37 = some c_bools := by kernel_rfl
theorem call_bools {args : List Value} {H : Heap} {K : Value → Heap → Prop} (hl : args.length ≤ 26) (h : awp Proofs.Try.prog c_bools.body (BodyK c_bools.results K) (enterF args) H) : ACall Proofs.Try.prog 37 args H K :=
  acall_of (by kernel_rfl) (by kernel_rfl) c_bools_is hl h
def c_sets : AFn :=
⟨(.seq (.ops [⟨(some 4), none, .q (.val (.const (.bool false))), []⟩])
 (.seq (.seq (.ops [⟨(some 6), none, .q (.val (.tmp 0)), []⟩,
 ⟨(some 7), none, .q (.len (.tmp 6)), []⟩,
 ⟨(some 8), none, .q (.val (.tmp 1)), []⟩,
 ⟨(some 9), none, .q (.len (.tmp 8)), []⟩,
 ⟨(some 10), none, .q (.bin .neq (.tmp 7) (.tmp 9)), []⟩])
 (.cond (.tmp 10)
 (.seq (.ops [⟨(some 4), none, .q (.val (.const (.bool false))), []⟩])
 .ret)
 .skip))
 (.seq (.seq (.ops [⟨(some 5), none, .q (.val (.const (.int .i64 0))), []⟩])
 (.block 0 (.loop (.seq (.seq (.ops [⟨(some 11), none, .q (.val (.tmp 5)), []⟩,
 ⟨(some 12), none, .q (.val (.tmp 0)), []⟩,
 ⟨(some 13), none, .q (.len (.tmp 12)), []⟩,
 ⟨(some 14), none, .q (.bin .lss (.tmp 11) (.tmp 13)), []⟩])
 (.cond (.tmp 14)
 .skip
 (.exit 0)))
 (.seq (.block 1 (.seq (.ops [⟨(some 17), none, .q (.val (.tmp 0)), []⟩,
 ⟨(some 18), none, .q (.val (.tmp 5)), []⟩,
 ⟨(some 19), none, .q (.idxA 1 (.tmp 17) (.tmp 18)), []⟩,
 ⟨(some 20), none, .q (.load (.tmp 19)), []⟩,
 ⟨(some 21), none, .q (.val (.tmp 1)), []⟩,
 ⟨(some 22), none, .q (.val (.tmp 5)), []⟩,
 ⟨(some 23), none, .q (.idxA 1 (.tmp 21) (.tmp 22)), []⟩,
 ⟨(some 24), none, .q (.load (.tmp 23)), []⟩,
 ⟨(some 25), none, .q (.bin .neq (.tmp 20) (.tmp 24)), []⟩])
 (.cond (.tmp 25)
 (.seq (.ops [⟨(some 4), none, .q (.val (.const (.bool false))), []⟩])
 .ret)
 .skip)))
 (.ops [⟨(some 15), none, .q (.val (.tmp 5)), []⟩,
 ⟨(some 16), none, .q (.bin .add (.tmp 15) (.const (.int .i64 1))), []⟩,
 ⟨(some 5), none, .q (.val (.tmp 16)), []⟩]))))))
 (.seq (.ops [⟨(some 4), none, .q (.val (.const (.bool true))), []⟩])
 .ret)))), [.tmp 4], 26⟩
theorem c_sets_is : cFunc Proofs.Try.prog Proofs.Try.f39 = some c_sets := by kernel_rfl
theorem call_sets {args : List Value} {H : Heap} {K : Value → Heap → Prop} (hl : args.length ≤ 26) (h : awp Proofs.Try.prog c_sets.body (BodyK c_sets.results K) (enterF args) H) : ACall Proofs.Try.prog 39 args H K :=
  acall_of (by kernel_rfl) (by kernel_rfl) c_sets_is hl h
def c_CfgGraphs : AFn :=
⟨(.seq (.ops [⟨(some 8), none, .q (.val (.const (.bool false))), []⟩])
 (.seq (.ops [⟨(some 9), none, .q (.val (.const (.int .i64 0))), []⟩])
 (.seq (.seq (.ops [⟨(some 10), none, .q (.val (.const (.int .i64 0))), []⟩])
 (.block 0 (.loop (.seq (.seq (.ops [⟨(some 12), none, .q (.val (.tmp 10)), []⟩,
 ⟨(some 13), none, .q (.val (.tmp 0)), []⟩,
 ⟨(some 14), none, .q (.len (.tmp 13)), []⟩,
 ⟨(some 15), none, .q (.bin .lss (.tmp 12) (.tmp 14)), []⟩])
 (.cond (.tmp 15)
 .skip
 (.exit 0)))
 (.seq (.block 1 (.ops [⟨(some 18), none, .q (.val (.tmp 9)), []⟩,
 ⟨(some 19), none, .q (.val (.tmp 0)), []⟩,
 ⟨(some 20), none, .q (.val (.tmp 10)), []⟩,
 ⟨(some 21), none, .q (.idxA 1 (.tmp 19) (.tmp 20)), []⟩,
 ⟨(some 22), none, .q (.load (.tmp 21)), []⟩,
 ⟨(some 23), none, .q (.len (.tmp 22)), []⟩,
 ⟨(some 24), none, .q (.bin .add (.const (.int .i64 1)) (.tmp 23)), []⟩,
 ⟨(some 25), none, .q (.bin .add (.tmp 18) (.tmp 24)), []⟩,
 ⟨(some 9), none, .q (.val (.tmp 25)), []⟩]))
 (.ops [⟨(some 16), none, .q (.val (.tmp 10)), []⟩,
 ⟨(some 17), none, .q (.bin .add (.tmp 16) (.const (.int .i64 1))), []⟩,
 ⟨(some 10), none, .q (.val (.tmp 17)), []⟩]))))))
 (.seq (.seq (.ops [⟨(some 26), none, .q (.val (.tmp 9)), []⟩,
 ⟨(some 27), none, .q (.bin .gtr (.tmp 26) (.const (.int .i64 100))), []⟩,
 ⟨(some 28), none, .q (.val (.tmp 27)), []⟩,
 ⟨(some 29), (some (28, false)), .call 9 [], []⟩,
 ⟨(some 30), (some (28, false)), .q (.not (.tmp 29)), []⟩,
 ⟨(some 31), none, .q (.pick (.tmp 28) (.const (.bool true)) (.tmp 30)), []⟩])
 (.cond (.tmp 31)
 (.seq (.ops [⟨(some 32), none, .call 9 [], []⟩,
 ⟨(some 8), none, .q (.val (.tmp 32)), []⟩])
 .ret)
 .skip))
 (.seq (.ops [⟨(some 33), none, .q (.val (.tmp 0)), []⟩,
 ⟨(some 34), none, .call 10 [(.tmp 33)], []⟩,
 ⟨(some 35), none, .q (.val (.tmp 34)), []⟩,
 ⟨(some 36), (some (35, true)), .q (.val (.tmp 1)), []⟩,
 ⟨(some 37), (some (35, true)), .q (.val (.tmp 2)), []⟩,
 ⟨(some 38), (some (35, true)), .call 11 [(.tmp 36), (.tmp 37)], []⟩,
 ⟨(some 39), (some (35, true)), .call 10 [(.tmp 38)], []⟩,
 ⟨(some 40), none, .q (.pick (.tmp 35) (.tmp 39) (.const (.bool false))), []⟩,
 ⟨(some 11), none, .q (.val (.tmp 40)), []⟩])
 (.seq (.ops [⟨(some 41), none, .q (.val (.tmp 11)), []⟩,
 ⟨(some 42), none, .q (.val (.tmp 41)), []⟩,
 ⟨(some 43), (some (42, true)), .q (.val (.tmp 3)), []⟩,
 ⟨(some 44), (some (42, true)), .q (.conv .i64 (.tmp 43)), []⟩,
 ⟨(some 45), (some (42, true)), .q (.bin .add (.const (.int .i64 65)) (.tmp 44)), []⟩,
 ⟨(some 46), (some (42, true)), .e (.make [(.slice none 0 0)] 1 (.tmp 45) (.tmp 45)), []⟩,
 ⟨(some 47), (some (42, true)), .call 12 [(.tmp 46)], []⟩,
 ⟨(some 48), (some (42, true)), .q (.len (.tmp 47)), []⟩,
 ⟨(some 49), (some (42, true)), .q (.bin .eql (.tmp 48) (.const (.int .i64 0))), []⟩,
 ⟨(some 50), none, .q (.pick (.tmp 42) (.tmp 49) (.const (.bool false))), []⟩,
 ⟨(some 8), none, .q (.val (.tmp 50)), []⟩])
 .ret)))))), [.tmp 8], 51⟩
theorem c_CfgGraphs_is : cFunc Proofs.Try.prog Proofs.Try.f3 = some c_CfgGraphs := by kernel_rfl
theorem call_CfgGraphs {args : List Value} {H : Heap} {K : Value → Heap → Prop} (hl : args.length ≤ 51) (h : awp Proofs.Try.prog c_CfgGraphs.body (BodyK c_CfgGraphs.results K) (enterF args) H) : ACall Proofs.Try.prog 3 args H K :=
  acall_of (by kernel_rfl) (by kernel_rfl) c_CfgGraphs_is hl h
end Am
