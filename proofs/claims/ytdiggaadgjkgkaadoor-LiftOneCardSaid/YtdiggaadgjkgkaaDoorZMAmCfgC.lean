/- Codes of the program's functions, as a program printed them, and that they are what the program's functions are compiled to.
   No condition: plain facts. -/
import Derived.KernelRfl
import Derived.Test.YtdiggaadgjkgkaaDoorZMAmWalk
import Derived.Test.YtdiggaadgjkgkaaDoorProg
namespace Am
set_option linter.unusedSimpArgs false
set_option linter.unusedVariables false
open Go
set_option maxRecDepth 100000
def qOk:AFn :=
⟨(.seq (.ops [⟨(some 2),none,.q (.val (.const (.slice none 0 0))),[]⟩])
 (.seq (.ops [⟨(some 6),none,.q (.val (.tmp 0)),[]⟩,
 ⟨(some 7),none,.q (.len (.tmp 6)),[]⟩,
 ⟨(some 8),none,.e (.make [(.bool false)] 1 (.tmp 7) (.tmp 7)),[]⟩,
 ⟨(some 3),none,.q (.val (.tmp 8)),[]⟩])
 (.seq (.ops [⟨(some 9),none,.e (.lit [(.int .i64 0)] 1 1 [(0,1,(.const (.int .i64 0)))]),[]⟩,
 ⟨(some 4),none,.q (.val (.tmp 9)),[]⟩])
 (.seq (.block 0 (.loop (.seq (.seq (.ops [⟨(some 10),none,.q (.val (.tmp 4)),[]⟩,
 ⟨(some 11),none,.q (.len (.tmp 10)),[]⟩,
 ⟨(some 12),none,.q (.bin .gtr (.tmp 11) (.const (.int .i64 0))),[]⟩])
 (.cond (.tmp 12)
 .skip
 (.exit 0)))
 (.block 1 (.seq (.ops [⟨(some 13),none,.q (.val (.tmp 4)),[]⟩,
 ⟨(some 14),none,.q (.val (.tmp 4)),[]⟩,
 ⟨(some 15),none,.q (.len (.tmp 14)),[]⟩,
 ⟨(some 16),none,.q (.bin .sub (.tmp 15) (.const (.int .i64 1))),[]⟩,
 ⟨(some 17),none,.q (.idxA 1 (.tmp 13) (.tmp 16)),[]⟩,
 ⟨(some 18),none,.q (.load (.tmp 17)),[]⟩,
 ⟨(some 5),none,.q (.val (.tmp 18)),[]⟩])
 (.seq (.ops [⟨(some 19),none,.q (.val (.tmp 4)),[]⟩,
 ⟨(some 20),none,.q (.val (.tmp 4)),[]⟩,
 ⟨(some 21),none,.q (.len (.tmp 20)),[]⟩,
 ⟨(some 22),none,.q (.bin .sub (.tmp 21) (.const (.int .i64 1))),[]⟩,
 ⟨(some 23),none,.q (.cut 1 (.tmp 19) none (some (.tmp 22))),[]⟩,
 ⟨(some 4),none,.q (.val (.tmp 23)),[]⟩])
 (.seq (.seq (.ops [⟨(some 24),none,.q (.val (.tmp 5)),[]⟩,
 ⟨(some 25),none,.q (.bin .lss (.tmp 24) (.const (.int .i64 0))),[]⟩,
 ⟨(some 26),none,.q (.val (.tmp 25)),[]⟩,
 ⟨(some 27),(some (26,false)),.q (.val (.tmp 5)),[]⟩,
 ⟨(some 28),(some (26,false)),.q (.val (.tmp 0)),[]⟩,
 ⟨(some 29),(some (26,false)),.q (.len (.tmp 28)),[]⟩,
 ⟨(some 30),(some (26,false)),.q (.bin .geq (.tmp 27) (.tmp 29)),[]⟩,
 ⟨(some 31),none,.q (.pick (.tmp 26) (.const (.bool true)) (.tmp 30)),[]⟩,
 ⟨(some 32),none,.q (.val (.tmp 31)),[]⟩,
 ⟨(some 33),(some (32,false)),.q (.val (.tmp 3)),[]⟩,
 ⟨(some 34),(some (32,false)),.q (.val (.tmp 5)),[]⟩,
 ⟨(some 35),(some (32,false)),.q (.idxA 1 (.tmp 33) (.tmp 34)),[]⟩,
 ⟨(some 36),(some (32,false)),.q (.load (.tmp 35)),[]⟩,
 ⟨(some 37),none,.q (.pick (.tmp 32) (.const (.bool true)) (.tmp 36)),[]⟩])
 (.cond (.tmp 37)
 (.exit 1)
 .skip))
 (.seq (.ops [⟨(some 38),none,.q (.val (.tmp 3)),[]⟩,
 ⟨(some 39),none,.q (.val (.tmp 5)),[]⟩,
 ⟨(some 40),none,.q (.idxA 1 (.tmp 38) (.tmp 39)),[]⟩,
 ⟨none,none,.e (.store 1 (.tmp 40) (.const (.bool true))),[]⟩])
 (.ops [⟨(some 41),none,.q (.val (.tmp 4)),[]⟩,
 ⟨(some 42),none,.q (.val (.tmp 0)),[]⟩,
 ⟨(some 43),none,.q (.val (.tmp 5)),[]⟩,
 ⟨(some 44),none,.q (.idxA 1 (.tmp 42) (.tmp 43)),[]⟩,
 ⟨(some 45),none,.q (.load (.tmp 44)),[]⟩,
 ⟨(some 46),none,.e (.app 1 (.tmp 41) (.tmp 45)),[]⟩,
 ⟨(some 4),none,.q (.val (.tmp 46)),[]⟩])))))))))
 (.seq (.ops [⟨(some 47),none,.q (.val (.tmp 3)),[]⟩,
 ⟨(some 2),none,.q (.val (.tmp 47)),[]⟩])
 .ret))))),[.tmp 2],48⟩
theorem c_Reach_is:qCk Proofs.Tryd.prog Proofs.Tryd.f19=some qOk:=by kernel_rfl
theorem call_Reach {args:List Value} {H:Heap} {K:Value→Heap→Prop} (hl:args.length≤48) (h:awp Proofs.Tryd.prog qOk.body (qAs qOk.results K) (qBy args) H):qCq Proofs.Tryd.prog 19 args H K :=
  qDm (by kernel_rfl) (by kernel_rfl) c_Reach_is hl h
def qOl:AFn :=
⟨(.seq (.ops [⟨(some 2),none,.q (.val (.const (.slice none 0 0))),[]⟩])
 (.seq (.ops [⟨(some 9),none,.q (.val (.tmp 0)),[]⟩,
 ⟨(some 10),none,.q (.len (.tmp 9)),[]⟩,
 ⟨(some 11),none,.e (.make [(.slice none 0 0)] 1 (.tmp 10) (.tmp 10)),[]⟩,
 ⟨(some 3),none,.q (.val (.tmp 11)),[]⟩])
 (.seq (.seq (.ops [⟨(some 12),none,.q (.val (.tmp 0)),[]⟩,
 ⟨(some 13),none,.q (.len (.tmp 12)),[]⟩,
 ⟨(some 14),none,.q (.val (.const (.int .i64 0))),[]⟩])
 (.block 0 (.loop (.seq (.ops [⟨(some 15),none,.q (.bin .lss (.tmp 14) (.tmp 13)),[]⟩])
 (.seq (.cond (.tmp 15)
 .skip
 (.exit 0))
 (.seq (.block 1 (.seq (.ops [⟨(some 16),none,.q (.val (.tmp 14)),[]⟩,
 ⟨(some 17),none,.q (.idxA 1 (.tmp 12) (.tmp 14)),[]⟩,
 ⟨(some 18),none,.q (.load (.tmp 17)),[]⟩,
 ⟨(some 4),none,.q (.val (.tmp 16)),[]⟩,
 ⟨(some 5),none,.q (.val (.tmp 18)),[]⟩])
 (.seq (.ops [⟨(some 19),none,.q (.val (.tmp 5)),[]⟩,
 ⟨(some 20),none,.q (.len (.tmp 19)),[]⟩,
 ⟨(some 21),none,.q (.val (.const (.int .i64 0))),[]⟩])
 (.block 2 (.loop (.seq (.ops [⟨(some 22),none,.q (.bin .lss (.tmp 21) (.tmp 20)),[]⟩])
 (.seq (.cond (.tmp 22)
 .skip
 (.exit 2))
 (.seq (.block 3 (.seq (.ops [⟨(some 23),none,.q (.idxA 1 (.tmp 19) (.tmp 21)),[]⟩,
 ⟨(some 24),none,.q (.load (.tmp 23)),[]⟩,
 ⟨(some 7),none,.q (.val (.tmp 24)),[]⟩])
 (.seq (.seq (.ops [⟨(some 25),none,.q (.val (.tmp 7)),[]⟩,
 ⟨(some 26),none,.q (.bin .lss (.tmp 25) (.const (.int .i64 0))),[]⟩,
 ⟨(some 27),none,.q (.val (.tmp 26)),[]⟩,
 ⟨(some 28),(some (27,false)),.q (.val (.tmp 7)),[]⟩,
 ⟨(some 29),(some (27,false)),.q (.val (.tmp 3)),[]⟩,
 ⟨(some 30),(some (27,false)),.q (.len (.tmp 29)),[]⟩,
 ⟨(some 31),(some (27,false)),.q (.bin .geq (.tmp 28) (.tmp 30)),[]⟩,
 ⟨(some 32),none,.q (.pick (.tmp 27) (.const (.bool true)) (.tmp 31)),[]⟩])
 (.cond (.tmp 32)
 (.exit 3)
 .skip))
 (.seq (.ops [⟨(some 33),none,.q (.val (.tmp 3)),[]⟩,
 ⟨(some 34),none,.q (.val (.tmp 7)),[]⟩,
 ⟨(some 35),none,.q (.idxA 1 (.tmp 33) (.tmp 34)),[]⟩,
 ⟨(some 36),none,.q (.load (.tmp 35)),[]⟩,
 ⟨(some 37),none,.q (.len (.tmp 36)),[]⟩,
 ⟨(some 8),none,.q (.val (.tmp 37)),[]⟩])
 (.seq (.ops [⟨(some 38),none,.q (.val (.tmp 8)),[]⟩,
 ⟨(some 39),none,.q (.bin .eql (.tmp 38) (.const (.int .i64 0))),[]⟩,
 ⟨(some 40),none,.q (.val (.tmp 39)),[]⟩,
 ⟨(some 41),(some (40,false)),.q (.val (.tmp 3)),[]⟩,
 ⟨(some 42),(some (40,false)),.q (.val (.tmp 7)),[]⟩,
 ⟨(some 43),(some (40,false)),.q (.idxA 1 (.tmp 41) (.tmp 42)),[]⟩,
 ⟨(some 44),(some (40,false)),.q (.load (.tmp 43)),[]⟩,
 ⟨(some 45),(some (40,false)),.q (.val (.tmp 8)),[]⟩,
 ⟨(some 46),(some (40,false)),.q (.bin .sub (.tmp 45) (.const (.int .i64 1))),[]⟩,
 ⟨(some 47),(some (40,false)),.q (.idxA 1 (.tmp 44) (.tmp 46)),[]⟩,
 ⟨(some 48),(some (40,false)),.q (.load (.tmp 47)),[]⟩,
 ⟨(some 49),(some (40,false)),.q (.val (.tmp 4)),[]⟩,
 ⟨(some 50),(some (40,false)),.q (.bin .neq (.tmp 48) (.tmp 49)),[]⟩,
 ⟨(some 51),none,.q (.pick (.tmp 40) (.const (.bool true)) (.tmp 50)),[]⟩])
 (.cond (.tmp 51)
 (.ops [⟨(some 52),none,.q (.val (.tmp 3)),[]⟩,
 ⟨(some 53),none,.q (.val (.tmp 7)),[]⟩,
 ⟨(some 54),none,.q (.val (.tmp 3)),[]⟩,
 ⟨(some 55),none,.q (.val (.tmp 7)),[]⟩,
 ⟨(some 56),none,.q (.idxA 1 (.tmp 54) (.tmp 55)),[]⟩,
 ⟨(some 57),none,.q (.load (.tmp 56)),[]⟩,
 ⟨(some 58),none,.q (.val (.tmp 4)),[]⟩,
 ⟨(some 59),none,.e (.lit [(.int .i64 0)] 1 1 [(0,1,(.tmp 58))]),[]⟩,
 ⟨(some 60),none,.e (.app 1 (.tmp 57) (.tmp 59)),[]⟩,
 ⟨(some 61),none,.q (.idxA 1 (.tmp 52) (.tmp 53)),[]⟩,
 ⟨none,none,.e (.store 1 (.tmp 61) (.tmp 60)),[]⟩])
 .skip))))))
 (.ops [⟨(some 62),none,.q (.bin .add (.tmp 21) (.const (.int .i64 1))),[]⟩,
 ⟨(some 21),none,.q (.val (.tmp 62)),[]⟩])))))))))
 (.ops [⟨(some 63),none,.q (.bin .add (.tmp 14) (.const (.int .i64 1))),[]⟩,
 ⟨(some 14),none,.q (.val (.tmp 63)),[]⟩])))))))
 (.seq (.ops [⟨(some 64),none,.q (.val (.tmp 3)),[]⟩,
 ⟨(some 2),none,.q (.val (.tmp 64)),[]⟩])
 .ret)))),[.tmp 2],65⟩
theorem c_Preds_is:qCk Proofs.Tryd.prog Proofs.Tryd.f17=some qOl:=by kernel_rfl
theorem call_Preds {args:List Value} {H:Heap} {K:Value→Heap→Prop} (hl:args.length≤65) (h:awp Proofs.Tryd.prog qOl.body (qAs qOl.results K) (qBy args) H):qCq Proofs.Tryd.prog 17 args H K :=
  qDm (by kernel_rfl) (by kernel_rfl) c_Preds_is hl h
def qKp:AFn :=
⟨(.seq (.ops [⟨(some 2),none,.q (.val (.const (.slice none 0 0))),[]⟩])
 (.scope 0 (.seq (.ops [⟨(some 12),none,.q (.val (.tmp 0)),[]⟩,
 ⟨(some 13),none,.q (.len (.tmp 12)),[]⟩,
 ⟨(some 3),none,.q (.val (.tmp 13)),[]⟩])
 (.seq (.seq (.ops [⟨(some 14),none,.q (.val (.tmp 3)),[]⟩,
 ⟨(some 15),none,.q (.bin .gtr (.tmp 14) (.const (.int .i64 64))),[]⟩])
 (.cond (.tmp 15)
 (.seq (.ops [⟨(some 2),none,.q (.val (.const (.slice none 0 0))),[]⟩])
 .ret)
 .skip))
 (.seq (.ops [⟨(some 16),none,.q (.val (.tmp 0)),[]⟩,
 ⟨(some 17),none,.call 19 [(.tmp 16)],[]⟩,
 ⟨(some 18),none,.q (.val (.tmp 0)),[]⟩,
 ⟨(some 19),none,.call 17 [(.tmp 18)],[]⟩,
 ⟨(some 4),none,.q (.val (.tmp 17)),[]⟩,
 ⟨(some 5),none,.q (.val (.tmp 19)),[]⟩])
 (.seq (.ops [⟨(some 20),none,.q (.val (.tmp 3)),[]⟩,
 ⟨(some 21),none,.e (.make [(.int .u64 0)] 1 (.tmp 20) (.tmp 20)),[]⟩,
 ⟨(some 6),none,.q (.val (.tmp 21)),[]⟩])
 (.seq (.seq (.ops [⟨(some 22),none,.q (.val (.tmp 6)),[]⟩,
 ⟨(some 23),none,.q (.len (.tmp 22)),[]⟩,
 ⟨(some 24),none,.q (.val (.const (.int .i64 0))),[]⟩])
 (.block 0 (.loop (.seq (.ops [⟨(some 25),none,.q (.bin .lss (.tmp 24) (.tmp 23)),[]⟩])
 (.seq (.cond (.tmp 25)
 .skip
 (.exit 0))
 (.seq (.block 1 (.seq (.ops [⟨(some 26),none,.q (.val (.tmp 24)),[]⟩,
 ⟨(some 7),none,.q (.val (.tmp 26)),[]⟩])
 (.seq (.ops [⟨(some 27),none,.q (.val (.tmp 6)),[]⟩,
 ⟨(some 28),none,.q (.val (.tmp 7)),[]⟩,
 ⟨(some 29),none,.q (.val (.tmp 3)),[]⟩,
 ⟨(some 30),none,.call 40 [(.tmp 29)],[]⟩,
 ⟨(some 31),none,.q (.idxA 1 (.tmp 27) (.tmp 28)),[]⟩,
 ⟨none,none,.e (.store 1 (.tmp 31) (.tmp 30)),[]⟩])
 (.seq (.ops [⟨(some 32),none,.q (.val (.tmp 7)),[]⟩,
 ⟨(some 33),none,.q (.bin .eql (.tmp 32) (.const (.int .i64 0))),[]⟩,
 ⟨(some 34),none,.q (.val (.tmp 33)),[]⟩,
 ⟨(some 35),(some (34,false)),.q (.val (.tmp 4)),[]⟩,
 ⟨(some 36),(some (34,false)),.q (.val (.tmp 7)),[]⟩,
 ⟨(some 37),(some (34,false)),.q (.idxA 1 (.tmp 35) (.tmp 36)),[]⟩,
 ⟨(some 38),(some (34,false)),.q (.load (.tmp 37)),[]⟩,
 ⟨(some 39),(some (34,false)),.q (.not (.tmp 38)),[]⟩,
 ⟨(some 40),none,.q (.pick (.tmp 34) (.const (.bool true)) (.tmp 39)),[]⟩])
 (.cond (.tmp 40)
 (.ops [⟨(some 41),none,.q (.val (.tmp 6)),[]⟩,
 ⟨(some 42),none,.q (.val (.tmp 7)),[]⟩,
 ⟨(some 43),none,.q (.idxA 1 (.tmp 41) (.tmp 42)),[]⟩,
 ⟨none,none,.e (.store 1 (.tmp 43) (.const (.int .u64 0))),[]⟩])
 .skip)))))
 (.ops [⟨(some 44),none,.q (.bin .add (.tmp 24) (.const (.int .i64 1))),[]⟩,
 ⟨(some 24),none,.q (.val (.tmp 44)),[]⟩])))))))
 (.seq (.seq (.ops [⟨(some 45),none,.q (.val (.tmp 3)),[]⟩,
 ⟨(some 46),none,.q (.bin .gtr (.tmp 45) (.const (.int .i64 0))),[]⟩])
 (.cond (.tmp 46)
 (.ops [⟨(some 47),none,.q (.val (.tmp 6)),[]⟩,
 ⟨(some 48),none,.e (.lit [(.int .i64 0)] 1 1 [(0,1,(.const (.int .i64 0)))]),[]⟩,
 ⟨(some 49),none,.call 12 [(.const (.int .u64 0)),(.tmp 48)],[]⟩,
 ⟨(some 50),none,.q (.idxA 1 (.tmp 47) (.const (.int .i64 0))),[]⟩,
 ⟨none,none,.e (.store 1 (.tmp 50) (.tmp 49)),[]⟩])
 .skip))
 (.seq (.label 0)
 (.seq (.seq (.ops [⟨(some 8),none,.q (.val (.const (.int .i64 1))),[]⟩])
 (.block 2 (.loop (.seq (.seq (.ops [⟨(some 51),none,.q (.val (.tmp 8)),[]⟩,
 ⟨(some 52),none,.q (.val (.tmp 3)),[]⟩,
 ⟨(some 53),none,.q (.bin .lss (.tmp 51) (.tmp 52)),[]⟩])
 (.cond (.tmp 53)
 .skip
 (.exit 2)))
 (.seq (.block 3 (.seq (.seq (.ops [⟨(some 56),none,.q (.val (.tmp 4)),[]⟩,
 ⟨(some 57),none,.q (.val (.tmp 8)),[]⟩,
 ⟨(some 58),none,.q (.idxA 1 (.tmp 56) (.tmp 57)),[]⟩,
 ⟨(some 59),none,.q (.load (.tmp 58)),[]⟩,
 ⟨(some 60),none,.q (.not (.tmp 59)),[]⟩])
 (.cond (.tmp 60)
 (.exit 3)
 .skip))
 (.seq (.ops [⟨(some 61),none,.q (.val (.tmp 3)),[]⟩,
 ⟨(some 62),none,.call 40 [(.tmp 61)],[]⟩,
 ⟨(some 9),none,.q (.val (.tmp 62)),[]⟩])
 (.seq (.seq (.ops [⟨(some 63),none,.q (.val (.tmp 5)),[]⟩,
 ⟨(some 64),none,.q (.val (.tmp 8)),[]⟩,
 ⟨(some 65),none,.q (.idxA 1 (.tmp 63) (.tmp 64)),[]⟩,
 ⟨(some 66),none,.q (.load (.tmp 65)),[]⟩,
 ⟨(some 67),none,.q (.len (.tmp 66)),[]⟩,
 ⟨(some 68),none,.q (.val (.const (.int .i64 0))),[]⟩])
 (.block 4 (.loop (.seq (.ops [⟨(some 69),none,.q (.bin .lss (.tmp 68) (.tmp 67)),[]⟩])
 (.seq (.cond (.tmp 69)
 .skip
 (.exit 4))
 (.seq (.block 5 (.seq (.ops [⟨(some 70),none,.q (.idxA 1 (.tmp 66) (.tmp 68)),[]⟩,
 ⟨(some 71),none,.q (.load (.tmp 70)),[]⟩,
 ⟨(some 11),none,.q (.val (.tmp 71)),[]⟩])
 (.seq (.ops [⟨(some 72),none,.q (.val (.tmp 4)),[]⟩,
 ⟨(some 73),none,.q (.val (.tmp 11)),[]⟩,
 ⟨(some 74),none,.q (.idxA 1 (.tmp 72) (.tmp 73)),[]⟩,
 ⟨(some 75),none,.q (.load (.tmp 74)),[]⟩])
 (.cond (.tmp 75)
 (.ops [⟨(some 76),none,.q (.val (.tmp 9)),[]⟩,
 ⟨(some 77),none,.q (.val (.tmp 6)),[]⟩,
 ⟨(some 78),none,.q (.val (.tmp 11)),[]⟩,
 ⟨(some 79),none,.q (.idxA 1 (.tmp 77) (.tmp 78)),[]⟩,
 ⟨(some 80),none,.q (.load (.tmp 79)),[]⟩,
 ⟨(some 81),none,.q (.bin .and (.tmp 76) (.tmp 80)),[]⟩,
 ⟨(some 9),none,.q (.val (.tmp 81)),[]⟩])
 .skip))))
 (.ops [⟨(some 82),none,.q (.bin .add (.tmp 68) (.const (.int .i64 1))),[]⟩,
 ⟨(some 68),none,.q (.val (.tmp 82)),[]⟩])))))))
 (.seq (.ops [⟨(some 83),none,.q (.val (.tmp 9)),[]⟩,
 ⟨(some 84),none,.q (.val (.tmp 8)),[]⟩,
 ⟨(some 85),none,.e (.lit [(.int .i64 0)] 1 1 [(0,1,(.tmp 84))]),[]⟩,
 ⟨(some 86),none,.call 12 [(.tmp 83),(.tmp 85)],[]⟩,
 ⟨(some 9),none,.q (.val (.tmp 86)),[]⟩])
 (.seq (.ops [⟨(some 87),none,.q (.val (.tmp 9)),[]⟩,
 ⟨(some 88),none,.q (.val (.tmp 6)),[]⟩,
 ⟨(some 89),none,.q (.val (.tmp 8)),[]⟩,
 ⟨(some 90),none,.q (.idxA 1 (.tmp 88) (.tmp 89)),[]⟩,
 ⟨(some 91),none,.q (.load (.tmp 90)),[]⟩,
 ⟨(some 92),none,.q (.bin .neq (.tmp 87) (.tmp 91)),[]⟩])
 (.cond (.tmp 92)
 (.seq (.ops [⟨(some 93),none,.q (.val (.tmp 6)),[]⟩,
 ⟨(some 94),none,.q (.val (.tmp 8)),[]⟩,
 ⟨(some 95),none,.q (.val (.tmp 9)),[]⟩,
 ⟨(some 96),none,.q (.idxA 1 (.tmp 93) (.tmp 94)),[]⟩,
 ⟨none,none,.e (.store 1 (.tmp 96) (.tmp 95)),[]⟩])
 (.goto 0))
 .skip)))))))
 (.ops [⟨(some 54),none,.q (.val (.tmp 8)),[]⟩,
 ⟨(some 55),none,.q (.bin .add (.tmp 54) (.const (.int .i64 1))),[]⟩,
 ⟨(some 8),none,.q (.val (.tmp 55)),[]⟩]))))))
 (.seq (.ops [⟨(some 97),none,.q (.val (.tmp 6)),[]⟩,
 ⟨(some 2),none,.q (.val (.tmp 97)),[]⟩])
 .ret)))))))))
 (.seq .skip
 (.seq (.seq (.ops [⟨(some 8),none,.q (.val (.const (.int .i64 1))),[]⟩])
 (.block 2 (.loop (.seq (.seq (.ops [⟨(some 51),none,.q (.val (.tmp 8)),[]⟩,
 ⟨(some 52),none,.q (.val (.tmp 3)),[]⟩,
 ⟨(some 53),none,.q (.bin .lss (.tmp 51) (.tmp 52)),[]⟩])
 (.cond (.tmp 53)
 .skip
 (.exit 2)))
 (.seq (.block 3 (.seq (.seq (.ops [⟨(some 56),none,.q (.val (.tmp 4)),[]⟩,
 ⟨(some 57),none,.q (.val (.tmp 8)),[]⟩,
 ⟨(some 58),none,.q (.idxA 1 (.tmp 56) (.tmp 57)),[]⟩,
 ⟨(some 59),none,.q (.load (.tmp 58)),[]⟩,
 ⟨(some 60),none,.q (.not (.tmp 59)),[]⟩])
 (.cond (.tmp 60)
 (.exit 3)
 .skip))
 (.seq (.ops [⟨(some 61),none,.q (.val (.tmp 3)),[]⟩,
 ⟨(some 62),none,.call 40 [(.tmp 61)],[]⟩,
 ⟨(some 9),none,.q (.val (.tmp 62)),[]⟩])
 (.seq (.seq (.ops [⟨(some 63),none,.q (.val (.tmp 5)),[]⟩,
 ⟨(some 64),none,.q (.val (.tmp 8)),[]⟩,
 ⟨(some 65),none,.q (.idxA 1 (.tmp 63) (.tmp 64)),[]⟩,
 ⟨(some 66),none,.q (.load (.tmp 65)),[]⟩,
 ⟨(some 67),none,.q (.len (.tmp 66)),[]⟩,
 ⟨(some 68),none,.q (.val (.const (.int .i64 0))),[]⟩])
 (.block 4 (.loop (.seq (.ops [⟨(some 69),none,.q (.bin .lss (.tmp 68) (.tmp 67)),[]⟩])
 (.seq (.cond (.tmp 69)
 .skip
 (.exit 4))
 (.seq (.block 5 (.seq (.ops [⟨(some 70),none,.q (.idxA 1 (.tmp 66) (.tmp 68)),[]⟩,
 ⟨(some 71),none,.q (.load (.tmp 70)),[]⟩,
 ⟨(some 11),none,.q (.val (.tmp 71)),[]⟩])
 (.seq (.ops [⟨(some 72),none,.q (.val (.tmp 4)),[]⟩,
 ⟨(some 73),none,.q (.val (.tmp 11)),[]⟩,
 ⟨(some 74),none,.q (.idxA 1 (.tmp 72) (.tmp 73)),[]⟩,
 ⟨(some 75),none,.q (.load (.tmp 74)),[]⟩])
 (.cond (.tmp 75)
 (.ops [⟨(some 76),none,.q (.val (.tmp 9)),[]⟩,
 ⟨(some 77),none,.q (.val (.tmp 6)),[]⟩,
 ⟨(some 78),none,.q (.val (.tmp 11)),[]⟩,
 ⟨(some 79),none,.q (.idxA 1 (.tmp 77) (.tmp 78)),[]⟩,
 ⟨(some 80),none,.q (.load (.tmp 79)),[]⟩,
 ⟨(some 81),none,.q (.bin .and (.tmp 76) (.tmp 80)),[]⟩,
 ⟨(some 9),none,.q (.val (.tmp 81)),[]⟩])
 .skip))))
 (.ops [⟨(some 82),none,.q (.bin .add (.tmp 68) (.const (.int .i64 1))),[]⟩,
 ⟨(some 68),none,.q (.val (.tmp 82)),[]⟩])))))))
 (.seq (.ops [⟨(some 83),none,.q (.val (.tmp 9)),[]⟩,
 ⟨(some 84),none,.q (.val (.tmp 8)),[]⟩,
 ⟨(some 85),none,.e (.lit [(.int .i64 0)] 1 1 [(0,1,(.tmp 84))]),[]⟩,
 ⟨(some 86),none,.call 12 [(.tmp 83),(.tmp 85)],[]⟩,
 ⟨(some 9),none,.q (.val (.tmp 86)),[]⟩])
 (.seq (.ops [⟨(some 87),none,.q (.val (.tmp 9)),[]⟩,
 ⟨(some 88),none,.q (.val (.tmp 6)),[]⟩,
 ⟨(some 89),none,.q (.val (.tmp 8)),[]⟩,
 ⟨(some 90),none,.q (.idxA 1 (.tmp 88) (.tmp 89)),[]⟩,
 ⟨(some 91),none,.q (.load (.tmp 90)),[]⟩,
 ⟨(some 92),none,.q (.bin .neq (.tmp 87) (.tmp 91)),[]⟩])
 (.cond (.tmp 92)
 (.seq (.ops [⟨(some 93),none,.q (.val (.tmp 6)),[]⟩,
 ⟨(some 94),none,.q (.val (.tmp 8)),[]⟩,
 ⟨(some 95),none,.q (.val (.tmp 9)),[]⟩,
 ⟨(some 96),none,.q (.idxA 1 (.tmp 93) (.tmp 94)),[]⟩,
 ⟨none,none,.e (.store 1 (.tmp 96) (.tmp 95)),[]⟩])
 (.goto 0))
 .skip)))))))
 (.ops [⟨(some 54),none,.q (.val (.tmp 8)),[]⟩,
 ⟨(some 55),none,.q (.bin .add (.tmp 54) (.const (.int .i64 1))),[]⟩,
 ⟨(some 8),none,.q (.val (.tmp 55)),[]⟩]))))))
 (.seq (.ops [⟨(some 97),none,.q (.val (.tmp 6)),[]⟩,
 ⟨(some 2),none,.q (.val (.tmp 97)),[]⟩])
 .ret))))),[.tmp 2],98⟩
theorem c_Doms_is:qCk Proofs.Tryd.prog Proofs.Tryd.f18=some qKp:=by kernel_rfl
theorem call_Doms {args:List Value} {H:Heap} {K:Value→Heap→Prop} (hl:args.length≤98) (h:awp Proofs.Tryd.prog qKp.body (qAs qKp.results K) (qBy args) H):qCq Proofs.Tryd.prog 18 args H K :=
  qDm (by kernel_rfl) (by kernel_rfl) c_Doms_is hl h
def c_Succs:AFn :=
⟨(.seq (.ops [⟨(some 2),none,.q (.val (.const (.slice none 0 0))),[]⟩])
 (.seq (.ops [⟨(some 7),none,.q (.val (.tmp 0)),[]⟩,
 ⟨(some 8),none,.q (.len (.tmp 7)),[]⟩,
 ⟨(some 9),none,.e (.make [(.slice none 0 0)] 1 (.tmp 8) (.tmp 8)),[]⟩,
 ⟨(some 3),none,.q (.val (.tmp 9)),[]⟩])
 (.seq (.seq (.ops [⟨(some 10),none,.q (.val (.tmp 0)),[]⟩,
 ⟨(some 11),none,.q (.len (.tmp 10)),[]⟩,
 ⟨(some 12),none,.q (.val (.const (.int .i64 0))),[]⟩])
 (.block 0 (.loop (.seq (.ops [⟨(some 13),none,.q (.bin .lss (.tmp 12) (.tmp 11)),[]⟩])
 (.seq (.cond (.tmp 13)
 .skip
 (.exit 0))
 (.seq (.block 1 (.seq (.ops [⟨(some 14),none,.q (.val (.tmp 12)),[]⟩,
 ⟨(some 15),none,.q (.idxA 4 (.tmp 10) (.tmp 12)),[]⟩,
 ⟨(some 16),none,.q (.loadA 4 (.tmp 15)),[]⟩,
 ⟨(some 5),none,.e (.new [(.int .u8 0),(.int .i64 0),(.int .i64 0),(.int .i64 0)] 4),[]⟩,
 ⟨(some 4),none,.q (.val (.tmp 14)),[]⟩,
 ⟨none,none,.e (.store 4 (.tmp 5) (.tmp 16)),[]⟩])
 (.seq (.ops [⟨(some 17),none,.q (.val (.tmp 4)),[]⟩,
 ⟨(some 18),none,.q (.bin .add (.tmp 17) (.const (.int .i64 1))),[]⟩,
 ⟨(some 19),none,.e (.lit [(.int .i64 0)] 1 1 [(0,1,(.tmp 18))]),[]⟩,
 ⟨(some 6),none,.q (.val (.tmp 19)),[]⟩])
 (.seq (.seq (.ops [⟨(some 20),none,.q (.fieldA 0 (.tmp 5)),[]⟩,
 ⟨(some 21),none,.q (.load (.tmp 20)),[]⟩])
 (.block 2 (.seq (.ops [⟨(some 23),none,.q (.bin .eql (.tmp 21) (.const (.int .u8 10))),[]⟩,
 ⟨(some 22),none,.q (.val (.tmp 23)),[]⟩])
 (.cond (.tmp 22)
 (.ops [⟨(some 24),none,.q (.val (.tmp 6)),[]⟩,
 ⟨(some 25),none,.q (.fieldA 1 (.tmp 5)),[]⟩,
 ⟨(some 26),none,.q (.load (.tmp 25)),[]⟩,
 ⟨(some 27),none,.q (.idxA 1 (.tmp 24) (.const (.int .i64 0))),[]⟩,
 ⟨none,none,.e (.store 1 (.tmp 27) (.tmp 26)),[]⟩])
 (.seq (.ops [⟨(some 29),none,.q (.bin .eql (.tmp 21) (.const (.int .u8 11))),[]⟩,
 ⟨(some 28),none,.q (.val (.tmp 29)),[]⟩])
 (.cond (.tmp 28)
 (.ops [⟨(some 30),none,.q (.val (.tmp 6)),[]⟩,
 ⟨(some 31),none,.q (.fieldA 2 (.tmp 5)),[]⟩,
 ⟨(some 32),none,.q (.load (.tmp 31)),[]⟩,
 ⟨(some 33),none,.e (.lit [(.int .i64 0)] 1 1 [(0,1,(.tmp 32))]),[]⟩,
 ⟨(some 34),none,.e (.app 1 (.tmp 30) (.tmp 33)),[]⟩,
 ⟨(some 6),none,.q (.val (.tmp 34)),[]⟩])
 .skip))))))
 (.seq (.ops [⟨(some 35),none,.q (.val (.tmp 6)),[]⟩,
 ⟨(some 36),none,.call 23 [(.tmp 35)],[]⟩])
 (.ops [⟨(some 37),none,.q (.val (.tmp 3)),[]⟩,
 ⟨(some 38),none,.q (.val (.tmp 4)),[]⟩,
 ⟨(some 39),none,.q (.val (.tmp 6)),[]⟩,
 ⟨(some 40),none,.call 24 [(.tmp 39)],[]⟩,
 ⟨(some 41),none,.q (.idxA 1 (.tmp 37) (.tmp 38)),[]⟩,
 ⟨none,none,.e (.store 1 (.tmp 41) (.tmp 40)),[]⟩]))))))
 (.ops [⟨(some 42),none,.q (.bin .add (.tmp 12) (.const (.int .i64 1))),[]⟩,
 ⟨(some 12),none,.q (.val (.tmp 42)),[]⟩])))))))
 (.seq (.ops [⟨(some 43),none,.q (.val (.tmp 3)),[]⟩,
 ⟨(some 2),none,.q (.val (.tmp 43)),[]⟩])
 .ret)))),[.tmp 2],44⟩
theorem c_Succs_is:qCk Proofs.Tryd.prog Proofs.Tryd.f11=some c_Succs:=by kernel_rfl
theorem call_Succs {args:List Value} {H:Heap} {K:Value→Heap→Prop} (hl:args.length≤44) (h:awp Proofs.Tryd.prog c_Succs.body (qAs c_Succs.results K) (qBy args) H):qCq Proofs.Tryd.prog 11 args H K :=
  qDm (by kernel_rfl) (by kernel_rfl) c_Succs_is hl h
def c_Len64:AFn :=
⟨(.seq (.ops [⟨(some 2),none,.q (.val (.const (.int .i64 0))),[]⟩])
 (.seq (.seq (.ops [⟨(some 3),none,.q (.val (.tmp 0)),[]⟩,
 ⟨(some 4),none,.q (.bin .geq (.tmp 3) (.const (.int .u64 4294967296))),[]⟩])
 (.cond (.tmp 4)
 (.seq (.ops [⟨(some 5),none,.q (.val (.tmp 0)),[]⟩,
 ⟨(some 6),none,.q (.bin .shr (.tmp 5) (.const (.int .u64 32))),[]⟩,
 ⟨(some 0),none,.q (.val (.tmp 6)),[]⟩])
 (.ops [⟨(some 2),none,.q (.val (.const (.int .i64 32))),[]⟩]))
 .skip))
 (.seq (.seq (.ops [⟨(some 7),none,.q (.val (.tmp 0)),[]⟩,
 ⟨(some 8),none,.q (.bin .geq (.tmp 7) (.const (.int .u64 65536))),[]⟩])
 (.cond (.tmp 8)
 (.seq (.ops [⟨(some 9),none,.q (.val (.tmp 0)),[]⟩,
 ⟨(some 10),none,.q (.bin .shr (.tmp 9) (.const (.int .u64 16))),[]⟩,
 ⟨(some 0),none,.q (.val (.tmp 10)),[]⟩])
 (.ops [⟨(some 11),none,.q (.val (.tmp 2)),[]⟩,
 ⟨(some 12),none,.q (.bin .add (.tmp 11) (.const (.int .i64 16))),[]⟩,
 ⟨(some 2),none,.q (.val (.tmp 12)),[]⟩]))
 .skip))
 (.seq (.seq (.ops [⟨(some 13),none,.q (.val (.tmp 0)),[]⟩,
 ⟨(some 14),none,.q (.bin .geq (.tmp 13) (.const (.int .u64 256))),[]⟩])
 (.cond (.tmp 14)
 (.seq (.ops [⟨(some 15),none,.q (.val (.tmp 0)),[]⟩,
 ⟨(some 16),none,.q (.bin .shr (.tmp 15) (.const (.int .u64 8))),[]⟩,
 ⟨(some 0),none,.q (.val (.tmp 16)),[]⟩])
 (.ops [⟨(some 17),none,.q (.val (.tmp 2)),[]⟩,
 ⟨(some 18),none,.q (.bin .add (.tmp 17) (.const (.int .i64 8))),[]⟩,
 ⟨(some 2),none,.q (.val (.tmp 18)),[]⟩]))
 .skip))
 (.seq (.ops [⟨(some 19),none,.q (.val (.tmp 2)),[]⟩,
 ⟨(some 20),none,.q (.val (.tmp 0)),[]⟩,
 ⟨(some 21),none,.q (.conv .u8 (.tmp 20)),[]⟩,
 ⟨(some 22),none,.q (.idxS (.const (.string ⟨#[0,1,2,2,3,3,3,3,4,4,4,4,4,4,4,4,5,5,5,5,5,5,5,5,5,5,5,5,5,5,5,5,6,6,6,6,6,6,6,6,6,6,6,6,6,6,6,6,6,6,6,6,6,6,6,6,6,6,6,6,6,6,6,6,7,7,7,7,7,7,7,7,7,7,7,7,7,7,7,7,7,7,7,7,7,7,7,7,7,7,7,7,7,7,7,7,7,7,7,7,7,7,7,7,7,7,7,7,7,7,7,7,7,7,7,7,7,7,7,7,7,7,7,7,7,7,7,7,8,8,8,8,8,8,8,8,8,8,8,8,8,8,8,8,8,8,8,8,8,8,8,8,8,8,8,8,8,8,8,8,8,8,8,8,8,8,8,8,8,8,8,8,8,8,8,8,8,8,8,8,8,8,8,8,8,8,8,8,8,8,8,8,8,8,8,8,8,8,8,8,8,8,8,8,8,8,8,8,8,8,8,8,8,8,8,8,8,8,8,8,8,8,8,8,8,8,8,8,8,8,8,8,8,8,8,8,8,8,8,8,8,8,8,8,8,8,8,8,8,8,8,8,8,8,8,8]⟩)) (.tmp 21)),[]⟩,
 ⟨(some 23),none,.q (.conv .i64 (.tmp 22)),[]⟩,
 ⟨(some 24),none,.q (.bin .add (.tmp 19) (.tmp 23)),[]⟩,
 ⟨(some 2),none,.q (.val (.tmp 24)),[]⟩])
 .ret))))),[.tmp 2],25⟩
theorem c_Len64_is:qCk Proofs.Tryd.prog Proofs.Tryd.f75=some c_Len64:=by kernel_rfl
theorem call_Len64 {args:List Value} {H:Heap} {K:Value→Heap→Prop} (hl:args.length≤25) (h:awp Proofs.Tryd.prog c_Len64.body (qAs c_Len64.results K) (qBy args) H):qCq Proofs.Tryd.prog 75 args H K :=
  qDm (by kernel_rfl) (by kernel_rfl) c_Len64_is hl h
def qQt:AFn :=
⟨(.seq (.ops [⟨(some 2),none,.q (.val (.const (.int .u64 0))),[]⟩])
 (.seq (.block 0 (.seq (.ops [⟨(some 4),none,.q (.val (.tmp 0)),[]⟩,
 ⟨(some 5),none,.q (.bin .leq (.tmp 4) (.const (.int .i64 0))),[]⟩,
 ⟨(some 3),none,.q (.val (.tmp 5)),[]⟩])
 (.cond (.tmp 3)
 (.seq (.ops [⟨(some 2),none,.q (.val (.const (.int .u64 0))),[]⟩])
 .ret)
 (.seq (.ops [⟨(some 7),none,.q (.val (.tmp 0)),[]⟩,
 ⟨(some 8),none,.q (.bin .geq (.tmp 7) (.const (.int .i64 64))),[]⟩,
 ⟨(some 6),none,.q (.val (.tmp 8)),[]⟩])
 (.cond (.tmp 6)
 (.seq (.ops [⟨(some 2),none,.q (.val (.const (.int .u64 18446744073709551615))),[]⟩])
 .ret)
 .skip)))))
 (.seq (.ops [⟨(some 9),none,.q (.val (.tmp 0)),[]⟩,
 ⟨(some 10),none,.q (.bin .shl (.const (.int .u64 1)) (.tmp 9)),[]⟩,
 ⟨(some 11),none,.q (.bin .sub (.tmp 10) (.const (.int .u64 1))),[]⟩,
 ⟨(some 2),none,.q (.val (.tmp 11)),[]⟩])
 .ret))),[.tmp 2],12⟩
theorem c_All_is:qCk Proofs.Tryd.prog Proofs.Tryd.f40=some qQt:=by kernel_rfl
theorem call_All {args:List Value} {H:Heap} {K:Value→Heap→Prop} (hl:args.length≤12) (h:awp Proofs.Tryd.prog qQt.body (qAs qQt.results K) (qBy args) H):qCq Proofs.Tryd.prog 40 args H K :=
  qDm (by kernel_rfl) (by kernel_rfl) c_All_is hl h
def qQj:AFn :=
⟨(.seq (.ops [⟨(some 4),none,.q (.val (.const (.int .u64 0))),[]⟩])
 (.seq (.seq (.ops [⟨(some 7),none,.q (.val (.tmp 1)),[]⟩,
 ⟨(some 8),none,.q (.len (.tmp 7)),[]⟩,
 ⟨(some 9),none,.q (.val (.const (.int .i64 0))),[]⟩])
 (.block 0 (.loop (.seq (.ops [⟨(some 10),none,.q (.bin .lss (.tmp 9) (.tmp 8)),[]⟩])
 (.seq (.cond (.tmp 10)
 .skip
 (.exit 0))
 (.seq (.block 1 (.seq (.ops [⟨(some 11),none,.q (.idxA 1 (.tmp 7) (.tmp 9)),[]⟩,
 ⟨(some 12),none,.q (.load (.tmp 11)),[]⟩,
 ⟨(some 6),none,.q (.val (.tmp 12)),[]⟩])
 (.ops [⟨(some 13),none,.q (.val (.tmp 0)),[]⟩,
 ⟨(some 14),none,.q (.val (.tmp 6)),[]⟩,
 ⟨(some 15),none,.call 25 [(.tmp 14)],[]⟩,
 ⟨(some 16),none,.q (.bin .or (.tmp 13) (.tmp 15)),[]⟩,
 ⟨(some 0),none,.q (.val (.tmp 16)),[]⟩])))
 (.ops [⟨(some 17),none,.q (.bin .add (.tmp 9) (.const (.int .i64 1))),[]⟩,
 ⟨(some 9),none,.q (.val (.tmp 17)),[]⟩])))))))
 (.seq (.ops [⟨(some 18),none,.q (.val (.tmp 0)),[]⟩,
 ⟨(some 4),none,.q (.val (.tmp 18)),[]⟩])
 .ret))),[.tmp 4],19⟩
theorem c_With_is:qCk Proofs.Tryd.prog Proofs.Tryd.f12=some qQj:=by kernel_rfl
theorem call_With {args:List Value} {H:Heap} {K:Value→Heap→Prop} (hl:args.length≤19) (h:awp Proofs.Tryd.prog qQj.body (qAs qQj.results K) (qBy args) H):qCq Proofs.Tryd.prog 12 args H K :=
  qDm (by kernel_rfl) (by kernel_rfl) c_With_is hl h
def qQs:AFn :=
⟨(.seq (.ops [⟨(some 2),none,.q (.val (.const (.int .u64 0))),[]⟩])
 (.seq (.seq (.ops [⟨(some 3),none,.q (.val (.tmp 0)),[]⟩,
 ⟨(some 4),none,.q (.bin .lss (.tmp 3) (.const (.int .i64 0))),[]⟩,
 ⟨(some 5),none,.q (.val (.tmp 4)),[]⟩,
 ⟨(some 6),(some (5,false)),.q (.val (.tmp 0)),[]⟩,
 ⟨(some 7),(some (5,false)),.q (.bin .geq (.tmp 6) (.const (.int .i64 64))),[]⟩,
 ⟨(some 8),none,.q (.pick (.tmp 5) (.const (.bool true)) (.tmp 7)),[]⟩])
 (.cond (.tmp 8)
 (.seq (.ops [⟨(some 2),none,.q (.val (.const (.int .u64 0))),[]⟩])
 .ret)
 .skip))
 (.seq (.ops [⟨(some 9),none,.q (.val (.tmp 0)),[]⟩,
 ⟨(some 10),none,.q (.bin .shl (.const (.int .u64 1)) (.tmp 9)),[]⟩,
 ⟨(some 2),none,.q (.val (.tmp 10)),[]⟩])
 .ret))),[.tmp 2],11⟩
theorem c_bit_is:qCk Proofs.Tryd.prog Proofs.Tryd.f25=some qQs:=by kernel_rfl
theorem call_bit {args:List Value} {H:Heap} {K:Value→Heap→Prop} (hl:args.length≤11) (h:awp Proofs.Tryd.prog qQs.body (qAs qQs.results K) (qBy args) H):qCq Proofs.Tryd.prog 25 args H K :=
  qDm (by kernel_rfl) (by kernel_rfl) c_bit_is hl h
end Am
