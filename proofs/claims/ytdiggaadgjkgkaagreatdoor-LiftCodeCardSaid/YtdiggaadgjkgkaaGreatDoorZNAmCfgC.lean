/- Codes of the program's functions, as a program printed them, and that they are what the program's functions are compiled to.
   No condition: plain facts. -/
import Derived.KernelRfl
import Derived.Test.YtdiggaadgjkgkaaGreatDoorZNAmWalk
import Derived.Test.YtdiggaadgjkgkaaGreatDoorProg
namespace Am
set_option linter.unusedSimpArgs false
set_option linter.unusedVariables false
open Go
set_option maxRecDepth 100000
def qQb:AFn :=
⟨(.seq (.ops [⟨(some 2),none,.q (.val (.const (.slice none 0 0))),[]⟩])
 (.seq (.ops [⟨(some 6),none,.q (.val (.tmp 0)),[]⟩,
 ⟨(some 7),none,.q (.len (.tmp 6)),[]⟩,
 ⟨(some 8),none,.e (.make [(.bool false)] 1 (.tmp 7) (.tmp 7)),[]⟩,
 ⟨(some 3),none,.q (.val (.tmp 8)),[]⟩])
 (.seq (.ops [⟨(some 9),none,.e (.lit [(.int .i64 0)] 1 1 [(0,1,(.const (.int .i64 0)))]),[]⟩,
 ⟨(some 4),none,.q (.val (.tmp 9)),[]⟩])
 (.seq (.block 0 (.loop (.seq (.seq (.ops [⟨(some 10),none,.q (.val (.tmp 4)),[]⟩,
 ⟨(some 11),none,.q (.len (.tmp 10)),[]⟩,
 ⟨(some 12),none,.q (.bin .gtr (.tmp 11) (.const (.int .i64 0))),[]⟩])
 (.cond (.tmp 12)
 .skip
 (.exit 0)))
 (.block 1 (.seq (.ops [⟨(some 13),none,.q (.val (.tmp 4)),[]⟩,
 ⟨(some 14),none,.q (.val (.tmp 4)),[]⟩,
 ⟨(some 15),none,.q (.len (.tmp 14)),[]⟩,
 ⟨(some 16),none,.q (.bin .sub (.tmp 15) (.const (.int .i64 1))),[]⟩,
 ⟨(some 17),none,.q (.idxA 1 (.tmp 13) (.tmp 16)),[]⟩,
 ⟨(some 18),none,.q (.load (.tmp 17)),[]⟩,
 ⟨(some 5),none,.q (.val (.tmp 18)),[]⟩])
 (.seq (.ops [⟨(some 19),none,.q (.val (.tmp 4)),[]⟩,
 ⟨(some 20),none,.q (.val (.tmp 4)),[]⟩,
 ⟨(some 21),none,.q (.len (.tmp 20)),[]⟩,
 ⟨(some 22),none,.q (.bin .sub (.tmp 21) (.const (.int .i64 1))),[]⟩,
 ⟨(some 23),none,.q (.cut 1 (.tmp 19) none (some (.tmp 22))),[]⟩,
 ⟨(some 4),none,.q (.val (.tmp 23)),[]⟩])
 (.seq (.seq (.ops [⟨(some 24),none,.q (.val (.tmp 5)),[]⟩,
 ⟨(some 25),none,.q (.bin .lss (.tmp 24) (.const (.int .i64 0))),[]⟩,
 ⟨(some 26),none,.q (.val (.tmp 25)),[]⟩,
 ⟨(some 27),(some (26,false)),.q (.val (.tmp 5)),[]⟩,
 ⟨(some 28),(some (26,false)),.q (.val (.tmp 0)),[]⟩,
 ⟨(some 29),(some (26,false)),.q (.len (.tmp 28)),[]⟩,
 ⟨(some 30),(some (26,false)),.q (.bin .geq (.tmp 27) (.tmp 29)),[]⟩,
 ⟨(some 31),none,.q (.pick (.tmp 26) (.const (.bool true)) (.tmp 30)),[]⟩,
 ⟨(some 32),none,.q (.val (.tmp 31)),[]⟩,
 ⟨(some 33),(some (32,false)),.q (.val (.tmp 3)),[]⟩,
 ⟨(some 34),(some (32,false)),.q (.val (.tmp 5)),[]⟩,
 ⟨(some 35),(some (32,false)),.q (.idxA 1 (.tmp 33) (.tmp 34)),[]⟩,
 ⟨(some 36),(some (32,false)),.q (.load (.tmp 35)),[]⟩,
 ⟨(some 37),none,.q (.pick (.tmp 32) (.const (.bool true)) (.tmp 36)),[]⟩])
 (.cond (.tmp 37)
 (.exit 1)
 .skip))
 (.seq (.ops [⟨(some 38),none,.q (.val (.tmp 3)),[]⟩,
 ⟨(some 39),none,.q (.val (.tmp 5)),[]⟩,
 ⟨(some 40),none,.q (.idxA 1 (.tmp 38) (.tmp 39)),[]⟩,
 ⟨none,none,.e (.store 1 (.tmp 40) (.const (.bool true))),[]⟩])
 (.ops [⟨(some 41),none,.q (.val (.tmp 4)),[]⟩,
 ⟨(some 42),none,.q (.val (.tmp 0)),[]⟩,
 ⟨(some 43),none,.q (.val (.tmp 5)),[]⟩,
 ⟨(some 44),none,.q (.idxA 1 (.tmp 42) (.tmp 43)),[]⟩,
 ⟨(some 45),none,.q (.load (.tmp 44)),[]⟩,
 ⟨(some 46),none,.e (.app 1 (.tmp 41) (.tmp 45)),[]⟩,
 ⟨(some 4),none,.q (.val (.tmp 46)),[]⟩])))))))))
 (.seq (.ops [⟨(some 47),none,.q (.val (.tmp 3)),[]⟩,
 ⟨(some 2),none,.q (.val (.tmp 47)),[]⟩])
 .ret))))),[.tmp 2],48⟩
theorem c_Reach_is:qCd Proofs.Tryz.prog Proofs.Tryz.f38=some qQb:=by kernel_rfl
theorem call_Reach {args:List Value} {H:Heap} {K:Value→Heap→Prop} (hl:args.length≤48) (h:awp Proofs.Tryz.prog qQb.body (qAs qQb.results K) (qBv args) H):qCq Proofs.Tryz.prog 38 args H K :=
  qCp (by kernel_rfl) (by kernel_rfl) c_Reach_is hl h
def qQf:AFn :=
⟨(.seq (.ops [⟨(some 2),none,.q (.val (.const (.slice none 0 0))),[]⟩])
 (.seq (.ops [⟨(some 9),none,.q (.val (.tmp 0)),[]⟩,
 ⟨(some 10),none,.q (.len (.tmp 9)),[]⟩,
 ⟨(some 11),none,.e (.make [(.slice none 0 0)] 1 (.tmp 10) (.tmp 10)),[]⟩,
 ⟨(some 3),none,.q (.val (.tmp 11)),[]⟩])
 (.seq (.seq (.ops [⟨(some 12),none,.q (.val (.tmp 0)),[]⟩,
 ⟨(some 13),none,.q (.len (.tmp 12)),[]⟩,
 ⟨(some 14),none,.q (.val (.const (.int .i64 0))),[]⟩])
 (.block 0 (.loop (.seq (.ops [⟨(some 15),none,.q (.bin .lss (.tmp 14) (.tmp 13)),[]⟩])
 (.seq (.cond (.tmp 15)
 .skip
 (.exit 0))
 (.seq (.block 1 (.seq (.ops [⟨(some 16),none,.q (.val (.tmp 14)),[]⟩,
 ⟨(some 17),none,.q (.idxA 1 (.tmp 12) (.tmp 14)),[]⟩,
 ⟨(some 18),none,.q (.load (.tmp 17)),[]⟩,
 ⟨(some 4),none,.q (.val (.tmp 16)),[]⟩,
 ⟨(some 5),none,.q (.val (.tmp 18)),[]⟩])
 (.seq (.ops [⟨(some 19),none,.q (.val (.tmp 5)),[]⟩,
 ⟨(some 20),none,.q (.len (.tmp 19)),[]⟩,
 ⟨(some 21),none,.q (.val (.const (.int .i64 0))),[]⟩])
 (.block 2 (.loop (.seq (.ops [⟨(some 22),none,.q (.bin .lss (.tmp 21) (.tmp 20)),[]⟩])
 (.seq (.cond (.tmp 22)
 .skip
 (.exit 2))
 (.seq (.block 3 (.seq (.ops [⟨(some 23),none,.q (.idxA 1 (.tmp 19) (.tmp 21)),[]⟩,
 ⟨(some 24),none,.q (.load (.tmp 23)),[]⟩,
 ⟨(some 7),none,.q (.val (.tmp 24)),[]⟩])
 (.seq (.seq (.ops [⟨(some 25),none,.q (.val (.tmp 7)),[]⟩,
 ⟨(some 26),none,.q (.bin .lss (.tmp 25) (.const (.int .i64 0))),[]⟩,
 ⟨(some 27),none,.q (.val (.tmp 26)),[]⟩,
 ⟨(some 28),(some (27,false)),.q (.val (.tmp 7)),[]⟩,
 ⟨(some 29),(some (27,false)),.q (.val (.tmp 3)),[]⟩,
 ⟨(some 30),(some (27,false)),.q (.len (.tmp 29)),[]⟩,
 ⟨(some 31),(some (27,false)),.q (.bin .geq (.tmp 28) (.tmp 30)),[]⟩,
 ⟨(some 32),none,.q (.pick (.tmp 27) (.const (.bool true)) (.tmp 31)),[]⟩])
 (.cond (.tmp 32)
 (.exit 3)
 .skip))
 (.seq (.ops [⟨(some 33),none,.q (.val (.tmp 3)),[]⟩,
 ⟨(some 34),none,.q (.val (.tmp 7)),[]⟩,
 ⟨(some 35),none,.q (.idxA 1 (.tmp 33) (.tmp 34)),[]⟩,
 ⟨(some 36),none,.q (.load (.tmp 35)),[]⟩,
 ⟨(some 37),none,.q (.len (.tmp 36)),[]⟩,
 ⟨(some 8),none,.q (.val (.tmp 37)),[]⟩])
 (.seq (.ops [⟨(some 38),none,.q (.val (.tmp 8)),[]⟩,
 ⟨(some 39),none,.q (.bin .eql (.tmp 38) (.const (.int .i64 0))),[]⟩,
 ⟨(some 40),none,.q (.val (.tmp 39)),[]⟩,
 ⟨(some 41),(some (40,false)),.q (.val (.tmp 3)),[]⟩,
 ⟨(some 42),(some (40,false)),.q (.val (.tmp 7)),[]⟩,
 ⟨(some 43),(some (40,false)),.q (.idxA 1 (.tmp 41) (.tmp 42)),[]⟩,
 ⟨(some 44),(some (40,false)),.q (.load (.tmp 43)),[]⟩,
 ⟨(some 45),(some (40,false)),.q (.val (.tmp 8)),[]⟩,
 ⟨(some 46),(some (40,false)),.q (.bin .sub (.tmp 45) (.const (.int .i64 1))),[]⟩,
 ⟨(some 47),(some (40,false)),.q (.idxA 1 (.tmp 44) (.tmp 46)),[]⟩,
 ⟨(some 48),(some (40,false)),.q (.load (.tmp 47)),[]⟩,
 ⟨(some 49),(some (40,false)),.q (.val (.tmp 4)),[]⟩,
 ⟨(some 50),(some (40,false)),.q (.bin .neq (.tmp 48) (.tmp 49)),[]⟩,
 ⟨(some 51),none,.q (.pick (.tmp 40) (.const (.bool true)) (.tmp 50)),[]⟩])
 (.cond (.tmp 51)
 (.ops [⟨(some 52),none,.q (.val (.tmp 3)),[]⟩,
 ⟨(some 53),none,.q (.val (.tmp 7)),[]⟩,
 ⟨(some 54),none,.q (.val (.tmp 3)),[]⟩,
 ⟨(some 55),none,.q (.val (.tmp 7)),[]⟩,
 ⟨(some 56),none,.q (.idxA 1 (.tmp 54) (.tmp 55)),[]⟩,
 ⟨(some 57),none,.q (.load (.tmp 56)),[]⟩,
 ⟨(some 58),none,.q (.val (.tmp 4)),[]⟩,
 ⟨(some 59),none,.e (.lit [(.int .i64 0)] 1 1 [(0,1,(.tmp 58))]),[]⟩,
 ⟨(some 60),none,.e (.app 1 (.tmp 57) (.tmp 59)),[]⟩,
 ⟨(some 61),none,.q (.idxA 1 (.tmp 52) (.tmp 53)),[]⟩,
 ⟨none,none,.e (.store 1 (.tmp 61) (.tmp 60)),[]⟩])
 .skip))))))
 (.ops [⟨(some 62),none,.q (.bin .add (.tmp 21) (.const (.int .i64 1))),[]⟩,
 ⟨(some 21),none,.q (.val (.tmp 62)),[]⟩])))))))))
 (.ops [⟨(some 63),none,.q (.bin .add (.tmp 14) (.const (.int .i64 1))),[]⟩,
 ⟨(some 14),none,.q (.val (.tmp 63)),[]⟩])))))))
 (.seq (.ops [⟨(some 64),none,.q (.val (.tmp 3)),[]⟩,
 ⟨(some 2),none,.q (.val (.tmp 64)),[]⟩])
 .ret)))),[.tmp 2],65⟩
theorem c_Preds_is:qCd Proofs.Tryz.prog Proofs.Tryz.f36=some qQf:=by kernel_rfl
theorem call_Preds {args:List Value} {H:Heap} {K:Value→Heap→Prop} (hl:args.length≤65) (h:awp Proofs.Tryz.prog qQf.body (qAs qQf.results K) (qBv args) H):qCq Proofs.Tryz.prog 36 args H K :=
  qCp (by kernel_rfl) (by kernel_rfl) c_Preds_is hl h
def qLl:AFn :=
⟨(.seq (.ops [⟨(some 2),none,.q (.val (.const (.slice none 0 0))),[]⟩])
 (.scope 0 (.seq (.ops [⟨(some 12),none,.q (.val (.tmp 0)),[]⟩,
 ⟨(some 13),none,.q (.len (.tmp 12)),[]⟩,
 ⟨(some 3),none,.q (.val (.tmp 13)),[]⟩])
 (.seq (.seq (.ops [⟨(some 14),none,.q (.val (.tmp 3)),[]⟩,
 ⟨(some 15),none,.q (.bin .gtr (.tmp 14) (.const (.int .i64 64))),[]⟩])
 (.cond (.tmp 15)
 (.seq (.ops [⟨(some 2),none,.q (.val (.const (.slice none 0 0))),[]⟩])
 .ret)
 .skip))
 (.seq (.ops [⟨(some 16),none,.q (.val (.tmp 0)),[]⟩,
 ⟨(some 17),none,.call 38 [(.tmp 16)],[]⟩,
 ⟨(some 18),none,.q (.val (.tmp 0)),[]⟩,
 ⟨(some 19),none,.call 36 [(.tmp 18)],[]⟩,
 ⟨(some 4),none,.q (.val (.tmp 17)),[]⟩,
 ⟨(some 5),none,.q (.val (.tmp 19)),[]⟩])
 (.seq (.ops [⟨(some 20),none,.q (.val (.tmp 3)),[]⟩,
 ⟨(some 21),none,.e (.make [(.int .u64 0)] 1 (.tmp 20) (.tmp 20)),[]⟩,
 ⟨(some 6),none,.q (.val (.tmp 21)),[]⟩])
 (.seq (.seq (.ops [⟨(some 22),none,.q (.val (.tmp 6)),[]⟩,
 ⟨(some 23),none,.q (.len (.tmp 22)),[]⟩,
 ⟨(some 24),none,.q (.val (.const (.int .i64 0))),[]⟩])
 (.block 0 (.loop (.seq (.ops [⟨(some 25),none,.q (.bin .lss (.tmp 24) (.tmp 23)),[]⟩])
 (.seq (.cond (.tmp 25)
 .skip
 (.exit 0))
 (.seq (.block 1 (.seq (.ops [⟨(some 26),none,.q (.val (.tmp 24)),[]⟩,
 ⟨(some 7),none,.q (.val (.tmp 26)),[]⟩])
 (.seq (.ops [⟨(some 27),none,.q (.val (.tmp 6)),[]⟩,
 ⟨(some 28),none,.q (.val (.tmp 7)),[]⟩,
 ⟨(some 29),none,.q (.val (.tmp 3)),[]⟩,
 ⟨(some 30),none,.call 78 [(.tmp 29)],[]⟩,
 ⟨(some 31),none,.q (.idxA 1 (.tmp 27) (.tmp 28)),[]⟩,
 ⟨none,none,.e (.store 1 (.tmp 31) (.tmp 30)),[]⟩])
 (.seq (.ops [⟨(some 32),none,.q (.val (.tmp 7)),[]⟩,
 ⟨(some 33),none,.q (.bin .eql (.tmp 32) (.const (.int .i64 0))),[]⟩,
 ⟨(some 34),none,.q (.val (.tmp 33)),[]⟩,
 ⟨(some 35),(some (34,false)),.q (.val (.tmp 4)),[]⟩,
 ⟨(some 36),(some (34,false)),.q (.val (.tmp 7)),[]⟩,
 ⟨(some 37),(some (34,false)),.q (.idxA 1 (.tmp 35) (.tmp 36)),[]⟩,
 ⟨(some 38),(some (34,false)),.q (.load (.tmp 37)),[]⟩,
 ⟨(some 39),(some (34,false)),.q (.not (.tmp 38)),[]⟩,
 ⟨(some 40),none,.q (.pick (.tmp 34) (.const (.bool true)) (.tmp 39)),[]⟩])
 (.cond (.tmp 40)
 (.ops [⟨(some 41),none,.q (.val (.tmp 6)),[]⟩,
 ⟨(some 42),none,.q (.val (.tmp 7)),[]⟩,
 ⟨(some 43),none,.q (.idxA 1 (.tmp 41) (.tmp 42)),[]⟩,
 ⟨none,none,.e (.store 1 (.tmp 43) (.const (.int .u64 0))),[]⟩])
 .skip)))))
 (.ops [⟨(some 44),none,.q (.bin .add (.tmp 24) (.const (.int .i64 1))),[]⟩,
 ⟨(some 24),none,.q (.val (.tmp 44)),[]⟩])))))))
 (.seq (.seq (.ops [⟨(some 45),none,.q (.val (.tmp 3)),[]⟩,
 ⟨(some 46),none,.q (.bin .gtr (.tmp 45) (.const (.int .i64 0))),[]⟩])
 (.cond (.tmp 46)
 (.ops [⟨(some 47),none,.q (.val (.tmp 6)),[]⟩,
 ⟨(some 48),none,.e (.lit [(.int .i64 0)] 1 1 [(0,1,(.const (.int .i64 0)))]),[]⟩,
 ⟨(some 49),none,.call 19 [(.const (.int .u64 0)),(.tmp 48)],[]⟩,
 ⟨(some 50),none,.q (.idxA 1 (.tmp 47) (.const (.int .i64 0))),[]⟩,
 ⟨none,none,.e (.store 1 (.tmp 50) (.tmp 49)),[]⟩])
 .skip))
 (.seq (.label 0)
 (.seq (.seq (.ops [⟨(some 8),none,.q (.val (.const (.int .i64 1))),[]⟩])
 (.block 2 (.loop (.seq (.seq (.ops [⟨(some 51),none,.q (.val (.tmp 8)),[]⟩,
 ⟨(some 52),none,.q (.val (.tmp 3)),[]⟩,
 ⟨(some 53),none,.q (.bin .lss (.tmp 51) (.tmp 52)),[]⟩])
 (.cond (.tmp 53)
 .skip
 (.exit 2)))
 (.seq (.block 3 (.seq (.seq (.ops [⟨(some 56),none,.q (.val (.tmp 4)),[]⟩,
 ⟨(some 57),none,.q (.val (.tmp 8)),[]⟩,
 ⟨(some 58),none,.q (.idxA 1 (.tmp 56) (.tmp 57)),[]⟩,
 ⟨(some 59),none,.q (.load (.tmp 58)),[]⟩,
 ⟨(some 60),none,.q (.not (.tmp 59)),[]⟩])
 (.cond (.tmp 60)
 (.exit 3)
 .skip))
 (.seq (.ops [⟨(some 61),none,.q (.val (.tmp 3)),[]⟩,
 ⟨(some 62),none,.call 78 [(.tmp 61)],[]⟩,
 ⟨(some 9),none,.q (.val (.tmp 62)),[]⟩])
 (.seq (.seq (.ops [⟨(some 63),none,.q (.val (.tmp 5)),[]⟩,
 ⟨(some 64),none,.q (.val (.tmp 8)),[]⟩,
 ⟨(some 65),none,.q (.idxA 1 (.tmp 63) (.tmp 64)),[]⟩,
 ⟨(some 66),none,.q (.load (.tmp 65)),[]⟩,
 ⟨(some 67),none,.q (.len (.tmp 66)),[]⟩,
 ⟨(some 68),none,.q (.val (.const (.int .i64 0))),[]⟩])
 (.block 4 (.loop (.seq (.ops [⟨(some 69),none,.q (.bin .lss (.tmp 68) (.tmp 67)),[]⟩])
 (.seq (.cond (.tmp 69)
 .skip
 (.exit 4))
 (.seq (.block 5 (.seq (.ops [⟨(some 70),none,.q (.idxA 1 (.tmp 66) (.tmp 68)),[]⟩,
 ⟨(some 71),none,.q (.load (.tmp 70)),[]⟩,
 ⟨(some 11),none,.q (.val (.tmp 71)),[]⟩])
 (.seq (.ops [⟨(some 72),none,.q (.val (.tmp 4)),[]⟩,
 ⟨(some 73),none,.q (.val (.tmp 11)),[]⟩,
 ⟨(some 74),none,.q (.idxA 1 (.tmp 72) (.tmp 73)),[]⟩,
 ⟨(some 75),none,.q (.load (.tmp 74)),[]⟩])
 (.cond (.tmp 75)
 (.ops [⟨(some 76),none,.q (.val (.tmp 9)),[]⟩,
 ⟨(some 77),none,.q (.val (.tmp 6)),[]⟩,
 ⟨(some 78),none,.q (.val (.tmp 11)),[]⟩,
 ⟨(some 79),none,.q (.idxA 1 (.tmp 77) (.tmp 78)),[]⟩,
 ⟨(some 80),none,.q (.load (.tmp 79)),[]⟩,
 ⟨(some 81),none,.q (.bin .and (.tmp 76) (.tmp 80)),[]⟩,
 ⟨(some 9),none,.q (.val (.tmp 81)),[]⟩])
 .skip))))
 (.ops [⟨(some 82),none,.q (.bin .add (.tmp 68) (.const (.int .i64 1))),[]⟩,
 ⟨(some 68),none,.q (.val (.tmp 82)),[]⟩])))))))
 (.seq (.ops [⟨(some 83),none,.q (.val (.tmp 9)),[]⟩,
 ⟨(some 84),none,.q (.val (.tmp 8)),[]⟩,
 ⟨(some 85),none,.e (.lit [(.int .i64 0)] 1 1 [(0,1,(.tmp 84))]),[]⟩,
 ⟨(some 86),none,.call 19 [(.tmp 83),(.tmp 85)],[]⟩,
 ⟨(some 9),none,.q (.val (.tmp 86)),[]⟩])
 (.seq (.ops [⟨(some 87),none,.q (.val (.tmp 9)),[]⟩,
 ⟨(some 88),none,.q (.val (.tmp 6)),[]⟩,
 ⟨(some 89),none,.q (.val (.tmp 8)),[]⟩,
 ⟨(some 90),none,.q (.idxA 1 (.tmp 88) (.tmp 89)),[]⟩,
 ⟨(some 91),none,.q (.load (.tmp 90)),[]⟩,
 ⟨(some 92),none,.q (.bin .neq (.tmp 87) (.tmp 91)),[]⟩])
 (.cond (.tmp 92)
 (.seq (.ops [⟨(some 93),none,.q (.val (.tmp 6)),[]⟩,
 ⟨(some 94),none,.q (.val (.tmp 8)),[]⟩,
 ⟨(some 95),none,.q (.val (.tmp 9)),[]⟩,
 ⟨(some 96),none,.q (.idxA 1 (.tmp 93) (.tmp 94)),[]⟩,
 ⟨none,none,.e (.store 1 (.tmp 96) (.tmp 95)),[]⟩])
 (.goto 0))
 .skip)))))))
 (.ops [⟨(some 54),none,.q (.val (.tmp 8)),[]⟩,
 ⟨(some 55),none,.q (.bin .add (.tmp 54) (.const (.int .i64 1))),[]⟩,
 ⟨(some 8),none,.q (.val (.tmp 55)),[]⟩]))))))
 (.seq (.ops [⟨(some 97),none,.q (.val (.tmp 6)),[]⟩,
 ⟨(some 2),none,.q (.val (.tmp 97)),[]⟩])
 .ret)))))))))
 (.seq .skip
 (.seq (.seq (.ops [⟨(some 8),none,.q (.val (.const (.int .i64 1))),[]⟩])
 (.block 2 (.loop (.seq (.seq (.ops [⟨(some 51),none,.q (.val (.tmp 8)),[]⟩,
 ⟨(some 52),none,.q (.val (.tmp 3)),[]⟩,
 ⟨(some 53),none,.q (.bin .lss (.tmp 51) (.tmp 52)),[]⟩])
 (.cond (.tmp 53)
 .skip
 (.exit 2)))
 (.seq (.block 3 (.seq (.seq (.ops [⟨(some 56),none,.q (.val (.tmp 4)),[]⟩,
 ⟨(some 57),none,.q (.val (.tmp 8)),[]⟩,
 ⟨(some 58),none,.q (.idxA 1 (.tmp 56) (.tmp 57)),[]⟩,
 ⟨(some 59),none,.q (.load (.tmp 58)),[]⟩,
 ⟨(some 60),none,.q (.not (.tmp 59)),[]⟩])
 (.cond (.tmp 60)
 (.exit 3)
 .skip))
 (.seq (.ops [⟨(some 61),none,.q (.val (.tmp 3)),[]⟩,
 ⟨(some 62),none,.call 78 [(.tmp 61)],[]⟩,
 ⟨(some 9),none,.q (.val (.tmp 62)),[]⟩])
 (.seq (.seq (.ops [⟨(some 63),none,.q (.val (.tmp 5)),[]⟩,
 ⟨(some 64),none,.q (.val (.tmp 8)),[]⟩,
 ⟨(some 65),none,.q (.idxA 1 (.tmp 63) (.tmp 64)),[]⟩,
 ⟨(some 66),none,.q (.load (.tmp 65)),[]⟩,
 ⟨(some 67),none,.q (.len (.tmp 66)),[]⟩,
 ⟨(some 68),none,.q (.val (.const (.int .i64 0))),[]⟩])
 (.block 4 (.loop (.seq (.ops [⟨(some 69),none,.q (.bin .lss (.tmp 68) (.tmp 67)),[]⟩])
 (.seq (.cond (.tmp 69)
 .skip
 (.exit 4))
 (.seq (.block 5 (.seq (.ops [⟨(some 70),none,.q (.idxA 1 (.tmp 66) (.tmp 68)),[]⟩,
 ⟨(some 71),none,.q (.load (.tmp 70)),[]⟩,
 ⟨(some 11),none,.q (.val (.tmp 71)),[]⟩])
 (.seq (.ops [⟨(some 72),none,.q (.val (.tmp 4)),[]⟩,
 ⟨(some 73),none,.q (.val (.tmp 11)),[]⟩,
 ⟨(some 74),none,.q (.idxA 1 (.tmp 72) (.tmp 73)),[]⟩,
 ⟨(some 75),none,.q (.load (.tmp 74)),[]⟩])
 (.cond (.tmp 75)
 (.ops [⟨(some 76),none,.q (.val (.tmp 9)),[]⟩,
 ⟨(some 77),none,.q (.val (.tmp 6)),[]⟩,
 ⟨(some 78),none,.q (.val (.tmp 11)),[]⟩,
 ⟨(some 79),none,.q (.idxA 1 (.tmp 77) (.tmp 78)),[]⟩,
 ⟨(some 80),none,.q (.load (.tmp 79)),[]⟩,
 ⟨(some 81),none,.q (.bin .and (.tmp 76) (.tmp 80)),[]⟩,
 ⟨(some 9),none,.q (.val (.tmp 81)),[]⟩])
 .skip))))
 (.ops [⟨(some 82),none,.q (.bin .add (.tmp 68) (.const (.int .i64 1))),[]⟩,
 ⟨(some 68),none,.q (.val (.tmp 82)),[]⟩])))))))
 (.seq (.ops [⟨(some 83),none,.q (.val (.tmp 9)),[]⟩,
 ⟨(some 84),none,.q (.val (.tmp 8)),[]⟩,
 ⟨(some 85),none,.e (.lit [(.int .i64 0)] 1 1 [(0,1,(.tmp 84))]),[]⟩,
 ⟨(some 86),none,.call 19 [(.tmp 83),(.tmp 85)],[]⟩,
 ⟨(some 9),none,.q (.val (.tmp 86)),[]⟩])
 (.seq (.ops [⟨(some 87),none,.q (.val (.tmp 9)),[]⟩,
 ⟨(some 88),none,.q (.val (.tmp 6)),[]⟩,
 ⟨(some 89),none,.q (.val (.tmp 8)),[]⟩,
 ⟨(some 90),none,.q (.idxA 1 (.tmp 88) (.tmp 89)),[]⟩,
 ⟨(some 91),none,.q (.load (.tmp 90)),[]⟩,
 ⟨(some 92),none,.q (.bin .neq (.tmp 87) (.tmp 91)),[]⟩])
 (.cond (.tmp 92)
 (.seq (.ops [⟨(some 93),none,.q (.val (.tmp 6)),[]⟩,
 ⟨(some 94),none,.q (.val (.tmp 8)),[]⟩,
 ⟨(some 95),none,.q (.val (.tmp 9)),[]⟩,
 ⟨(some 96),none,.q (.idxA 1 (.tmp 93) (.tmp 94)),[]⟩,
 ⟨none,none,.e (.store 1 (.tmp 96) (.tmp 95)),[]⟩])
 (.goto 0))
 .skip)))))))
 (.ops [⟨(some 54),none,.q (.val (.tmp 8)),[]⟩,
 ⟨(some 55),none,.q (.bin .add (.tmp 54) (.const (.int .i64 1))),[]⟩,
 ⟨(some 8),none,.q (.val (.tmp 55)),[]⟩]))))))
 (.seq (.ops [⟨(some 97),none,.q (.val (.tmp 6)),[]⟩,
 ⟨(some 2),none,.q (.val (.tmp 97)),[]⟩])
 .ret))))),[.tmp 2],98⟩
theorem c_Doms_is:qCd Proofs.Tryz.prog Proofs.Tryz.f37=some qLl:=by kernel_rfl
theorem call_Doms {args:List Value} {H:Heap} {K:Value→Heap→Prop} (hl:args.length≤98) (h:awp Proofs.Tryz.prog qLl.body (qAs qLl.results K) (qBv args) H):qCq Proofs.Tryz.prog 37 args H K :=
  qCp (by kernel_rfl) (by kernel_rfl) c_Doms_is hl h
def c_Succs:AFn :=
⟨(.seq (.ops [⟨(some 2),none,.q (.val (.const (.slice none 0 0))),[]⟩])
 (.seq (.ops [⟨(some 7),none,.q (.val (.tmp 0)),[]⟩,
 ⟨(some 8),none,.q (.len (.tmp 7)),[]⟩,
 ⟨(some 9),none,.e (.make [(.slice none 0 0)] 1 (.tmp 8) (.tmp 8)),[]⟩,
 ⟨(some 3),none,.q (.val (.tmp 9)),[]⟩])
 (.seq (.seq (.ops [⟨(some 10),none,.q (.val (.tmp 0)),[]⟩,
 ⟨(some 11),none,.q (.len (.tmp 10)),[]⟩,
 ⟨(some 12),none,.q (.val (.const (.int .i64 0))),[]⟩])
 (.block 0 (.loop (.seq (.ops [⟨(some 13),none,.q (.bin .lss (.tmp 12) (.tmp 11)),[]⟩])
 (.seq (.cond (.tmp 13)
 .skip
 (.exit 0))
 (.seq (.block 1 (.seq (.ops [⟨(some 14),none,.q (.val (.tmp 12)),[]⟩,
 ⟨(some 15),none,.q (.idxA 4 (.tmp 10) (.tmp 12)),[]⟩,
 ⟨(some 16),none,.q (.loadA 4 (.tmp 15)),[]⟩,
 ⟨(some 5),none,.e (.new [(.int .u8 0),(.int .i64 0),(.int .i64 0),(.int .i64 0)] 4),[]⟩,
 ⟨(some 4),none,.q (.val (.tmp 14)),[]⟩,
 ⟨none,none,.e (.store 4 (.tmp 5) (.tmp 16)),[]⟩])
 (.seq (.ops [⟨(some 17),none,.q (.val (.tmp 4)),[]⟩,
 ⟨(some 18),none,.q (.bin .add (.tmp 17) (.const (.int .i64 1))),[]⟩,
 ⟨(some 19),none,.e (.lit [(.int .i64 0)] 1 1 [(0,1,(.tmp 18))]),[]⟩,
 ⟨(some 6),none,.q (.val (.tmp 19)),[]⟩])
 (.seq (.seq (.ops [⟨(some 20),none,.q (.fieldA 0 (.tmp 5)),[]⟩,
 ⟨(some 21),none,.q (.load (.tmp 20)),[]⟩])
 (.block 2 (.seq (.ops [⟨(some 23),none,.q (.bin .eql (.tmp 21) (.const (.int .u8 10))),[]⟩,
 ⟨(some 22),none,.q (.val (.tmp 23)),[]⟩])
 (.cond (.tmp 22)
 (.ops [⟨(some 24),none,.q (.val (.tmp 6)),[]⟩,
 ⟨(some 25),none,.q (.fieldA 1 (.tmp 5)),[]⟩,
 ⟨(some 26),none,.q (.load (.tmp 25)),[]⟩,
 ⟨(some 27),none,.q (.idxA 1 (.tmp 24) (.const (.int .i64 0))),[]⟩,
 ⟨none,none,.e (.store 1 (.tmp 27) (.tmp 26)),[]⟩])
 (.seq (.ops [⟨(some 29),none,.q (.bin .eql (.tmp 21) (.const (.int .u8 11))),[]⟩,
 ⟨(some 28),none,.q (.val (.tmp 29)),[]⟩])
 (.cond (.tmp 28)
 (.ops [⟨(some 30),none,.q (.val (.tmp 6)),[]⟩,
 ⟨(some 31),none,.q (.fieldA 2 (.tmp 5)),[]⟩,
 ⟨(some 32),none,.q (.load (.tmp 31)),[]⟩,
 ⟨(some 33),none,.e (.lit [(.int .i64 0)] 1 1 [(0,1,(.tmp 32))]),[]⟩,
 ⟨(some 34),none,.e (.app 1 (.tmp 30) (.tmp 33)),[]⟩,
 ⟨(some 6),none,.q (.val (.tmp 34)),[]⟩])
 .skip))))))
 (.seq (.ops [⟨(some 35),none,.q (.val (.tmp 6)),[]⟩,
 ⟨(some 36),none,.call 42 [(.tmp 35)],[]⟩])
 (.ops [⟨(some 37),none,.q (.val (.tmp 3)),[]⟩,
 ⟨(some 38),none,.q (.val (.tmp 4)),[]⟩,
 ⟨(some 39),none,.q (.val (.tmp 6)),[]⟩,
 ⟨(some 40),none,.call 43 [(.tmp 39)],[]⟩,
 ⟨(some 41),none,.q (.idxA 1 (.tmp 37) (.tmp 38)),[]⟩,
 ⟨none,none,.e (.store 1 (.tmp 41) (.tmp 40)),[]⟩]))))))
 (.ops [⟨(some 42),none,.q (.bin .add (.tmp 12) (.const (.int .i64 1))),[]⟩,
 ⟨(some 12),none,.q (.val (.tmp 42)),[]⟩])))))))
 (.seq (.ops [⟨(some 43),none,.q (.val (.tmp 3)),[]⟩,
 ⟨(some 2),none,.q (.val (.tmp 43)),[]⟩])
 .ret)))),[.tmp 2],44⟩
theorem c_Succs_is:qCd Proofs.Tryz.prog Proofs.Tryz.f18=some c_Succs:=by kernel_rfl
theorem call_Succs {args:List Value} {H:Heap} {K:Value→Heap→Prop} (hl:args.length≤44) (h:awp Proofs.Tryz.prog c_Succs.body (qAs c_Succs.results K) (qBv args) H):qCq Proofs.Tryz.prog 18 args H K :=
  qCp (by kernel_rfl) (by kernel_rfl) c_Succs_is hl h
def c_Len64:AFn :=
⟨(.seq (.ops [⟨(some 2),none,.q (.val (.const (.int .i64 0))),[]⟩])
 (.seq (.seq (.ops [⟨(some 3),none,.q (.val (.tmp 0)),[]⟩,
 ⟨(some 4),none,.q (.bin .geq (.tmp 3) (.const (.int .u64 4294967296))),[]⟩])
 (.cond (.tmp 4)
 (.seq (.ops [⟨(some 5),none,.q (.val (.tmp 0)),[]⟩,
 ⟨(some 6),none,.q (.bin .shr (.tmp 5) (.const (.int .u64 32))),[]⟩,
 ⟨(some 0),none,.q (.val (.tmp 6)),[]⟩])
 (.ops [⟨(some 2),none,.q (.val (.const (.int .i64 32))),[]⟩]))
 .skip))
 (.seq (.seq (.ops [⟨(some 7),none,.q (.val (.tmp 0)),[]⟩,
 ⟨(some 8),none,.q (.bin .geq (.tmp 7) (.const (.int .u64 65536))),[]⟩])
 (.cond (.tmp 8)
 (.seq (.ops [⟨(some 9),none,.q (.val (.tmp 0)),[]⟩,
 ⟨(some 10),none,.q (.bin .shr (.tmp 9) (.const (.int .u64 16))),[]⟩,
 ⟨(some 0),none,.q (.val (.tmp 10)),[]⟩])
 (.ops [⟨(some 11),none,.q (.val (.tmp 2)),[]⟩,
 ⟨(some 12),none,.q (.bin .add (.tmp 11) (.const (.int .i64 16))),[]⟩,
 ⟨(some 2),none,.q (.val (.tmp 12)),[]⟩]))
 .skip))
 (.seq (.seq (.ops [⟨(some 13),none,.q (.val (.tmp 0)),[]⟩,
 ⟨(some 14),none,.q (.bin .geq (.tmp 13) (.const (.int .u64 256))),[]⟩])
 (.cond (.tmp 14)
 (.seq (.ops [⟨(some 15),none,.q (.val (.tmp 0)),[]⟩,
 ⟨(some 16),none,.q (.bin .shr (.tmp 15) (.const (.int .u64 8))),[]⟩,
 ⟨(some 0),none,.q (.val (.tmp 16)),[]⟩])
 (.ops [⟨(some 17),none,.q (.val (.tmp 2)),[]⟩,
 ⟨(some 18),none,.q (.bin .add (.tmp 17) (.const (.int .i64 8))),[]⟩,
 ⟨(some 2),none,.q (.val (.tmp 18)),[]⟩]))
 .skip))
 (.seq (.ops [⟨(some 19),none,.q (.val (.tmp 2)),[]⟩,
 ⟨(some 20),none,.q (.val (.tmp 0)),[]⟩,
 ⟨(some 21),none,.q (.conv .u8 (.tmp 20)),[]⟩,
 ⟨(some 22),none,.q (.idxS (.const (.string ⟨#[0,1,2,2,3,3,3,3,4,4,4,4,4,4,4,4,5,5,5,5,5,5,5,5,5,5,5,5,5,5,5,5,6,6,6,6,6,6,6,6,6,6,6,6,6,6,6,6,6,6,6,6,6,6,6,6,6,6,6,6,6,6,6,6,7,7,7,7,7,7,7,7,7,7,7,7,7,7,7,7,7,7,7,7,7,7,7,7,7,7,7,7,7,7,7,7,7,7,7,7,7,7,7,7,7,7,7,7,7,7,7,7,7,7,7,7,7,7,7,7,7,7,7,7,7,7,7,7,8,8,8,8,8,8,8,8,8,8,8,8,8,8,8,8,8,8,8,8,8,8,8,8,8,8,8,8,8,8,8,8,8,8,8,8,8,8,8,8,8,8,8,8,8,8,8,8,8,8,8,8,8,8,8,8,8,8,8,8,8,8,8,8,8,8,8,8,8,8,8,8,8,8,8,8,8,8,8,8,8,8,8,8,8,8,8,8,8,8,8,8,8,8,8,8,8,8,8,8,8,8,8,8,8,8,8,8,8,8,8,8,8,8,8,8,8,8,8,8,8,8,8,8,8,8,8,8]⟩)) (.tmp 21)),[]⟩,
 ⟨(some 23),none,.q (.conv .i64 (.tmp 22)),[]⟩,
 ⟨(some 24),none,.q (.bin .add (.tmp 19) (.tmp 23)),[]⟩,
 ⟨(some 2),none,.q (.val (.tmp 24)),[]⟩])
 .ret))))),[.tmp 2],25⟩
theorem c_Len64_is:qCd Proofs.Tryz.prog Proofs.Tryz.f126=some c_Len64:=by kernel_rfl
theorem call_Len64 {args:List Value} {H:Heap} {K:Value→Heap→Prop} (hl:args.length≤25) (h:awp Proofs.Tryz.prog c_Len64.body (qAs c_Len64.results K) (qBv args) H):qCq Proofs.Tryz.prog 126 args H K :=
  qCp (by kernel_rfl) (by kernel_rfl) c_Len64_is hl h
def qSp:AFn :=
⟨(.seq (.ops [⟨(some 2),none,.q (.val (.const (.int .u64 0))),[]⟩])
 (.seq (.block 0 (.seq (.ops [⟨(some 4),none,.q (.val (.tmp 0)),[]⟩,
 ⟨(some 5),none,.q (.bin .leq (.tmp 4) (.const (.int .i64 0))),[]⟩,
 ⟨(some 3),none,.q (.val (.tmp 5)),[]⟩])
 (.cond (.tmp 3)
 (.seq (.ops [⟨(some 2),none,.q (.val (.const (.int .u64 0))),[]⟩])
 .ret)
 (.seq (.ops [⟨(some 7),none,.q (.val (.tmp 0)),[]⟩,
 ⟨(some 8),none,.q (.bin .geq (.tmp 7) (.const (.int .i64 64))),[]⟩,
 ⟨(some 6),none,.q (.val (.tmp 8)),[]⟩])
 (.cond (.tmp 6)
 (.seq (.ops [⟨(some 2),none,.q (.val (.const (.int .u64 18446744073709551615))),[]⟩])
 .ret)
 .skip)))))
 (.seq (.ops [⟨(some 9),none,.q (.val (.tmp 0)),[]⟩,
 ⟨(some 10),none,.q (.bin .shl (.const (.int .u64 1)) (.tmp 9)),[]⟩,
 ⟨(some 11),none,.q (.bin .sub (.tmp 10) (.const (.int .u64 1))),[]⟩,
 ⟨(some 2),none,.q (.val (.tmp 11)),[]⟩])
 .ret))),[.tmp 2],12⟩
theorem c_All_is:qCd Proofs.Tryz.prog Proofs.Tryz.f78=some qSp:=by kernel_rfl
theorem call_All {args:List Value} {H:Heap} {K:Value→Heap→Prop} (hl:args.length≤12) (h:awp Proofs.Tryz.prog qSp.body (qAs qSp.results K) (qBv args) H):qCq Proofs.Tryz.prog 78 args H K :=
  qCp (by kernel_rfl) (by kernel_rfl) c_All_is hl h
def qSf:AFn :=
⟨(.seq (.ops [⟨(some 4),none,.q (.val (.const (.int .u64 0))),[]⟩])
 (.seq (.seq (.ops [⟨(some 7),none,.q (.val (.tmp 1)),[]⟩,
 ⟨(some 8),none,.q (.len (.tmp 7)),[]⟩,
 ⟨(some 9),none,.q (.val (.const (.int .i64 0))),[]⟩])
 (.block 0 (.loop (.seq (.ops [⟨(some 10),none,.q (.bin .lss (.tmp 9) (.tmp 8)),[]⟩])
 (.seq (.cond (.tmp 10)
 .skip
 (.exit 0))
 (.seq (.block 1 (.seq (.ops [⟨(some 11),none,.q (.idxA 1 (.tmp 7) (.tmp 9)),[]⟩,
 ⟨(some 12),none,.q (.load (.tmp 11)),[]⟩,
 ⟨(some 6),none,.q (.val (.tmp 12)),[]⟩])
 (.ops [⟨(some 13),none,.q (.val (.tmp 0)),[]⟩,
 ⟨(some 14),none,.q (.val (.tmp 6)),[]⟩,
 ⟨(some 15),none,.call 44 [(.tmp 14)],[]⟩,
 ⟨(some 16),none,.q (.bin .or (.tmp 13) (.tmp 15)),[]⟩,
 ⟨(some 0),none,.q (.val (.tmp 16)),[]⟩])))
 (.ops [⟨(some 17),none,.q (.bin .add (.tmp 9) (.const (.int .i64 1))),[]⟩,
 ⟨(some 9),none,.q (.val (.tmp 17)),[]⟩])))))))
 (.seq (.ops [⟨(some 18),none,.q (.val (.tmp 0)),[]⟩,
 ⟨(some 4),none,.q (.val (.tmp 18)),[]⟩])
 .ret))),[.tmp 4],19⟩
theorem c_With_is:qCd Proofs.Tryz.prog Proofs.Tryz.f19=some qSf:=by kernel_rfl
theorem call_With {args:List Value} {H:Heap} {K:Value→Heap→Prop} (hl:args.length≤19) (h:awp Proofs.Tryz.prog qSf.body (qAs qSf.results K) (qBv args) H):qCq Proofs.Tryz.prog 19 args H K :=
  qCp (by kernel_rfl) (by kernel_rfl) c_With_is hl h
def qSo:AFn :=
⟨(.seq (.ops [⟨(some 2),none,.q (.val (.const (.int .u64 0))),[]⟩])
 (.seq (.seq (.ops [⟨(some 3),none,.q (.val (.tmp 0)),[]⟩,
 ⟨(some 4),none,.q (.bin .lss (.tmp 3) (.const (.int .i64 0))),[]⟩,
 ⟨(some 5),none,.q (.val (.tmp 4)),[]⟩,
 ⟨(some 6),(some (5,false)),.q (.val (.tmp 0)),[]⟩,
 ⟨(some 7),(some (5,false)),.q (.bin .geq (.tmp 6) (.const (.int .i64 64))),[]⟩,
 ⟨(some 8),none,.q (.pick (.tmp 5) (.const (.bool true)) (.tmp 7)),[]⟩])
 (.cond (.tmp 8)
 (.seq (.ops [⟨(some 2),none,.q (.val (.const (.int .u64 0))),[]⟩])
 .ret)
 .skip))
 (.seq (.ops [⟨(some 9),none,.q (.val (.tmp 0)),[]⟩,
 ⟨(some 10),none,.q (.bin .shl (.const (.int .u64 1)) (.tmp 9)),[]⟩,
 ⟨(some 2),none,.q (.val (.tmp 10)),[]⟩])
 .ret))),[.tmp 2],11⟩
theorem c_bit_is:qCd Proofs.Tryz.prog Proofs.Tryz.f44=some qSo:=by kernel_rfl
theorem call_bit {args:List Value} {H:Heap} {K:Value→Heap→Prop} (hl:args.length≤11) (h:awp Proofs.Tryz.prog qSo.body (qAs qSo.results K) (qBv args) H):qCq Proofs.Tryz.prog 44 args H K :=
  qCp (by kernel_rfl) (by kernel_rfl) c_bit_is hl h
def c_RSuccs:AFn :=
⟨(.seq (.ops [⟨(some 2),none,.q (.val (.const (.slice none 0 0))),[]⟩])
 (.seq (.ops [⟨(some 3),none,.q (.val (.const (.slice none 0 0))),[]⟩])
 (.seq (.seq (.ops [⟨(some 4),none,.q (.val (.const (.int .i64 0))),[]⟩])
 (.block 0 (.loop (.seq (.seq (.ops [⟨(some 5),none,.q (.val (.tmp 4)),[]⟩,
 ⟨(some 6),none,.q (.val (.tmp 0)),[]⟩,
 ⟨(some 7),none,.q (.len (.tmp 6)),[]⟩,
 ⟨(some 8),none,.q (.bin .lss (.tmp 5) (.tmp 7)),[]⟩])
 (.cond (.tmp 8)
 .skip
 (.exit 0)))
 (.seq (.block 1 (.block 2 (.seq (.ops [⟨(some 18),none,.q (.val (.tmp 0)),[]⟩,
 ⟨(some 19),none,.q (.val (.tmp 4)),[]⟩,
 ⟨(some 20),none,.q (.idxA 4 (.tmp 18) (.tmp 19)),[]⟩,
 ⟨(some 21),none,.q (.fieldA 0 (.tmp 20)),[]⟩,
 ⟨(some 22),none,.q (.load (.tmp 21)),[]⟩,
 ⟨(some 23),none,.q (.bin .eql (.tmp 22) (.const (.int .u8 10))),[]⟩,
 ⟨(some 17),none,.q (.val (.tmp 23)),[]⟩])
 (.cond (.tmp 17)
 (.ops [⟨(some 24),none,.q (.val (.tmp 3)),[]⟩,
 ⟨(some 25),none,.q (.val (.tmp 0)),[]⟩,
 ⟨(some 26),none,.q (.val (.tmp 4)),[]⟩,
 ⟨(some 27),none,.q (.idxA 4 (.tmp 25) (.tmp 26)),[]⟩,
 ⟨(some 28),none,.q (.fieldA 1 (.tmp 27)),[]⟩,
 ⟨(some 29),none,.q (.load (.tmp 28)),[]⟩,
 ⟨(some 30),none,.e (.lit [(.int .i64 0)] 1 1 [(0,1,(.tmp 29))]),[]⟩,
 ⟨(some 31),none,.e (.lit [(.slice none 0 0)] 1 1 [(0,1,(.tmp 30))]),[]⟩,
 ⟨(some 32),none,.e (.app 1 (.tmp 24) (.tmp 31)),[]⟩,
 ⟨(some 3),none,.q (.val (.tmp 32)),[]⟩])
 (.seq (.ops [⟨(some 34),none,.q (.val (.tmp 0)),[]⟩,
 ⟨(some 35),none,.q (.val (.tmp 4)),[]⟩,
 ⟨(some 36),none,.q (.idxA 4 (.tmp 34) (.tmp 35)),[]⟩,
 ⟨(some 37),none,.q (.fieldA 0 (.tmp 36)),[]⟩,
 ⟨(some 38),none,.q (.load (.tmp 37)),[]⟩,
 ⟨(some 39),none,.q (.bin .eql (.tmp 38) (.const (.int .u8 11))),[]⟩,
 ⟨(some 40),none,.q (.val (.tmp 39)),[]⟩,
 ⟨(some 41),(some (40,true)),.q (.val (.tmp 0)),[]⟩,
 ⟨(some 42),(some (40,true)),.q (.val (.tmp 4)),[]⟩,
 ⟨(some 43),(some (40,true)),.q (.idxA 4 (.tmp 41) (.tmp 42)),[]⟩,
 ⟨(some 44),(some (40,true)),.q (.fieldA 2 (.tmp 43)),[]⟩,
 ⟨(some 45),(some (40,true)),.q (.load (.tmp 44)),[]⟩,
 ⟨(some 46),(some (40,true)),.q (.val (.tmp 4)),[]⟩,
 ⟨(some 47),(some (40,true)),.q (.bin .add (.tmp 46) (.const (.int .i64 1))),[]⟩,
 ⟨(some 48),(some (40,true)),.q (.bin .lss (.tmp 45) (.tmp 47)),[]⟩,
 ⟨(some 49),none,.q (.pick (.tmp 40) (.tmp 48) (.const (.bool false))),[]⟩,
 ⟨(some 33),none,.q (.val (.tmp 49)),[]⟩])
 (.cond (.tmp 33)
 (.ops [⟨(some 50),none,.q (.val (.tmp 3)),[]⟩,
 ⟨(some 51),none,.q (.val (.tmp 0)),[]⟩,
 ⟨(some 52),none,.q (.val (.tmp 4)),[]⟩,
 ⟨(some 53),none,.q (.idxA 4 (.tmp 51) (.tmp 52)),[]⟩,
 ⟨(some 54),none,.q (.fieldA 2 (.tmp 53)),[]⟩,
 ⟨(some 55),none,.q (.load (.tmp 54)),[]⟩,
 ⟨(some 56),none,.q (.val (.tmp 4)),[]⟩,
 ⟨(some 57),none,.q (.bin .add (.tmp 56) (.const (.int .i64 1))),[]⟩,
 ⟨(some 58),none,.e (.lit [(.int .i64 0),(.int .i64 0)] 1 2 [(0,1,(.tmp 55)),(1,1,(.tmp 57))]),[]⟩,
 ⟨(some 59),none,.e (.lit [(.slice none 0 0)] 1 1 [(0,1,(.tmp 58))]),[]⟩,
 ⟨(some 60),none,.e (.app 1 (.tmp 50) (.tmp 59)),[]⟩,
 ⟨(some 3),none,.q (.val (.tmp 60)),[]⟩])
 (.seq (.ops [⟨(some 62),none,.q (.val (.tmp 0)),[]⟩,
 ⟨(some 63),none,.q (.val (.tmp 4)),[]⟩,
 ⟨(some 64),none,.q (.idxA 4 (.tmp 62) (.tmp 63)),[]⟩,
 ⟨(some 65),none,.q (.fieldA 0 (.tmp 64)),[]⟩,
 ⟨(some 66),none,.q (.load (.tmp 65)),[]⟩,
 ⟨(some 67),none,.q (.bin .eql (.tmp 66) (.const (.int .u8 11))),[]⟩,
 ⟨(some 68),none,.q (.val (.tmp 67)),[]⟩,
 ⟨(some 69),(some (68,true)),.q (.val (.tmp 0)),[]⟩,
 ⟨(some 70),(some (68,true)),.q (.val (.tmp 4)),[]⟩,
 ⟨(some 71),(some (68,true)),.q (.idxA 4 (.tmp 69) (.tmp 70)),[]⟩,
 ⟨(some 72),(some (68,true)),.q (.fieldA 2 (.tmp 71)),[]⟩,
 ⟨(some 73),(some (68,true)),.q (.load (.tmp 72)),[]⟩,
 ⟨(some 74),(some (68,true)),.q (.val (.tmp 4)),[]⟩,
 ⟨(some 75),(some (68,true)),.q (.bin .add (.tmp 74) (.const (.int .i64 1))),[]⟩,
 ⟨(some 76),(some (68,true)),.q (.bin .gtr (.tmp 73) (.tmp 75)),[]⟩,
 ⟨(some 77),none,.q (.pick (.tmp 68) (.tmp 76) (.const (.bool false))),[]⟩,
 ⟨(some 61),none,.q (.val (.tmp 77)),[]⟩])
 (.cond (.tmp 61)
 (.ops [⟨(some 78),none,.q (.val (.tmp 3)),[]⟩,
 ⟨(some 79),none,.q (.val (.tmp 4)),[]⟩,
 ⟨(some 80),none,.q (.bin .add (.tmp 79) (.const (.int .i64 1))),[]⟩,
 ⟨(some 81),none,.q (.val (.tmp 0)),[]⟩,
 ⟨(some 82),none,.q (.val (.tmp 4)),[]⟩,
 ⟨(some 83),none,.q (.idxA 4 (.tmp 81) (.tmp 82)),[]⟩,
 ⟨(some 84),none,.q (.fieldA 2 (.tmp 83)),[]⟩,
 ⟨(some 85),none,.q (.load (.tmp 84)),[]⟩,
 ⟨(some 86),none,.e (.lit [(.int .i64 0),(.int .i64 0)] 1 2 [(0,1,(.tmp 80)),(1,1,(.tmp 85))]),[]⟩,
 ⟨(some 87),none,.e (.lit [(.slice none 0 0)] 1 1 [(0,1,(.tmp 86))]),[]⟩,
 ⟨(some 88),none,.e (.app 1 (.tmp 78) (.tmp 87)),[]⟩,
 ⟨(some 3),none,.q (.val (.tmp 88)),[]⟩])
 (.ops [⟨(some 11),none,.q (.val (.tmp 3)),[]⟩,
 ⟨(some 12),none,.q (.val (.tmp 4)),[]⟩,
 ⟨(some 13),none,.q (.bin .add (.tmp 12) (.const (.int .i64 1))),[]⟩,
 ⟨(some 14),none,.e (.lit [(.int .i64 0)] 1 1 [(0,1,(.tmp 13))]),[]⟩,
 ⟨(some 15),none,.e (.lit [(.slice none 0 0)] 1 1 [(0,1,(.tmp 14))]),[]⟩,
 ⟨(some 16),none,.e (.app 1 (.tmp 11) (.tmp 15)),[]⟩,
 ⟨(some 3),none,.q (.val (.tmp 16)),[]⟩])))))))))
 (.ops [⟨(some 9),none,.q (.val (.tmp 4)),[]⟩,
 ⟨(some 10),none,.q (.bin .add (.tmp 9) (.const (.int .i64 1))),[]⟩,
 ⟨(some 4),none,.q (.val (.tmp 10)),[]⟩]))))))
 (.seq (.ops [⟨(some 89),none,.q (.val (.tmp 3)),[]⟩,
 ⟨(some 2),none,.q (.val (.tmp 89)),[]⟩])
 .ret)))),[.tmp 2],90⟩
theorem c_RSuccs_is:qCd Proofs.Tryz.prog Proofs.Tryz.f32=some c_RSuccs:=by kernel_rfl
theorem call_RSuccs {args:List Value} {H:Heap} {K:Value→Heap→Prop} (hl:args.length≤90) (h:awp Proofs.Tryz.prog c_RSuccs.body (qAs c_RSuccs.results K) (qBv args) H):qCq Proofs.Tryz.prog 32 args H K :=
  qCp (by kernel_rfl) (by kernel_rfl) c_RSuccs_is hl h
def c_without:AFn :=
⟨(.seq (.ops [⟨(some 4),none,.q (.val (.const (.slice none 0 0))),[]⟩])
 (.seq (.ops [⟨(some 10),none,.q (.val (.tmp 0)),[]⟩,
 ⟨(some 11),none,.q (.len (.tmp 10)),[]⟩,
 ⟨(some 12),none,.e (.make [(.bool false)] 1 (.tmp 11) (.tmp 11)),[]⟩,
 ⟨(some 5),none,.q (.val (.tmp 12)),[]⟩])
 (.seq (.seq (.ops [⟨(some 13),none,.q (.val (.tmp 0)),[]⟩,
 ⟨(some 14),none,.q (.len (.tmp 13)),[]⟩,
 ⟨(some 15),none,.q (.bin .gtr (.tmp 14) (.const (.int .i64 0))),[]⟩,
 ⟨(some 16),none,.q (.val (.tmp 15)),[]⟩,
 ⟨(some 17),(some (16,true)),.q (.val (.tmp 1)),[]⟩,
 ⟨(some 18),(some (16,true)),.q (.bin .neq (.tmp 17) (.const (.int .i64 0))),[]⟩,
 ⟨(some 19),none,.q (.pick (.tmp 16) (.tmp 18) (.const (.bool false))),[]⟩])
 (.cond (.tmp 19)
 (.ops [⟨(some 20),none,.q (.val (.tmp 5)),[]⟩,
 ⟨(some 21),none,.q (.idxA 1 (.tmp 20) (.const (.int .i64 0))),[]⟩,
 ⟨none,none,.e (.store 1 (.tmp 21) (.const (.bool true))),[]⟩])
 .skip))
 (.seq (.seq (.ops [⟨(some 6),none,.q (.val (.const (.bool true))),[]⟩])
 (.block 0 (.loop (.seq (.seq (.ops [⟨(some 22),none,.q (.val (.tmp 6)),[]⟩])
 (.cond (.tmp 22)
 .skip
 (.exit 0)))
 (.block 1 (.seq (.ops [⟨(some 6),none,.q (.val (.const (.bool false))),[]⟩])
 (.seq (.ops [⟨(some 7),none,.q (.val (.const (.int .i64 0))),[]⟩])
 (.block 2 (.loop (.seq (.seq (.ops [⟨(some 23),none,.q (.val (.tmp 7)),[]⟩,
 ⟨(some 24),none,.q (.val (.tmp 0)),[]⟩,
 ⟨(some 25),none,.q (.len (.tmp 24)),[]⟩,
 ⟨(some 26),none,.q (.bin .lss (.tmp 23) (.tmp 25)),[]⟩])
 (.cond (.tmp 26)
 .skip
 (.exit 2)))
 (.seq (.block 3 (.seq (.ops [⟨(some 8),none,.q (.val (.const (.int .i64 0))),[]⟩])
 (.block 4 (.loop (.seq (.seq (.ops [⟨(some 29),none,.q (.val (.tmp 8)),[]⟩,
 ⟨(some 30),none,.q (.val (.tmp 0)),[]⟩,
 ⟨(some 31),none,.q (.val (.tmp 7)),[]⟩,
 ⟨(some 32),none,.q (.idxA 1 (.tmp 30) (.tmp 31)),[]⟩,
 ⟨(some 33),none,.q (.load (.tmp 32)),[]⟩,
 ⟨(some 34),none,.q (.len (.tmp 33)),[]⟩,
 ⟨(some 35),none,.q (.bin .lss (.tmp 29) (.tmp 34)),[]⟩,
 ⟨(some 36),none,.q (.val (.tmp 35)),[]⟩,
 ⟨(some 37),(some (36,true)),.q (.val (.tmp 5)),[]⟩,
 ⟨(some 38),(some (36,true)),.q (.val (.tmp 7)),[]⟩,
 ⟨(some 39),(some (36,true)),.q (.idxA 1 (.tmp 37) (.tmp 38)),[]⟩,
 ⟨(some 40),(some (36,true)),.q (.load (.tmp 39)),[]⟩,
 ⟨(some 41),none,.q (.pick (.tmp 36) (.tmp 40) (.const (.bool false))),[]⟩])
 (.cond (.tmp 41)
 .skip
 (.exit 4)))
 (.seq (.block 5 (.seq (.ops [⟨(some 44),none,.q (.val (.tmp 0)),[]⟩,
 ⟨(some 45),none,.q (.val (.tmp 7)),[]⟩,
 ⟨(some 46),none,.q (.idxA 1 (.tmp 44) (.tmp 45)),[]⟩,
 ⟨(some 47),none,.q (.load (.tmp 46)),[]⟩,
 ⟨(some 48),none,.q (.val (.tmp 8)),[]⟩,
 ⟨(some 49),none,.q (.idxA 1 (.tmp 47) (.tmp 48)),[]⟩,
 ⟨(some 50),none,.q (.load (.tmp 49)),[]⟩,
 ⟨(some 9),none,.q (.val (.tmp 50)),[]⟩])
 (.seq (.ops [⟨(some 51),none,.q (.val (.tmp 9)),[]⟩,
 ⟨(some 52),none,.q (.bin .geq (.tmp 51) (.const (.int .i64 0))),[]⟩,
 ⟨(some 53),none,.q (.val (.tmp 52)),[]⟩,
 ⟨(some 54),(some (53,true)),.q (.val (.tmp 9)),[]⟩,
 ⟨(some 55),(some (53,true)),.q (.val (.tmp 0)),[]⟩,
 ⟨(some 56),(some (53,true)),.q (.len (.tmp 55)),[]⟩,
 ⟨(some 57),(some (53,true)),.q (.bin .lss (.tmp 54) (.tmp 56)),[]⟩,
 ⟨(some 58),none,.q (.pick (.tmp 53) (.tmp 57) (.const (.bool false))),[]⟩,
 ⟨(some 59),none,.q (.val (.tmp 58)),[]⟩,
 ⟨(some 60),(some (59,true)),.q (.val (.tmp 9)),[]⟩,
 ⟨(some 61),(some (59,true)),.q (.val (.tmp 1)),[]⟩,
 ⟨(some 62),(some (59,true)),.q (.bin .neq (.tmp 60) (.tmp 61)),[]⟩,
 ⟨(some 63),none,.q (.pick (.tmp 59) (.tmp 62) (.const (.bool false))),[]⟩,
 ⟨(some 64),none,.q (.val (.tmp 63)),[]⟩,
 ⟨(some 65),(some (64,true)),.q (.val (.tmp 5)),[]⟩,
 ⟨(some 66),(some (64,true)),.q (.val (.tmp 9)),[]⟩,
 ⟨(some 67),(some (64,true)),.q (.idxA 1 (.tmp 65) (.tmp 66)),[]⟩,
 ⟨(some 68),(some (64,true)),.q (.load (.tmp 67)),[]⟩,
 ⟨(some 69),(some (64,true)),.q (.not (.tmp 68)),[]⟩,
 ⟨(some 70),none,.q (.pick (.tmp 64) (.tmp 69) (.const (.bool false))),[]⟩])
 (.cond (.tmp 70)
 (.seq (.ops [⟨(some 71),none,.q (.val (.tmp 5)),[]⟩,
 ⟨(some 72),none,.q (.val (.tmp 9)),[]⟩,
 ⟨(some 73),none,.q (.idxA 1 (.tmp 71) (.tmp 72)),[]⟩,
 ⟨none,none,.e (.store 1 (.tmp 73) (.const (.bool true))),[]⟩])
 (.ops [⟨(some 6),none,.q (.val (.const (.bool true))),[]⟩]))
 .skip))))
 (.ops [⟨(some 42),none,.q (.val (.tmp 8)),[]⟩,
 ⟨(some 43),none,.q (.bin .add (.tmp 42) (.const (.int .i64 1))),[]⟩,
 ⟨(some 8),none,.q (.val (.tmp 43)),[]⟩])))))))
 (.ops [⟨(some 27),none,.q (.val (.tmp 7)),[]⟩,
 ⟨(some 28),none,.q (.bin .add (.tmp 27) (.const (.int .i64 1))),[]⟩,
 ⟨(some 7),none,.q (.val (.tmp 28)),[]⟩]))))))))))))
 (.seq (.ops [⟨(some 74),none,.q (.val (.tmp 5)),[]⟩,
 ⟨(some 4),none,.q (.val (.tmp 74)),[]⟩])
 .ret))))),[.tmp 4],75⟩
theorem c_without_is:qCd Proofs.Tryz.prog Proofs.Tryz.f108=some c_without:=by kernel_rfl
theorem call_without {args:List Value} {H:Heap} {K:Value→Heap→Prop} (hl:args.length≤75) (h:awp Proofs.Tryz.prog c_without.body (qAs c_without.results K) (qBv args) H):qCq Proofs.Tryz.prog 108 args H K :=
  qCp (by kernel_rfl) (by kernel_rfl) c_without_is hl h
def c_RReach:AFn :=
⟨(.seq (.ops [⟨(some 2),none,.q (.val (.const (.slice none 0 0))),[]⟩])
 (.seq (.ops [⟨(some 3),none,.q (.val (.tmp 0)),[]⟩,
 ⟨(some 4),none,.call 108 [(.tmp 3),(.const (.int .i64 (-1)))],[]⟩,
 ⟨(some 2),none,.q (.val (.tmp 4)),[]⟩])
 .ret)),[.tmp 2],5⟩
theorem c_RReach_is:qCd Proofs.Tryz.prog Proofs.Tryz.f69=some c_RReach:=by kernel_rfl
theorem call_RReach {args:List Value} {H:Heap} {K:Value→Heap→Prop} (hl:args.length≤5) (h:awp Proofs.Tryz.prog c_RReach.body (qAs c_RReach.results K) (qBv args) H):qCq Proofs.Tryz.prog 69 args H K :=
  qCp (by kernel_rfl) (by kernel_rfl) c_RReach_is hl h
def c_RDoms:AFn :=
⟨(.seq (.ops [⟨(some 2),none,.q (.val (.const (.slice none 0 0))),[]⟩])
 (.seq (.seq (.ops [⟨(some 8),none,.q (.val (.tmp 0)),[]⟩,
 ⟨(some 9),none,.q (.len (.tmp 8)),[]⟩,
 ⟨(some 10),none,.q (.bin .gtr (.tmp 9) (.const (.int .i64 64))),[]⟩])
 (.cond (.tmp 10)
 (.seq (.ops [⟨(some 2),none,.q (.val (.const (.slice none 0 0))),[]⟩])
 .ret)
 .skip))
 (.seq (.ops [⟨(some 11),none,.q (.val (.tmp 0)),[]⟩,
 ⟨(some 12),none,.call 69 [(.tmp 11)],[]⟩,
 ⟨(some 3),none,.q (.val (.tmp 12)),[]⟩])
 (.seq (.ops [⟨(some 13),none,.q (.val (.tmp 0)),[]⟩,
 ⟨(some 14),none,.q (.len (.tmp 13)),[]⟩,
 ⟨(some 15),none,.e (.make [(.int .u64 0)] 1 (.tmp 14) (.tmp 14)),[]⟩,
 ⟨(some 4),none,.q (.val (.tmp 15)),[]⟩])
 (.seq (.seq (.ops [⟨(some 5),none,.q (.val (.const (.int .i64 0))),[]⟩])
 (.block 0 (.loop (.seq (.seq (.ops [⟨(some 16),none,.q (.val (.tmp 5)),[]⟩,
 ⟨(some 17),none,.q (.val (.tmp 0)),[]⟩,
 ⟨(some 18),none,.q (.len (.tmp 17)),[]⟩,
 ⟨(some 19),none,.q (.bin .lss (.tmp 16) (.tmp 18)),[]⟩])
 (.cond (.tmp 19)
 .skip
 (.exit 0)))
 (.seq (.block 1 (.seq (.ops [⟨(some 22),none,.q (.val (.tmp 0)),[]⟩,
 ⟨(some 23),none,.q (.val (.tmp 5)),[]⟩,
 ⟨(some 24),none,.call 108 [(.tmp 22),(.tmp 23)],[]⟩,
 ⟨(some 6),none,.q (.val (.tmp 24)),[]⟩])
 (.seq (.ops [⟨(some 7),none,.q (.val (.const (.int .i64 0))),[]⟩])
 (.block 2 (.loop (.seq (.seq (.ops [⟨(some 25),none,.q (.val (.tmp 7)),[]⟩,
 ⟨(some 26),none,.q (.val (.tmp 0)),[]⟩,
 ⟨(some 27),none,.q (.len (.tmp 26)),[]⟩,
 ⟨(some 28),none,.q (.bin .lss (.tmp 25) (.tmp 27)),[]⟩])
 (.cond (.tmp 28)
 .skip
 (.exit 2)))
 (.seq (.block 3 (.seq (.ops [⟨(some 31),none,.q (.val (.tmp 3)),[]⟩,
 ⟨(some 32),none,.q (.val (.tmp 7)),[]⟩,
 ⟨(some 33),none,.q (.idxA 1 (.tmp 31) (.tmp 32)),[]⟩,
 ⟨(some 34),none,.q (.load (.tmp 33)),[]⟩,
 ⟨(some 35),none,.q (.val (.tmp 34)),[]⟩,
 ⟨(some 36),(some (35,true)),.q (.val (.tmp 6)),[]⟩,
 ⟨(some 37),(some (35,true)),.q (.val (.tmp 7)),[]⟩,
 ⟨(some 38),(some (35,true)),.q (.idxA 1 (.tmp 36) (.tmp 37)),[]⟩,
 ⟨(some 39),(some (35,true)),.q (.load (.tmp 38)),[]⟩,
 ⟨(some 40),(some (35,true)),.q (.not (.tmp 39)),[]⟩,
 ⟨(some 41),none,.q (.pick (.tmp 35) (.tmp 40) (.const (.bool false))),[]⟩])
 (.cond (.tmp 41)
 (.ops [⟨(some 42),none,.q (.val (.tmp 4)),[]⟩,
 ⟨(some 43),none,.q (.val (.tmp 7)),[]⟩,
 ⟨(some 44),none,.q (.val (.tmp 4)),[]⟩,
 ⟨(some 45),none,.q (.val (.tmp 7)),[]⟩,
 ⟨(some 46),none,.q (.idxA 1 (.tmp 44) (.tmp 45)),[]⟩,
 ⟨(some 47),none,.q (.load (.tmp 46)),[]⟩,
 ⟨(some 48),none,.q (.val (.tmp 5)),[]⟩,
 ⟨(some 49),none,.e (.lit [(.int .i64 0)] 1 1 [(0,1,(.tmp 48))]),[]⟩,
 ⟨(some 50),none,.call 109 [(.tmp 47),(.tmp 49)],[]⟩,
 ⟨(some 51),none,.q (.idxA 1 (.tmp 42) (.tmp 43)),[]⟩,
 ⟨none,none,.e (.store 1 (.tmp 51) (.tmp 50)),[]⟩])
 .skip)))
 (.ops [⟨(some 29),none,.q (.val (.tmp 7)),[]⟩,
 ⟨(some 30),none,.q (.bin .add (.tmp 29) (.const (.int .i64 1))),[]⟩,
 ⟨(some 7),none,.q (.val (.tmp 30)),[]⟩]))))))))
 (.ops [⟨(some 20),none,.q (.val (.tmp 5)),[]⟩,
 ⟨(some 21),none,.q (.bin .add (.tmp 20) (.const (.int .i64 1))),[]⟩,
 ⟨(some 5),none,.q (.val (.tmp 21)),[]⟩]))))))
 (.seq (.ops [⟨(some 52),none,.q (.val (.tmp 4)),[]⟩,
 ⟨(some 2),none,.q (.val (.tmp 52)),[]⟩])
 .ret)))))),[.tmp 2],53⟩
theorem c_RDoms_is:qCd Proofs.Tryz.prog Proofs.Tryz.f68=some c_RDoms:=by kernel_rfl
theorem call_RDoms {args:List Value} {H:Heap} {K:Value→Heap→Prop} (hl:args.length≤53) (h:awp Proofs.Tryz.prog c_RDoms.body (qAs c_RDoms.results K) (qBv args) H):qCq Proofs.Tryz.prog 68 args H K :=
  qCp (by kernel_rfl) (by kernel_rfl) c_RDoms_is hl h
def c_RSame01:AFn :=
⟨(.seq (.ops [⟨(some 4),none,.q (.val (.const (.bool false))),[]⟩])
 (.seq (.seq (.ops [⟨(some 6),none,.q (.val (.tmp 0)),[]⟩,
 ⟨(some 7),none,.q (.len (.tmp 6)),[]⟩,
 ⟨(some 8),none,.q (.val (.tmp 1)),[]⟩,
 ⟨(some 9),none,.q (.len (.tmp 8)),[]⟩,
 ⟨(some 10),none,.q (.bin .neq (.tmp 7) (.tmp 9)),[]⟩])
 (.cond (.tmp 10)
 (.seq (.ops [⟨(some 4),none,.q (.val (.const (.bool false))),[]⟩])
 .ret)
 .skip))
 (.seq (.seq (.ops [⟨(some 5),none,.q (.val (.const (.int .i64 0))),[]⟩])
 (.block 0 (.loop (.seq (.seq (.ops [⟨(some 11),none,.q (.val (.tmp 5)),[]⟩,
 ⟨(some 12),none,.q (.val (.tmp 0)),[]⟩,
 ⟨(some 13),none,.q (.len (.tmp 12)),[]⟩,
 ⟨(some 14),none,.q (.bin .lss (.tmp 11) (.tmp 13)),[]⟩])
 (.cond (.tmp 14)
 .skip
 (.exit 0)))
 (.seq (.block 1 (.seq (.ops [⟨(some 17),none,.q (.val (.tmp 0)),[]⟩,
 ⟨(some 18),none,.q (.val (.tmp 5)),[]⟩,
 ⟨(some 19),none,.q (.idxA 1 (.tmp 17) (.tmp 18)),[]⟩,
 ⟨(some 20),none,.q (.load (.tmp 19)),[]⟩,
 ⟨(some 21),none,.q (.val (.tmp 1)),[]⟩,
 ⟨(some 22),none,.q (.val (.tmp 5)),[]⟩,
 ⟨(some 23),none,.q (.idxA 1 (.tmp 21) (.tmp 22)),[]⟩,
 ⟨(some 24),none,.q (.load (.tmp 23)),[]⟩,
 ⟨(some 25),none,.q (.bin .neq (.tmp 20) (.tmp 24)),[]⟩])
 (.cond (.tmp 25)
 (.seq (.ops [⟨(some 4),none,.q (.val (.const (.bool false))),[]⟩])
 .ret)
 .skip)))
 (.ops [⟨(some 15),none,.q (.val (.tmp 5)),[]⟩,
 ⟨(some 16),none,.q (.bin .add (.tmp 15) (.const (.int .i64 1))),[]⟩,
 ⟨(some 5),none,.q (.val (.tmp 16)),[]⟩]))))))
 (.seq (.ops [⟨(some 4),none,.q (.val (.const (.bool true))),[]⟩])
 .ret)))),[.tmp 4],26⟩
theorem c_RSame01_is:qCd Proofs.Tryz.prog Proofs.Tryz.f16=some c_RSame01:=by kernel_rfl
theorem call_RSame01 {args:List Value} {H:Heap} {K:Value→Heap→Prop} (hl:args.length≤26) (h:awp Proofs.Tryz.prog c_RSame01.body (qAs c_RSame01.results K) (qBv args) H):qCq Proofs.Tryz.prog 16 args H K :=
  qCp (by kernel_rfl) (by kernel_rfl) c_RSame01_is hl h
def c_RWith:AFn :=
⟨(.seq (.ops [⟨(some 4),none,.q (.val (.const (.int .u64 0))),[]⟩])
 (.seq (.seq (.ops [⟨(some 5),none,.q (.val (.const (.int .i64 0))),[]⟩])
 (.block 0 (.loop (.seq (.seq (.ops [⟨(some 6),none,.q (.val (.tmp 5)),[]⟩,
 ⟨(some 7),none,.q (.val (.tmp 1)),[]⟩,
 ⟨(some 8),none,.q (.len (.tmp 7)),[]⟩,
 ⟨(some 9),none,.q (.bin .lss (.tmp 6) (.tmp 8)),[]⟩])
 (.cond (.tmp 9)
 .skip
 (.exit 0)))
 (.seq (.block 1 (.seq (.ops [⟨(some 12),none,.q (.val (.tmp 1)),[]⟩,
 ⟨(some 13),none,.q (.val (.tmp 5)),[]⟩,
 ⟨(some 14),none,.q (.idxA 1 (.tmp 12) (.tmp 13)),[]⟩,
 ⟨(some 15),none,.q (.load (.tmp 14)),[]⟩,
 ⟨(some 16),none,.q (.bin .geq (.tmp 15) (.const (.int .i64 0))),[]⟩,
 ⟨(some 17),none,.q (.val (.tmp 16)),[]⟩,
 ⟨(some 18),(some (17,true)),.q (.val (.tmp 1)),[]⟩,
 ⟨(some 19),(some (17,true)),.q (.val (.tmp 5)),[]⟩,
 ⟨(some 20),(some (17,true)),.q (.idxA 1 (.tmp 18) (.tmp 19)),[]⟩,
 ⟨(some 21),(some (17,true)),.q (.load (.tmp 20)),[]⟩,
 ⟨(some 22),(some (17,true)),.q (.bin .lss (.tmp 21) (.const (.int .i64 64))),[]⟩,
 ⟨(some 23),none,.q (.pick (.tmp 17) (.tmp 22) (.const (.bool false))),[]⟩,
 ⟨(some 24),none,.q (.val (.tmp 23)),[]⟩,
 ⟨(some 25),(some (24,true)),.q (.val (.tmp 0)),[]⟩,
 ⟨(some 26),(some (24,true)),.q (.val (.tmp 1)),[]⟩,
 ⟨(some 27),(some (24,true)),.q (.val (.tmp 5)),[]⟩,
 ⟨(some 28),(some (24,true)),.q (.idxA 1 (.tmp 26) (.tmp 27)),[]⟩,
 ⟨(some 29),(some (24,true)),.q (.load (.tmp 28)),[]⟩,
 ⟨(some 30),(some (24,true)),.call 74 [(.tmp 25),(.tmp 29)],[]⟩,
 ⟨(some 31),(some (24,true)),.q (.not (.tmp 30)),[]⟩,
 ⟨(some 32),none,.q (.pick (.tmp 24) (.tmp 31) (.const (.bool false))),[]⟩])
 (.cond (.tmp 32)
 (.ops [⟨(some 33),none,.q (.val (.tmp 0)),[]⟩,
 ⟨(some 34),none,.q (.val (.tmp 1)),[]⟩,
 ⟨(some 35),none,.q (.val (.tmp 5)),[]⟩,
 ⟨(some 36),none,.q (.idxA 1 (.tmp 34) (.tmp 35)),[]⟩,
 ⟨(some 37),none,.q (.load (.tmp 36)),[]⟩,
 ⟨(some 38),none,.call 111 [(.tmp 37)],[]⟩,
 ⟨(some 39),none,.q (.bin .add (.tmp 33) (.tmp 38)),[]⟩,
 ⟨(some 0),none,.q (.val (.tmp 39)),[]⟩])
 .skip)))
 (.ops [⟨(some 10),none,.q (.val (.tmp 5)),[]⟩,
 ⟨(some 11),none,.q (.bin .add (.tmp 10) (.const (.int .i64 1))),[]⟩,
 ⟨(some 5),none,.q (.val (.tmp 11)),[]⟩]))))))
 (.seq (.ops [⟨(some 40),none,.q (.val (.tmp 0)),[]⟩,
 ⟨(some 4),none,.q (.val (.tmp 40)),[]⟩])
 .ret))),[.tmp 4],41⟩
theorem c_RWith_is:qCd Proofs.Tryz.prog Proofs.Tryz.f109=some c_RWith:=by kernel_rfl
theorem call_RWith {args:List Value} {H:Heap} {K:Value→Heap→Prop} (hl:args.length≤41) (h:awp Proofs.Tryz.prog c_RWith.body (qAs c_RWith.results K) (qBv args) H):qCq Proofs.Tryz.prog 109 args H K :=
  qCp (by kernel_rfl) (by kernel_rfl) c_RWith_is hl h
def qTy:AFn :=
⟨(.seq (.ops [⟨(some 2),none,.q (.val (.const (.int .u64 0))),[]⟩])
 (.seq (.ops [⟨(some 3),none,.q (.val (.const (.int .u64 1))),[]⟩])
 (.seq (.seq (.ops [⟨(some 4),none,.q (.val (.const (.int .i64 0))),[]⟩])
 (.block 0 (.loop (.seq (.seq (.ops [⟨(some 5),none,.q (.val (.tmp 4)),[]⟩,
 ⟨(some 6),none,.q (.val (.tmp 0)),[]⟩,
 ⟨(some 7),none,.q (.bin .lss (.tmp 5) (.tmp 6)),[]⟩])
 (.cond (.tmp 7)
 .skip
 (.exit 0)))
 (.seq (.block 1 (.ops [⟨(some 10),none,.q (.val (.tmp 3)),[]⟩,
 ⟨(some 11),none,.q (.bin .mul (.const (.int .u64 2)) (.tmp 10)),[]⟩,
 ⟨(some 3),none,.q (.val (.tmp 11)),[]⟩]))
 (.ops [⟨(some 8),none,.q (.val (.tmp 4)),[]⟩,
 ⟨(some 9),none,.q (.bin .add (.tmp 8) (.const (.int .i64 1))),[]⟩,
 ⟨(some 4),none,.q (.val (.tmp 9)),[]⟩]))))))
 (.seq (.ops [⟨(some 12),none,.q (.val (.tmp 3)),[]⟩,
 ⟨(some 2),none,.q (.val (.tmp 12)),[]⟩])
 .ret)))),[.tmp 2],13⟩
theorem c_two_is:qCd Proofs.Tryz.prog Proofs.Tryz.f111=some qTy:=by kernel_rfl
theorem call_two {args:List Value} {H:Heap} {K:Value→Heap→Prop} (hl:args.length≤13) (h:awp Proofs.Tryz.prog qTy.body (qAs qTy.results K) (qBv args) H):qCq Proofs.Tryz.prog 111 args H K :=
  qCp (by kernel_rfl) (by kernel_rfl) c_two_is hl h
def c_RHas:AFn :=
⟨(.seq (.ops [⟨(some 4),none,.q (.val (.const (.bool false))),[]⟩])
 (.seq (.ops [⟨(some 5),none,.q (.val (.tmp 1)),[]⟩,
 ⟨(some 6),none,.q (.bin .geq (.tmp 5) (.const (.int .i64 0))),[]⟩,
 ⟨(some 7),none,.q (.val (.tmp 6)),[]⟩,
 ⟨(some 8),(some (7,true)),.q (.val (.tmp 1)),[]⟩,
 ⟨(some 9),(some (7,true)),.q (.bin .lss (.tmp 8) (.const (.int .i64 64))),[]⟩,
 ⟨(some 10),none,.q (.pick (.tmp 7) (.tmp 9) (.const (.bool false))),[]⟩,
 ⟨(some 11),none,.q (.val (.tmp 10)),[]⟩,
 ⟨(some 12),(some (11,true)),.q (.val (.tmp 0)),[]⟩,
 ⟨(some 13),(some (11,true)),.q (.val (.tmp 1)),[]⟩,
 ⟨(some 14),(some (11,true)),.call 111 [(.tmp 13)],[]⟩,
 ⟨(some 15),(some (11,true)),.q (.bin .quo (.tmp 12) (.tmp 14)),[]⟩,
 ⟨(some 16),(some (11,true)),.q (.bin .rem (.tmp 15) (.const (.int .u64 2))),[]⟩,
 ⟨(some 17),(some (11,true)),.q (.bin .eql (.tmp 16) (.const (.int .u64 1))),[]⟩,
 ⟨(some 18),none,.q (.pick (.tmp 11) (.tmp 17) (.const (.bool false))),[]⟩,
 ⟨(some 4),none,.q (.val (.tmp 18)),[]⟩])
 .ret)),[.tmp 4],19⟩
theorem c_RHas_is:qCd Proofs.Tryz.prog Proofs.Tryz.f74=some c_RHas:=by kernel_rfl
theorem call_RHas {args:List Value} {H:Heap} {K:Value→Heap→Prop} (hl:args.length≤19) (h:awp Proofs.Tryz.prog c_RHas.body (qAs c_RHas.results K) (qBv args) H):qCq Proofs.Tryz.prog 74 args H K :=
  qCp (by kernel_rfl) (by kernel_rfl) c_RHas_is hl h
def c_Make:AFn :=
⟨(.seq (.ops [⟨(some 2),none,.e (.new [(.int .i64 0),(.int .i64 0),(.int .i64 0),(.slice none 0 0),(.int .i64 0),(.int .i64 0),(.slice none 0 0)] 7),[]⟩])
 (.seq (.ops [⟨(some 12),none,.e (.lit [(.int .i64 0)] 1 1 [(0,1,(.const (.int .i64 1)))]),[]⟩,
 ⟨(some 13),none,.q (.build [(.int .i64 0),(.int .i64 0),(.int .i64 0),(.slice none 0 0),(.int .i64 0),(.int .i64 0),(.slice none 0 0)] [(0,1,(.const (.int .i64 2))),(1,1,(.const (.int .i64 1))),(2,1,(.const (.int .i64 1))),(3,1,(.tmp 12)),(4,1,(.const (.int .i64 1))),(5,1,(.const (.int .i64 1)))]),[]⟩,
 ⟨(some 3),none,.e (.new [(.int .i64 0),(.int .i64 0),(.int .i64 0),(.slice none 0 0),(.int .i64 0),(.int .i64 0),(.slice none 0 0)] 7),[]⟩,
 ⟨none,none,.e (.store 7 (.tmp 3) (.tmp 13)),[]⟩])
 (.seq (.ops [⟨(some 14),none,.q (.val (.tmp 0)),[]⟩,
 ⟨(some 15),none,.q (.len (.tmp 14)),[]⟩,
 ⟨(some 16),none,.q (.mm false (.tmp 15) [(.const (.int .i64 3))]),[]⟩,
 ⟨(some 17),none,.q (.mm true (.tmp 16) [(.const (.int .i64 1))]),[]⟩,
 ⟨(some 4),none,.q (.val (.tmp 17)),[]⟩])
 (.seq (.seq (.ops [⟨(some 5),none,.q (.val (.const (.int .i64 0))),[]⟩])
 (.block 0 (.loop (.seq (.seq (.ops [⟨(some 18),none,.q (.val (.tmp 5)),[]⟩,
 ⟨(some 19),none,.q (.val (.tmp 4)),[]⟩,
 ⟨(some 20),none,.q (.bin .lss (.tmp 18) (.tmp 19)),[]⟩])
 (.cond (.tmp 20)
 .skip
 (.exit 0)))
 (.seq (.block 1 (.seq (.ops [⟨(some 6),none,.q (.val (.const (.slice none 0 0))),[]⟩])
 (.seq (.seq (.ops [⟨(some 7),none,.q (.val (.const (.int .i64 1))),[]⟩])
 (.block 2 (.loop (.seq (.seq (.ops [⟨(some 23),none,.q (.val (.tmp 7)),[]⟩,
 ⟨(some 24),none,.q (.val (.tmp 4)),[]⟩,
 ⟨(some 25),none,.q (.bin .lss (.tmp 23) (.tmp 24)),[]⟩,
 ⟨(some 26),none,.q (.val (.tmp 25)),[]⟩,
 ⟨(some 27),(some (26,true)),.q (.val (.tmp 5)),[]⟩,
 ⟨(some 28),(some (26,true)),.q (.bin .eql (.tmp 27) (.const (.int .i64 0))),[]⟩,
 ⟨(some 29),none,.q (.pick (.tmp 26) (.tmp 28) (.const (.bool false))),[]⟩])
 (.cond (.tmp 29)
 .skip
 (.exit 2)))
 (.seq (.block 3 (.ops [⟨(some 32),none,.q (.val (.tmp 6)),[]⟩,
 ⟨(some 33),none,.q (.val (.tmp 7)),[]⟩,
 ⟨(some 34),none,.q (.build [(.int .u8 0),(.int .i64 0),(.int .i64 0),(.int .i64 0)] [(0,1,(.const (.int .u8 12))),(1,1,(.tmp 33))]),[]⟩,
 ⟨(some 35),none,.e (.lit [(.int .u8 0),(.int .i64 0),(.int .i64 0),(.int .i64 0)] 4 1 [(0,4,(.tmp 34))]),[]⟩,
 ⟨(some 36),none,.e (.app 4 (.tmp 32) (.tmp 35)),[]⟩,
 ⟨(some 6),none,.q (.val (.tmp 36)),[]⟩]))
 (.ops [⟨(some 30),none,.q (.val (.tmp 7)),[]⟩,
 ⟨(some 31),none,.q (.bin .add (.tmp 30) (.const (.int .i64 1))),[]⟩,
 ⟨(some 7),none,.q (.val (.tmp 31)),[]⟩]))))))
 (.seq (.ops [⟨(some 37),none,.q (.val (.tmp 6)),[]⟩,
 ⟨(some 38),none,.q (.len (.tmp 37)),[]⟩,
 ⟨(some 8),none,.q (.val (.tmp 38)),[]⟩])
 (.seq (.ops [⟨(some 9),none,.q (.val (.const (.slice none 0 0))),[]⟩])
 (.seq (.seq (.ops [⟨(some 39),none,.q (.val (.tmp 5)),[]⟩,
 ⟨(some 40),none,.q (.val (.tmp 0)),[]⟩,
 ⟨(some 41),none,.q (.len (.tmp 40)),[]⟩,
 ⟨(some 42),none,.q (.bin .lss (.tmp 39) (.tmp 41)),[]⟩])
 (.cond (.tmp 42)
 (.ops [⟨(some 43),none,.q (.val (.tmp 0)),[]⟩,
 ⟨(some 44),none,.q (.val (.tmp 5)),[]⟩,
 ⟨(some 45),none,.q (.idxA 1 (.tmp 43) (.tmp 44)),[]⟩,
 ⟨(some 46),none,.q (.load (.tmp 45)),[]⟩,
 ⟨(some 9),none,.q (.val (.tmp 46)),[]⟩])
 .skip))
 (.seq (.ops [⟨(some 47),none,.q (.val (.tmp 9)),[]⟩,
 ⟨(some 48),none,.q (.len (.tmp 47)),[]⟩,
 ⟨(some 49),none,.q (.bin .quo (.tmp 48) (.const (.int .i64 2))),[]⟩,
 ⟨(some 50),none,.q (.mm false (.tmp 49) [(.const (.int .i64 9))]),[]⟩,
 ⟨(some 10),none,.q (.val (.tmp 50)),[]⟩])
 (.seq (.seq (.ops [⟨(some 11),none,.q (.val (.const (.int .i64 0))),[]⟩])
 (.block 4 (.loop (.seq (.seq (.ops [⟨(some 51),none,.q (.val (.tmp 11)),[]⟩,
 ⟨(some 52),none,.q (.val (.tmp 10)),[]⟩,
 ⟨(some 53),none,.q (.bin .lss (.tmp 51) (.tmp 52)),[]⟩])
 (.cond (.tmp 53)
 .skip
 (.exit 4)))
 (.seq (.block 5 (.ops [⟨(some 56),none,.q (.val (.tmp 6)),[]⟩,
 ⟨(some 57),none,.q (.val (.tmp 9)),[]⟩,
 ⟨(some 58),none,.q (.val (.tmp 11)),[]⟩,
 ⟨(some 59),none,.q (.bin .mul (.const (.int .i64 2)) (.tmp 58)),[]⟩,
 ⟨(some 60),none,.q (.idxA 1 (.tmp 57) (.tmp 59)),[]⟩,
 ⟨(some 61),none,.q (.load (.tmp 60)),[]⟩,
 ⟨(some 62),none,.q (.val (.tmp 9)),[]⟩,
 ⟨(some 63),none,.q (.val (.tmp 11)),[]⟩,
 ⟨(some 64),none,.q (.bin .mul (.const (.int .i64 2)) (.tmp 63)),[]⟩,
 ⟨(some 65),none,.q (.bin .add (.tmp 64) (.const (.int .i64 1))),[]⟩,
 ⟨(some 66),none,.q (.idxA 1 (.tmp 62) (.tmp 65)),[]⟩,
 ⟨(some 67),none,.q (.load (.tmp 66)),[]⟩,
 ⟨(some 68),none,.q (.val (.tmp 8)),[]⟩,
 ⟨(some 69),none,.q (.val (.tmp 11)),[]⟩,
 ⟨(some 70),none,.q (.bin .add (.tmp 68) (.tmp 69)),[]⟩,
 ⟨(some 71),none,.q (.val (.tmp 8)),[]⟩,
 ⟨(some 72),none,.q (.val (.tmp 10)),[]⟩,
 ⟨(some 73),none,.q (.bin .add (.tmp 71) (.tmp 72)),[]⟩,
 ⟨(some 74),none,.call 13 [(.tmp 61),(.tmp 67),(.tmp 70),(.tmp 73)],[]⟩,
 ⟨(some 75),none,.e (.lit [(.int .u8 0),(.int .i64 0),(.int .i64 0),(.int .i64 0)] 4 1 [(0,4,(.tmp 74))]),[]⟩,
 ⟨(some 76),none,.e (.app 4 (.tmp 56) (.tmp 75)),[]⟩,
 ⟨(some 6),none,.q (.val (.tmp 76)),[]⟩]))
 (.ops [⟨(some 54),none,.q (.val (.tmp 11)),[]⟩,
 ⟨(some 55),none,.q (.bin .add (.tmp 54) (.const (.int .i64 1))),[]⟩,
 ⟨(some 11),none,.q (.val (.tmp 55)),[]⟩]))))))
 (.ops [⟨(some 77),none,.q (.fieldA 6 (.tmp 3)),[]⟩,
 ⟨(some 78),none,.q (.load (.tmp 77)),[]⟩,
 ⟨(some 79),none,.q (.val (.tmp 6)),[]⟩,
 ⟨(some 80),none,.e (.lit [(.slice none 0 0)] 1 1 [(0,1,(.tmp 79))]),[]⟩,
 ⟨(some 81),none,.e (.app 1 (.tmp 78) (.tmp 80)),[]⟩,
 ⟨(some 82),none,.q (.fieldA 6 (.tmp 3)),[]⟩,
 ⟨none,none,.e (.store 1 (.tmp 82) (.tmp 81)),[]⟩])))))))))
 (.ops [⟨(some 21),none,.q (.val (.tmp 5)),[]⟩,
 ⟨(some 22),none,.q (.bin .add (.tmp 21) (.const (.int .i64 1))),[]⟩,
 ⟨(some 5),none,.q (.val (.tmp 22)),[]⟩]))))))
 (.seq (.ops [⟨(some 83),none,.q (.loadA 7 (.tmp 3)),[]⟩,
 ⟨none,none,.e (.store 7 (.tmp 2) (.tmp 83)),[]⟩])
 .ret))))),[.cells 2 7],84⟩
theorem c_Make_is:qCd Proofs.Tryz.prog Proofs.Tryz.f6=some c_Make:=by kernel_rfl
theorem call_Make {args:List Value} {H:Heap} {K:Value→Heap→Prop} (hl:args.length≤84) (h:awp Proofs.Tryz.prog c_Make.body (qAs c_Make.results K) (qBv args) H):qCq Proofs.Tryz.prog 6 args H K :=
  qCp (by kernel_rfl) (by kernel_rfl) c_Make_is hl h
def c_MkIns:AFn :=
⟨(.seq (.ops [⟨(some 8),none,.e (.new [(.int .u8 0),(.int .i64 0),(.int .i64 0),(.int .i64 0)] 4),[]⟩])
 (.seq (.ops [⟨(some 14),none,.e (.lit [(.int .u8 0),(.int .u8 0),(.int .u8 0),(.int .u8 0),(.int .u8 0),(.int .u8 0),(.int .u8 0),(.int .u8 0),(.int .u8 0),(.int .u8 0),(.int .u8 0),(.int .u8 0),(.int .u8 0),(.int .u8 0),(.int .u8 0),(.int .u8 0),(.int .u8 0),(.int .u8 0),(.int .u8 0),(.int .u8 0),(.int .u8 0),(.int .u8 0),(.int .u8 0),(.int .u8 0),(.int .u8 0),(.int .u8 0),(.int .u8 0),(.int .u8 0),(.int .u8 0),(.int .u8 0),(.int .u8 0),(.int .u8 0),(.int .u8 0),(.int .u8 0),(.int .u8 0),(.int .u8 0)] 1 36 [(0,1,(.const (.int .u8 7))),(1,1,(.const (.int .u8 8))),(2,1,(.const (.int .u8 9))),(3,1,(.const (.int .u8 1))),(4,1,(.const (.int .u8 3))),(5,1,(.const (.int .u8 7))),(6,1,(.const (.int .u8 8))),(7,1,(.const (.int .u8 9))),(8,1,(.const (.int .u8 13))),(9,1,(.const (.int .u8 14))),(10,1,(.const (.int .u8 15))),(11,1,(.const (.int .u8 16))),(12,1,(.const (.int .u8 17))),(13,1,(.const (.int .u8 18))),(14,1,(.const (.int .u8 19))),(15,1,(.const (.int .u8 20))),(16,1,(.const (.int .u8 21))),(17,1,(.const (.int .u8 22))),(18,1,(.const (.int .u8 23))),(19,1,(.const (.int .u8 24))),(20,1,(.const (.int .u8 25))),(21,1,(.const (.int .u8 26))),(22,1,(.const (.int .u8 27))),(23,1,(.const (.int .u8 11))),(24,1,(.const (.int .u8 10))),(25,1,(.const (.int .u8 0))),(26,1,(.const (.int .u8 2))),(27,1,(.const (.int .u8 4))),(28,1,(.const (.int .u8 5))),(29,1,(.const (.int .u8 6))),(30,1,(.const (.int .u8 7))),(31,1,(.const (.int .u8 8))),(32,1,(.const (.int .u8 13))),(33,1,(.const (.int .u8 14))),(34,1,(.const (.int .u8 9))),(35,1,(.const (.int .u8 8)))]),[]⟩,
 ⟨(some 9),none,.q (.val (.tmp 14)),[]⟩])
 (.seq (.ops [⟨(some 15),none,.q (.val (.tmp 9)),[]⟩,
 ⟨(some 16),none,.q (.val (.tmp 0)),[]⟩,
 ⟨(some 17),none,.q (.conv .i64 (.tmp 16)),[]⟩,
 ⟨(some 18),none,.q (.val (.tmp 9)),[]⟩,
 ⟨(some 19),none,.q (.len (.tmp 18)),[]⟩,
 ⟨(some 20),none,.q (.bin .rem (.tmp 17) (.tmp 19)),[]⟩,
 ⟨(some 21),none,.q (.idxA 1 (.tmp 15) (.tmp 20)),[]⟩,
 ⟨(some 22),none,.q (.load (.tmp 21)),[]⟩,
 ⟨(some 10),none,.q (.val (.tmp 22)),[]⟩])
 (.seq (.ops [⟨(some 23),none,.q (.val (.tmp 1)),[]⟩,
 ⟨(some 24),none,.q (.bin .rem (.tmp 23) (.const (.int .u8 4))),[]⟩,
 ⟨(some 25),none,.q (.conv .i64 (.tmp 24)),[]⟩,
 ⟨(some 11),none,.q (.val (.tmp 25)),[]⟩])
 (.seq (.ops [⟨(some 26),none,.q (.val (.tmp 1)),[]⟩,
 ⟨(some 27),none,.q (.bin .quo (.tmp 26) (.const (.int .u8 4))),[]⟩,
 ⟨(some 28),none,.q (.bin .rem (.tmp 27) (.const (.int .u8 4))),[]⟩,
 ⟨(some 29),none,.q (.conv .i64 (.tmp 28)),[]⟩,
 ⟨(some 12),none,.q (.val (.tmp 29)),[]⟩])
 (.seq (.ops [⟨(some 30),none,.q (.val (.tmp 1)),[]⟩,
 ⟨(some 31),none,.q (.bin .quo (.tmp 30) (.const (.int .u8 16))),[]⟩,
 ⟨(some 32),none,.q (.bin .rem (.tmp 31) (.const (.int .u8 2))),[]⟩,
 ⟨(some 33),none,.q (.conv .i64 (.tmp 32)),[]⟩,
 ⟨(some 13),none,.q (.val (.tmp 33)),[]⟩])
 (.seq (.seq (.ops [⟨(some 34),none,.q (.val (.tmp 10)),[]⟩])
 (.block 0 (.seq (.ops [⟨(some 36),none,.q (.bin .eql (.tmp 34) (.const (.int .u8 1))),[]⟩,
 ⟨(some 35),none,.q (.val (.tmp 36)),[]⟩])
 (.cond (.tmp 35)
 (.seq (.ops [⟨(some 37),none,.q (.val (.tmp 10)),[]⟩,
 ⟨(some 38),none,.q (.val (.tmp 11)),[]⟩,
 ⟨(some 39),none,.q (.val (.tmp 1)),[]⟩,
 ⟨(some 40),none,.q (.bin .quo (.tmp 39) (.const (.int .u8 4))),[]⟩,
 ⟨(some 41),none,.q (.bin .rem (.tmp 40) (.const (.int .u8 8))),[]⟩,
 ⟨(some 42),none,.q (.conv .i64 (.tmp 41)),[]⟩,
 ⟨(some 43),none,.q (.build [(.int .u8 0),(.int .i64 0),(.int .i64 0),(.int .i64 0)] [(0,1,(.tmp 37)),(1,1,(.tmp 38)),(2,1,(.tmp 42))]),[]⟩,
 ⟨none,none,.e (.store 4 (.tmp 8) (.tmp 43)),[]⟩])
 .ret)
 (.seq (.ops [⟨(some 45),none,.q (.bin .eql (.tmp 34) (.const (.int .u8 2))),[]⟩,
 ⟨(some 44),none,.q (.val (.tmp 45)),[]⟩])
 (.cond (.tmp 44)
 (.seq (.ops [⟨(some 46),none,.q (.val (.tmp 10)),[]⟩,
 ⟨(some 47),none,.q (.val (.tmp 11)),[]⟩,
 ⟨(some 48),none,.q (.val (.tmp 12)),[]⟩,
 ⟨(some 49),none,.q (.build [(.int .u8 0),(.int .i64 0),(.int .i64 0),(.int .i64 0)] [(0,1,(.tmp 46)),(1,1,(.tmp 47)),(2,1,(.tmp 48))]),[]⟩,
 ⟨none,none,.e (.store 4 (.tmp 8) (.tmp 49)),[]⟩])
 .ret)
 (.seq (.seq (.ops [⟨(some 51),none,.q (.bin .eql (.tmp 34) (.const (.int .u8 3))),[]⟩,
 ⟨(some 50),none,.q (.val (.tmp 51)),[]⟩])
 (.cond (.tmp 50)
 .skip
 (.seq (.ops [⟨(some 52),none,.q (.bin .eql (.tmp 34) (.const (.int .u8 4))),[]⟩,
 ⟨(some 50),none,.q (.val (.tmp 52)),[]⟩])
 (.cond (.tmp 50)
 .skip
 (.seq (.ops [⟨(some 53),none,.q (.bin .eql (.tmp 34) (.const (.int .u8 5))),[]⟩,
 ⟨(some 50),none,.q (.val (.tmp 53)),[]⟩])
 (.cond (.tmp 50)
 .skip
 (.ops [⟨(some 54),none,.q (.bin .eql (.tmp 34) (.const (.int .u8 6))),[]⟩,
 ⟨(some 50),none,.q (.val (.tmp 54)),[]⟩])))))))
 (.cond (.tmp 50)
 (.seq (.ops [⟨(some 55),none,.q (.val (.tmp 10)),[]⟩,
 ⟨(some 56),none,.q (.val (.tmp 11)),[]⟩,
 ⟨(some 57),none,.q (.val (.tmp 12)),[]⟩,
 ⟨(some 58),none,.q (.val (.tmp 1)),[]⟩,
 ⟨(some 59),none,.q (.bin .quo (.tmp 58) (.const (.int .u8 16))),[]⟩,
 ⟨(some 60),none,.q (.bin .rem (.tmp 59) (.const (.int .u8 4))),[]⟩,
 ⟨(some 61),none,.q (.conv .i64 (.tmp 60)),[]⟩,
 ⟨(some 62),none,.q (.build [(.int .u8 0),(.int .i64 0),(.int .i64 0),(.int .i64 0)] [(0,1,(.tmp 55)),(1,1,(.tmp 56)),(2,1,(.tmp 57)),(3,1,(.tmp 61))]),[]⟩,
 ⟨none,none,.e (.store 4 (.tmp 8) (.tmp 62)),[]⟩])
 .ret)
 (.seq (.ops [⟨(some 64),none,.q (.bin .eql (.tmp 34) (.const (.int .u8 7))),[]⟩,
 ⟨(some 63),none,.q (.val (.tmp 64)),[]⟩])
 (.cond (.tmp 63)
 (.seq (.ops [⟨(some 65),none,.q (.val (.tmp 10)),[]⟩,
 ⟨(some 66),none,.q (.val (.tmp 11)),[]⟩,
 ⟨(some 67),none,.q (.val (.tmp 13)),[]⟩,
 ⟨(some 68),none,.q (.build [(.int .u8 0),(.int .i64 0),(.int .i64 0),(.int .i64 0)] [(0,1,(.tmp 65)),(1,1,(.tmp 66)),(2,1,(.tmp 67))]),[]⟩,
 ⟨none,none,.e (.store 4 (.tmp 8) (.tmp 68)),[]⟩])
 .ret)
 (.seq (.ops [⟨(some 70),none,.q (.bin .eql (.tmp 34) (.const (.int .u8 8))),[]⟩,
 ⟨(some 69),none,.q (.val (.tmp 70)),[]⟩])
 (.cond (.tmp 69)
 (.seq (.ops [⟨(some 71),none,.q (.val (.tmp 10)),[]⟩,
 ⟨(some 72),none,.q (.val (.tmp 13)),[]⟩,
 ⟨(some 73),none,.q (.val (.tmp 11)),[]⟩,
 ⟨(some 74),none,.q (.build [(.int .u8 0),(.int .i64 0),(.int .i64 0),(.int .i64 0)] [(0,1,(.tmp 71)),(1,1,(.tmp 72)),(2,1,(.tmp 73))]),[]⟩,
 ⟨none,none,.e (.store 4 (.tmp 8) (.tmp 74)),[]⟩])
 .ret)
 (.seq (.ops [⟨(some 76),none,.q (.bin .eql (.tmp 34) (.const (.int .u8 9))),[]⟩,
 ⟨(some 75),none,.q (.val (.tmp 76)),[]⟩])
 (.cond (.tmp 75)
 (.seq (.ops [⟨(some 77),none,.q (.val (.tmp 10)),[]⟩,
 ⟨(some 78),none,.q (.val (.tmp 11)),[]⟩,
 ⟨(some 79),none,.q (.build [(.int .u8 0),(.int .i64 0),(.int .i64 0),(.int .i64 0)] [(0,1,(.tmp 77)),(1,1,(.tmp 78))]),[]⟩,
 ⟨none,none,.e (.store 4 (.tmp 8) (.tmp 79)),[]⟩])
 .ret)
 (.seq (.ops [⟨(some 81),none,.q (.bin .eql (.tmp 34) (.const (.int .u8 10))),[]⟩,
 ⟨(some 80),none,.q (.val (.tmp 81)),[]⟩])
 (.cond (.tmp 80)
 (.seq (.ops [⟨(some 82),none,.q (.val (.tmp 10)),[]⟩,
 ⟨(some 83),none,.q (.val (.tmp 2)),[]⟩,
 ⟨(some 84),none,.q (.bin .add (.tmp 83) (.const (.int .i64 1))),[]⟩,
 ⟨(some 85),none,.q (.val (.tmp 12)),[]⟩,
 ⟨(some 86),none,.q (.bin .add (.tmp 84) (.tmp 85)),[]⟩,
 ⟨(some 87),none,.q (.val (.tmp 3)),[]⟩,
 ⟨(some 88),none,.q (.mm false (.tmp 86) [(.tmp 87)]),[]⟩,
 ⟨(some 89),none,.q (.build [(.int .u8 0),(.int .i64 0),(.int .i64 0),(.int .i64 0)] [(0,1,(.tmp 82)),(1,1,(.tmp 88))]),[]⟩,
 ⟨none,none,.e (.store 4 (.tmp 8) (.tmp 89)),[]⟩])
 .ret)
 (.seq (.ops [⟨(some 91),none,.q (.bin .eql (.tmp 34) (.const (.int .u8 11))),[]⟩,
 ⟨(some 90),none,.q (.val (.tmp 91)),[]⟩])
 (.cond (.tmp 90)
 (.seq (.seq (.ops [⟨(some 92),none,.q (.val (.tmp 1)),[]⟩,
 ⟨(some 93),none,.q (.bin .geq (.tmp 92) (.const (.int .u8 200))),[]⟩])
 (.cond (.tmp 93)
 (.seq (.ops [⟨(some 94),none,.q (.val (.tmp 10)),[]⟩,
 ⟨(some 95),none,.q (.val (.tmp 11)),[]⟩,
 ⟨(some 96),none,.q (.val (.tmp 2)),[]⟩,
 ⟨(some 97),none,.q (.val (.tmp 12)),[]⟩,
 ⟨(some 98),none,.q (.bin .sub (.tmp 96) (.tmp 97)),[]⟩,
 ⟨(some 99),none,.q (.mm true (.tmp 98) [(.const (.int .i64 0))]),[]⟩,
 ⟨(some 100),none,.q (.build [(.int .u8 0),(.int .i64 0),(.int .i64 0),(.int .i64 0)] [(0,1,(.tmp 94)),(1,1,(.tmp 95)),(2,1,(.tmp 99))]),[]⟩,
 ⟨none,none,.e (.store 4 (.tmp 8) (.tmp 100)),[]⟩])
 .ret)
 .skip))
 (.seq (.ops [⟨(some 101),none,.q (.val (.tmp 10)),[]⟩,
 ⟨(some 102),none,.q (.val (.tmp 11)),[]⟩,
 ⟨(some 103),none,.q (.val (.tmp 2)),[]⟩,
 ⟨(some 104),none,.q (.bin .add (.tmp 103) (.const (.int .i64 1))),[]⟩,
 ⟨(some 105),none,.q (.val (.tmp 12)),[]⟩,
 ⟨(some 106),none,.q (.bin .add (.tmp 104) (.tmp 105)),[]⟩,
 ⟨(some 107),none,.q (.val (.tmp 3)),[]⟩,
 ⟨(some 108),none,.q (.mm false (.tmp 106) [(.tmp 107)]),[]⟩,
 ⟨(some 109),none,.q (.build [(.int .u8 0),(.int .i64 0),(.int .i64 0),(.int .i64 0)] [(0,1,(.tmp 101)),(1,1,(.tmp 102)),(2,1,(.tmp 108))]),[]⟩,
 ⟨none,none,.e (.store 4 (.tmp 8) (.tmp 109)),[]⟩])
 .ret))
 (.seq (.ops [⟨(some 111),none,.q (.bin .eql (.tmp 34) (.const (.int .u8 18))),[]⟩,
 ⟨(some 110),none,.q (.val (.tmp 111)),[]⟩])
 (.cond (.tmp 110)
 (.seq (.ops [⟨(some 112),none,.q (.val (.tmp 10)),[]⟩,
 ⟨(some 113),none,.q (.val (.tmp 11)),[]⟩,
 ⟨(some 114),none,.q (.build [(.int .u8 0),(.int .i64 0),(.int .i64 0),(.int .i64 0)] [(0,1,(.tmp 112)),(2,1,(.tmp 113))]),[]⟩,
 ⟨none,none,.e (.store 4 (.tmp 8) (.tmp 114)),[]⟩])
 .ret)
 (.seq (.ops [⟨(some 116),none,.q (.bin .eql (.tmp 34) (.const (.int .u8 19))),[]⟩,
 ⟨(some 115),none,.q (.val (.tmp 116)),[]⟩])
 (.cond (.tmp 115)
 (.seq (.ops [⟨(some 117),none,.q (.val (.tmp 10)),[]⟩,
 ⟨(some 118),none,.q (.val (.tmp 11)),[]⟩,
 ⟨(some 119),none,.q (.val (.tmp 12)),[]⟩,
 ⟨(some 120),none,.q (.build [(.int .u8 0),(.int .i64 0),(.int .i64 0),(.int .i64 0)] [(0,1,(.tmp 117)),(1,1,(.tmp 118)),(3,1,(.tmp 119))]),[]⟩,
 ⟨none,none,.e (.store 4 (.tmp 8) (.tmp 120)),[]⟩])
 .ret)
 (.seq (.ops [⟨(some 122),none,.q (.bin .eql (.tmp 34) (.const (.int .u8 20))),[]⟩,
 ⟨(some 121),none,.q (.val (.tmp 122)),[]⟩])
 (.cond (.tmp 121)
 (.seq (.ops [⟨(some 123),none,.q (.val (.tmp 10)),[]⟩,
 ⟨(some 124),none,.q (.val (.tmp 11)),[]⟩,
 ⟨(some 125),none,.q (.build [(.int .u8 0),(.int .i64 0),(.int .i64 0),(.int .i64 0)] [(0,1,(.tmp 123)),(2,1,(.tmp 124))]),[]⟩,
 ⟨none,none,.e (.store 4 (.tmp 8) (.tmp 125)),[]⟩])
 .ret)
 (.seq (.seq (.ops [⟨(some 127),none,.q (.bin .eql (.tmp 34) (.const (.int .u8 17))),[]⟩,
 ⟨(some 126),none,.q (.val (.tmp 127)),[]⟩])
 (.cond (.tmp 126)
 .skip
 (.seq (.ops [⟨(some 128),none,.q (.bin .eql (.tmp 34) (.const (.int .u8 21))),[]⟩,
 ⟨(some 126),none,.q (.val (.tmp 128)),[]⟩])
 (.cond (.tmp 126)
 .skip
 (.ops [⟨(some 129),none,.q (.bin .eql (.tmp 34) (.const (.int .u8 26))),[]⟩,
 ⟨(some 126),none,.q (.val (.tmp 129)),[]⟩])))))
 (.cond (.tmp 126)
 (.seq (.ops [⟨(some 130),none,.q (.val (.tmp 10)),[]⟩,
 ⟨(some 131),none,.q (.val (.tmp 11)),[]⟩,
 ⟨(some 132),none,.q (.build [(.int .u8 0),(.int .i64 0),(.int .i64 0),(.int .i64 0)] [(0,1,(.tmp 130)),(1,1,(.tmp 131))]),[]⟩,
 ⟨none,none,.e (.store 4 (.tmp 8) (.tmp 132)),[]⟩])
 .ret)
 (.seq (.ops [⟨(some 134),none,.q (.bin .eql (.tmp 34) (.const (.int .u8 22))),[]⟩,
 ⟨(some 133),none,.q (.val (.tmp 134)),[]⟩])
 (.cond (.tmp 133)
 (.seq (.ops [⟨(some 135),none,.q (.val (.tmp 10)),[]⟩,
 ⟨(some 136),none,.q (.val (.tmp 11)),[]⟩,
 ⟨(some 137),none,.q (.val (.tmp 12)),[]⟩,
 ⟨(some 138),none,.q (.build [(.int .u8 0),(.int .i64 0),(.int .i64 0),(.int .i64 0)] [(0,1,(.tmp 135)),(1,1,(.tmp 136)),(3,1,(.tmp 137))]),[]⟩,
 ⟨none,none,.e (.store 4 (.tmp 8) (.tmp 138)),[]⟩])
 .ret)
 (.seq (.ops [⟨(some 140),none,.q (.bin .eql (.tmp 34) (.const (.int .u8 24))),[]⟩,
 ⟨(some 139),none,.q (.val (.tmp 140)),[]⟩])
 (.cond (.tmp 139)
 (.seq (.ops [⟨(some 141),none,.q (.val (.tmp 10)),[]⟩,
 ⟨(some 142),none,.q (.val (.tmp 1)),[]⟩,
 ⟨(some 143),none,.q (.bin .rem (.tmp 142) (.const (.int .u8 3))),[]⟩,
 ⟨(some 144),none,.q (.conv .i64 (.tmp 143)),[]⟩,
 ⟨(some 145),none,.q (.bin .sub (.tmp 144) (.const (.int .i64 1))),[]⟩,
 ⟨(some 146),none,.q (.build [(.int .u8 0),(.int .i64 0),(.int .i64 0),(.int .i64 0)] [(0,1,(.tmp 141)),(2,1,(.tmp 145))]),[]⟩,
 ⟨none,none,.e (.store 4 (.tmp 8) (.tmp 146)),[]⟩])
 .ret)
 .skip))))))))))))))))))))))))))))))
 (.seq (.ops [⟨(some 147),none,.q (.val (.tmp 10)),[]⟩,
 ⟨(some 148),none,.q (.build [(.int .u8 0),(.int .i64 0),(.int .i64 0),(.int .i64 0)] [(0,1,(.tmp 147))]),[]⟩,
 ⟨none,none,.e (.store 4 (.tmp 8) (.tmp 148)),[]⟩])
 .ret)))))))),[.cells 8 4],149⟩
theorem c_MkIns_is:qCd Proofs.Tryz.prog Proofs.Tryz.f13=some c_MkIns:=by kernel_rfl
theorem call_MkIns {args:List Value} {H:Heap} {K:Value→Heap→Prop} (hl:args.length≤149) (h:awp Proofs.Tryz.prog c_MkIns.body (qAs c_MkIns.results K) (qBv args) H):qCq Proofs.Tryz.prog 13 args H K :=
  qCp (by kernel_rfl) (by kernel_rfl) c_MkIns_is hl h
end Am
