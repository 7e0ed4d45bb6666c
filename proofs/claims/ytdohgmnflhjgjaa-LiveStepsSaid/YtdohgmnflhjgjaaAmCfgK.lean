/- Graphs: the chapter's example, reckoned out.
   No condition: plain lemmas. -/
import Derived.Test.YtdohgmnflhjgjaaAmRun
import Derived.Test.YtdohgmnflhjgjaaAmCfgC
namespace Am
set_option linter.unusedSimpArgs false
set_option linter.unusedVariables false
open Go
open Go.Proofs.Try (prog)
set_option maxRecDepth 100000

theorem known10_spec {H : Heap} {K : Value → Heap → Prop} (h : K (.bool true) H) : ACall prog 15 [] H K :=
  closed_true (by kernel_rfl) (tab := tput 15 c_known10 (tput 45 c_Succs (tput 80 c_SortInt (tput 103 c_Len (tput 121 c_Len64 (tput 102 c_pdqInt (tput 111 c_insInt (tput 117 c_LessInt (tput 139 c_isNaNInt (tput 81 c_CompactInt (tput 18 c_Doms (tput 46 c_Reach (tput 47 c_Preds (tput 54 c_All (tput 55 c_With (tput 84 c_bit tnil)))))))))))))))) (TabOk.put (TabOk.put (TabOk.put (TabOk.put (TabOk.put (TabOk.put (TabOk.put (TabOk.put (TabOk.put (TabOk.put (TabOk.put (TabOk.put (TabOk.put (TabOk.put (TabOk.put (TabOk.put .nil (by kernel_rfl) c_bit_is) (by kernel_rfl) c_With_is) (by kernel_rfl) c_All_is) (by kernel_rfl) c_Preds_is) (by kernel_rfl) c_Reach_is) (by kernel_rfl) c_Doms_is) (by kernel_rfl) c_CompactInt_is) (by kernel_rfl) c_isNaNInt_is) (by kernel_rfl) c_LessInt_is) (by kernel_rfl) c_insInt_is) (by kernel_rfl) c_pdqInt_is) (by kernel_rfl) c_Len64_is) (by kernel_rfl) c_Len_is) (by kernel_rfl) c_SortInt_is) (by kernel_rfl) c_Succs_is) (by kernel_rfl) c_known10_is) (k := 200) (n := 20) (by kernel_rfl) h
end Am
