/- Graphs: the chapter's example, reckoned out.
   No condition: plain lemmas. -/
import Derived.Test.YtmdnkninbkcmkaaZHAmRun
import Derived.Test.YtmdnkninbkcmkaaZHAmCfgC
namespace Am
set_option linter.unusedSimpArgs false
set_option linter.unusedVariables false
open Go
open Go.Proofs.Try (prog)
set_option maxRecDepth 100000

theorem known10_spec {H : Heap} {K : Value → Heap → Prop} (h : K (.bool true) H) : ACall prog 9 [] H K :=
  closed_true (by kernel_rfl) (tab := tput 9 c_known10 (tput 32 c_Succs (tput 60 c_SortInt (tput 85 c_Len (tput 104 c_Len64 (tput 84 c_pdqInt (tput 94 c_insInt (tput 100 c_LessInt (tput 122 c_isNaNInt (tput 61 c_CompactInt (tput 12 c_Doms (tput 33 c_Reach (tput 34 c_Preds (tput 41 c_All (tput 42 c_With (tput 65 c_bit tnil)))))))))))))))) (TabOk.put (TabOk.put (TabOk.put (TabOk.put (TabOk.put (TabOk.put (TabOk.put (TabOk.put (TabOk.put (TabOk.put (TabOk.put (TabOk.put (TabOk.put (TabOk.put (TabOk.put (TabOk.put .nil (by kernel_rfl) c_bit_is) (by kernel_rfl) c_With_is) (by kernel_rfl) c_All_is) (by kernel_rfl) c_Preds_is) (by kernel_rfl) c_Reach_is) (by kernel_rfl) c_Doms_is) (by kernel_rfl) c_CompactInt_is) (by kernel_rfl) c_isNaNInt_is) (by kernel_rfl) c_LessInt_is) (by kernel_rfl) c_insInt_is) (by kernel_rfl) c_pdqInt_is) (by kernel_rfl) c_Len64_is) (by kernel_rfl) c_Len_is) (by kernel_rfl) c_SortInt_is) (by kernel_rfl) c_Succs_is) (by kernel_rfl) c_known10_is) (k := 200) (n := 20) (by kernel_rfl) h
end Am
