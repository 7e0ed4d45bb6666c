/- Graphs: a node is a next one of those, and only those, of which it is told.
   No condition: plain lemmas. -/
import Derived.Test.YtdiggaadgjkgkaaDoorZMAmPreds
import Derived.Test.YtdiggaadgjkgkaaDoorZMAmRun
import Derived.Test.YtdiggaadgjkgkaaDoorZMAmCfgC
namespace Am
set_option linter.unusedSimpArgs false
set_option linter.unusedVariables false
open Go
open Go.Proofs.Tryd (prog)

theorem len_le_sum {s:List (List Int)} {l:List Int} (h:l∈s):l.length≤(s.map List.length).sum:=qRe (List.mem_map.2 ⟨l,h,rfl⟩)

end Am
