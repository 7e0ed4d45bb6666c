/- Graphs: a node is a next one of those, and only those, of which it is told.
   No condition: plain lemmas. -/
import Derived.Test.YtdiggaadgjkgkaaGreatDoorZNAmPreds
import Derived.Test.YtdiggaadgjkgkaaGreatDoorZNAmRun
import Derived.Test.YtdiggaadgjkgkaaGreatDoorZNAmCfgC
namespace Am
set_option linter.unusedSimpArgs false
set_option linter.unusedVariables false
open Go
open Go.Proofs.Tryz (prog)

theorem len_le_sum {s:List (List Int)} {l:List Int} (h:l∈s):l.length≤(s.map List.length).sum:=qSz (List.mem_map.2 ⟨l,h,rfl⟩)

end Am
