/- A program out of choices: the whole.
   No condition: plain lemmas. -/
import Derived.Test.YtdiggaadgjkgkaaDoorZMPmCfgC
import Derived.Test.YtdiggaadgjkgkaaDoorZMPmSuccs
namespace Pm
set_option linter.unusedSimpArgs false
set_option linter.unusedVariables false
open Go Am
open Go.Proofs.Tryd (prog)

theorem AccM.len {α:Type} {F:α→List Value} {e b:Nat} {h:Heap} {v:Value} {l:List α} (ha:AccM e F b h v l):pLen v=some (.int .i64 l.length):=Acc.len ha
theorem AccL.len {α:Type} {f:α→Value} {b:Nat} {h:Heap} {v:Value} {l:List α} (ha:AccL f b h v l):pLen v=some (.int .i64 l.length):=Acc.len ha
section
variable {h : Heap} {K : Value → Heap → Prop}
end
end Pm
