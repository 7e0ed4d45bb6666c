/- Graphs: all that is told of any code is what the document says.
   No condition: plain lemmas. -/
import Derived.Test.YtmdnkninbkcmkaaZFPmMake2
import Derived.Test.YtmdnkninbkcmkaaZFPmSuccs
import Derived.Test.YtmdnkninbkcmkaaZFPmCfg3
namespace Pm
set_option linter.unusedSimpArgs false
set_option linter.unusedVariables false
open Go Am
open Go.Proofs.Try (prog)

/-- What Make's arguments are. -/
def Choices (l : List (List Nat)) : Prop := Short l ∧ ∀ c ∈ l, Bytes c
theorem Make_ok {l : List (List Nat)} (hl : Choices l) {h : Heap} {K : Value → Heap → Prop} (hk : K (.agg (vProg (makeP l)).toArray) h) : PCall prog 13 [vL (vL v8) l] h K :=
  Make_call hl.1 (fun c hc => (hl.2 c hc).1) (fun c hc => (hl.2 c hc).2) hk
end Pm
