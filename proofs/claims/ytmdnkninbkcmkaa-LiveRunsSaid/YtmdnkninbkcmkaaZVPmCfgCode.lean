/- Graphs: all that is told of any code is what the document says.
   No condition: plain lemmas. -/
import Derived.Test.YtmdnkninbkcmkaaZVPmMake2
import Derived.Test.YtmdnkninbkcmkaaZVPmSuccs
import Derived.Test.YtmdnkninbkcmkaaZVPmCfg3
namespace Pm
set_option linter.unusedSimpArgs false
set_option linter.unusedVariables false
open Go Am
open Go.Proofs.Try (prog)

theorem succs_short (code:List Ins):∀ l∈succs code,l.length < lim:=by
  intro l hl;obtain ⟨i,hi⟩:=List.mem_iff_getElem?.1 hl;rw [qNn] at hi;obtain ⟨y,_,rfl⟩:=Option.map_eq_some_iff.1 hi;have:=nextsOf_len i y;simp [lim]; omega

def Choices (l:List (List Nat)):Prop:=qSz l∧∀ c∈l,qTa c
theorem Make_ok {l:List (List Nat)} (hl:Choices l) {h:Heap} {K:Value→Heap→Prop} (hk:K (.agg (qDo (qFf l)).toArray) h):qBu prog 13 [vL (vL v8) l] h K :=
  Make_call hl.1 (fun c hc=>(hl.2 c hc).1) (fun c hc=>(hl.2 c hc).2) hk
theorem threads_len (l:List (List Nat)):(qFf l).threads.length=nThr l:=by simp [qFf]
end Pm
