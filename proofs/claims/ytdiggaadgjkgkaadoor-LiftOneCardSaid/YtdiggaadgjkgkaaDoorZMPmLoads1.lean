/- Loads of what is known: small functions.
   No condition: plain lemmas. -/

import Derived.KernelRfl
import Derived.Test.YtdiggaadgjkgkaaDoorZMPmEdit
import Derived.Test.YtdiggaadgjkgkaaDoorZMPm5
import Derived.Test.YtdiggaadgjkgkaaDoorProg
import Derived.Test.YtdiggaadgjkgkaaDoorZMAmSeq2
namespace Pm
set_option linter.unusedSimpArgs false
set_option linter.unusedVariables false
open Go Am
open Go.Proofs.Tryd (prog)

section
variable {h : Heap} {K : Value → Heap → Prop}
theorem bList_call {s:Nat} (hs:s < big) (hk:K (vL vI (qDd s)) h):qBj prog 21 [vU s] h K:=by
  refine .ofA fun m H vals hP hr=>?_
  obtain ⟨v,rfl,hv⟩:=qOy hr;cases qFj hv;exact List_spec hs fun v H' h1 h2 h3=>⟨⟨h2,h3⟩,fun hw=>⟨_,hk,qOw (fun x=>qGk _ _) h1 hw⟩⟩
end
end Pm
