/- Loads of what is known: small functions.
   No condition: plain lemmas. -/

import Derived.KernelRfl
import Derived.Test.YtdiggaadgjkgkaaGreatDoorZNPmEdit
import Derived.Test.YtdiggaadgjkgkaaGreatDoorZNPm5
import Derived.Test.YtdiggaadgjkgkaaGreatDoorProg
import Derived.Test.YtdiggaadgjkgkaaGreatDoorZNAmSeq2
namespace Pm
set_option linter.unusedSimpArgs false
set_option linter.unusedVariables false
open Go Am
open Go.Proofs.Tryz (prog)

section
variable {h : Heap} {K : Value → Heap → Prop}
theorem bList_call {s:Nat} (hs:s < big) (hk:K (vL vI (qCc s)) h):qBl prog 40 [vU s] h K:=by
  refine .ofA fun m H vals hP hr=>?_
  obtain ⟨v,rfl,hv⟩:=qOf hr;cases qFo hv;exact List_spec hs fun v H' h1 h2 h3=>⟨⟨h2,h3⟩,fun hw=>⟨_,hk,qQq (fun x=>qHg _ _) h1 hw⟩⟩
end
end Pm
