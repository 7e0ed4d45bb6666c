/- Code that is changed: small walks that several chapters share.
   No condition: plain lemmas. -/

import Derived.KernelRfl
import Derived.Test.YtmdnkninbkcmkaaZFPmFields
import Derived.Test.YtmdnkninbkcmkaaZFPm5
import Derived.Test.YtmdnkninbkcmkaaProg
import Derived.Test.YtmdnkninbkcmkaaZFPmLive2
namespace Pm
set_option linter.unusedSimpArgs false
set_option linter.unusedVariables false
open Go Am
open Go.Proofs.Try (prog)

section
variable {P : Program} {K : Fr → Heap → Prop} {is : List AIns} {d : Option Nat} {fr : Fr} {H0 H : Heap} {b : Nat} {lit : Value} {rs : List Ob}
end
section
variable {h : Heap} {K : Value → Heap → Prop}
end
def nopI : Ins := ⟨0, 0, 0, 0⟩
def ownL (n : Nat) : List Int := (List.range n).map fun i : Nat => (i : Int)
theorem ownL_len (n : Nat) : (ownL n).length = n := by simp [ownL]
theorem AccM.cell {α : Type} {F : α → List Value} {e b : Nat} {H : Heap} {v : Value} {l : List α} (ha : AccM e F b H v l) : cellsOf v = some [v] := by
  rcases ha with ⟨e, _⟩ | ⟨id, ver, e, _⟩ <;> rw [e] <;> rfl
section
variable {h : Heap} {K : Value → Heap → Prop}
end
section
variable {h : Heap} {K : Value → Heap → Prop}
end
end Pm
