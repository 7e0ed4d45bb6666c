/- Numbers that are known: rows alike; code that goes straight on.
   No condition: plain lemmas. -/

import Derived.KernelRfl
import Derived.Test.YthpombmecbgchaaDoorZLPmVal7
import Derived.Test.YthpombmecbgchaaDoorZLPm5
import Derived.Test.YthpombmecbgchaaDoorProg
import Derived.Test.YthpombmecbgchaaDoorZLPmCfgCode
namespace Pm
set_option linter.unusedSimpArgs false
set_option linter.unusedVariables false
open Go Am
open Go.Proofs.Tryd (prog)

section
variable {h : Heap} {K : Value → Heap → Prop}
end
end Pm
/- Numbers that are known: what is known in any code is what the document says.
   No condition: plain lemmas. -/
namespace Pm
set_option linter.unusedSimpArgs false
set_option linter.unusedVariables false
open Go Am
open Go.Proofs.Tryd (prog)

theorem mkIns_op (a b : Nat) (at_ n : Int) : (mkIns a b at_ n).op = opsL[a % 36]?.getD 0 := by
  unfold mkIns
  simp only [apply_ite Ins.op, ite_self]
theorem opsL_le (k : Nat) : opsL[k]?.getD 0 ≤ 27 := by
  have h : ∀ x ∈ opsL, x ≤ 27 := by decide
  cases e : opsL[k]? with
  | none => simp
  | some x => simpa using h x (List.mem_of_getElem? e)
theorem codeOf_op {l : List (List Nat)} {i : Nat} {c : Ins} (h : c ∈ codeOf l i) : c.op ≤ 27 := by
  unfold codeOf at h
  rcases List.mem_append.1 h with h | h
  · unfold headOf at h
    split at h
    · obtain ⟨k, _, rfl⟩ := List.mem_map.1 h
      simp
    · simp at h
  · unfold bodyOf at h
    obtain ⟨k, _, rfl⟩ := List.mem_map.1 h
    rw [mkIns_op]
    exact opsL_le _
end Pm
