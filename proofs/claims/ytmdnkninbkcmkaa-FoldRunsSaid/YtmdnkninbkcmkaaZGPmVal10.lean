/- Numbers that are known: rows alike; code that goes straight on.
   No condition: plain lemmas. -/

import Derived.Test.YtmdnkninbkcmkaaZGPmVal7
import Derived.Test.YtmdnkninbkcmkaaZGPmCfgC
import Derived.Test.YtmdnkninbkcmkaaZGPmCfgCode
namespace Pm
set_option linter.unusedSimpArgs false
set_option linter.unusedVariables false
open Go Am
open Go.Proofs.Try (prog)

/-- What is known ahead of each,in code that goes straight on. -/
def runV (code : List Ins) : Nat → V4
  | 0 => one4
  | i + 1 => match code[i]? with
    | some c => doV c (runV code i)
    | none => zero4
theorem runV_succ {code : List Ins} {i : Nat} {c : Ins} (h : code[i]? = some c) : runV code (i + 1) = doV c (runV code i) := by
  show (match code[i]? with | some c => doV c (runV code i) | none => zero4) = _
  rw [h]
theorem runV_bare (code : List Ins) : ∀ i,Bare4 (runV code i)
  | 0 => bare_one4
  | i + 1 => by
    unfold runV
    split
    · exact qHd
    · exact bare_zero
theorem nextsOf_on {i : Nat} {c : Ins} (h : c.op ≠ 10 ∧ c.op ≠ 11) : nextsOf i c = [((i + 1 : Nat) : Int)] := by
  unfold nextsOf
  rw [if_neg h.1,if_neg h.2]
  rfl
theorem straight_least {code : List Ins} (h : ∀ c ∈ code,c.op ≠ 10 ∧ c.op ≠ 11) : Least code ((List.range code.length).map (runV code)) := by
  have hr : ∀ i,i < code.length → rowF ((List.range code.length).map (runV code)) i = runV code i := fun i hi => qFf (by simp [hi])
  have hz : ∀ i,¬ i < code.length → rowF ((List.range code.length).map (runV code)) i = zero4 := fun i hi => by
    unfold rowF
    rw [List.getElem?_eq_none (by simp; omega)]
    rfl
  refine ⟨by simp,fun hn => ⟨fun i => ?_,?_,?_⟩,fun F hF i => ?_⟩
  · by_cases hi : i < code.length
    · rw [hr i hi]; exact runV_bare _ _
    · rw [hz i hi]; exact bare_zero
  · rw [hr 0 hn]; exact .refl _
  · rintro i k x hk ⟨_,c,l,hc,hl,hkl,rfl⟩
    have hi := (List.getElem?_eq_some_iff.1 hc).1
    rw [qGp,hc] at hl
    cases hl
    rw [nextsOf_on (h c (List.mem_of_getElem? hc))] at hkl
    have e : k = i + 1 := by simp at hkl; omega
    subst e
    rw [hr _ hk,hr i hi,runV_succ hc]
    exact .refl _
  · by_cases hi : i < code.length
    · rw [hr i hi]
      have key : ∀ i,i < code.length → Come (succs code) i ∧ le4 (runV code i) (F i) := by
        intro i
        induction i with
        | zero => exact fun h0 => ⟨.start (by rw [qDc]; exact h0),hF.start⟩
        | succ i ih =>
          intro hi
          have hi' : i < code.length := by omega
          obtain ⟨h1,h2⟩ := ih hi'
          have hc : code[i]? = some code[i] := by simp [hi']
          have hl : (succs code)[i]? = some [((i + 1 : Nat) : Int)] := by
            rw [qGp,hc,Option.map_some,nextsOf_on (h _ (List.getElem_mem hi'))]
          refine ⟨.step h1 hl (by simp) (by rw [qDc]; exact hi),?_⟩
          rw [runV_succ hc]
          exact (doV_mono h2).trans qHd (hF.bare _) (hF.flow i (i + 1) _ hi ⟨h1,_,_,hc,hl,by simp,rfl⟩)
      exact (key i hi).2
    · rw [hz i hi]; exact zero_le _
section
variable {h : Heap} {K : Value → Heap → Prop}
end
end Pm
/- Numbers that are known: what is known in any code is what the document says.
   No condition: plain lemmas. -/
namespace Pm
set_option linter.unusedSimpArgs false
set_option linter.unusedVariables false
open Go Am
open Go.Proofs.Try (prog)

end Pm
