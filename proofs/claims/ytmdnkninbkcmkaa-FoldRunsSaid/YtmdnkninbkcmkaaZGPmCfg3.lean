/- Graphs,the document's answer: small sets; what each can not be come to without; and that the program tells the same.
   No condition: plain lemmas. -/
import Derived.Test.YtmdnkninbkcmkaaZGPmCfg2
namespace Pm
set_option linter.unusedSimpArgs false
set_option linter.unusedVariables false
open Go Am
open Go.Proofs.Try (prog)

abbrev big : Nat := 18446744073709551616
/-- Is a number in a set? -/
def hasB (s : Nat) (i : Int) : Bool := decide (0 ≤ i) && decide (i < 64) && s.testBit i.toNat
theorem hasB_nat {s i : Nat} (h : i < 64) : hasB s i = s.testBit i := by
  have h1 : (0 : Int) ≤ (i : Int) := by omega
  have h2 : (i : Int) < 64 := by omega
  simp [hasB,h1,h2]
section
variable {h : Heap} {K : Value → Heap → Prop}
/-- What is told of the first so many. -/
structure DUp (s : List (List Int)) (d : Nat) (out : List Nat) : Prop where
  len : out.length = s.length
  lt : ∀ x ∈ out,x < big
  bit : ∀ i x k,out[i]? = some x → (x.testBit k = true ↔ k < d ∧ IsDom s k i)
theorem DUp.set {s : List (List Int)} {d : Nat} {out : List Nat} {i x y : Nat} {P : Nat → Prop} (hl : out.length = s.length) (hlt : ∀ x ∈ out,x < big) (hy : y < big) (hP : ∀ j x k,out[j]? = some x → (x.testBit k = true ↔ (k < d ∧ IsDom s k j) ∨ (k = d ∧ j < i ∧ IsDom s d j))) (hi : out[i]? = some x)
    (hb : ∀ k,y.testBit k = true ↔ x.testBit k = true ∨ (k = d ∧ IsDom s d i)) : ∀ j x k,(out.set i y)[j]? = some x → (x.testBit k = true ↔ (k < d ∧ IsDom s k j) ∨ (k = d ∧ j < i + 1 ∧ IsDom s d j)) := by
  intro j z k hz
  have hil := (List.getElem?_eq_some_iff.1 hi).1
  by_cases e : j = i
  · subst e
    rw [List.getElem?_set_self hil] at hz; cases hz
    rw [hb k,hP _ _ k hi]
    constructor
    · rintro ((h | ⟨h1,h2,_⟩) | ⟨h1,h2⟩)
      · exact .inl h
      · omega
      · exact .inr ⟨h1,by omega,h2⟩
    · rintro (h | ⟨h1,_,h2⟩)
      · exact .inl (.inl h)
      · exact .inr ⟨h1,h2⟩
  · rw [List.getElem?_set_ne (fun x => e x.symm)] at hz
    rw [hP _ _ k hz]
    constructor
    · rintro (h | ⟨h1,h2,h3⟩)
      · exact .inl h
      · exact .inr ⟨h1,by omega,h3⟩
    · rintro (h | ⟨h1,h2,h3⟩)
      · exact .inl h
      · exact .inr ⟨h1,by omega,h3⟩
end
end Pm
