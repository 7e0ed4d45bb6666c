/- Registers that are yet to be read: in code that reads nothing nothing is.
   No condition: plain lemmas. -/

import Derived.Test.YtdohgmnflhjgjaaZAPmLive3
import Derived.Test.YtdohgmnflhjgjaaZAPmMake2
namespace Pm
set_option linter.unusedSimpArgs false
set_option linter.unusedVariables false
open Go Am
open Go.Proofs.Try (prog)

def noneIns (c : Nat) : Ins := if c % 4 = 0 then ⟨0, 0, 0, 0⟩ else if c % 4 = 1 then ⟨1, (c / 4 % 4 : Nat), 0, 0⟩ else if c % 4 = 2 then ⟨7, (c / 4 % 4 : Nat), 0, 0⟩ else ⟨13, 0, 0, 0⟩
def isSet (k : Nat) (c : Ins) : Bool := decide (c.op = 1 ∨ c.op = 7) && decide (c.a = k)
theorem none_cases (c : Nat) : noneIns c = ⟨0, 0, 0, 0⟩ ∨ (∃ a : Nat, a < 4 ∧ noneIns c = ⟨1, a, 0, 0⟩) ∨ (∃ a : Nat, a < 4 ∧ noneIns c = ⟨7, a, 0, 0⟩) ∨ noneIns c = ⟨13, 0, 0, 0⟩ := by
  unfold noneIns
  split
  · exact .inl rfl
  · split
    · exact .inr (.inl ⟨_, Nat.mod_lt _ (by omega), rfl⟩)
    · split
      · exact .inr (.inr (.inl ⟨_, Nat.mod_lt _ (by omega), rfl⟩))
      · exact .inr (.inr (.inr rfl))
theorem none_uses (c : Nat) : usesOf (noneIns c) = 0 ∧ (noneIns c).op ≤ 255 ∧ ∀ i, nextsOf i (noneIns c) = [((i + 1 : Nat) : Int)] := by
  have hn : ∀ x : Ins, (x.op ≠ 10 ∧ x.op ≠ 11) → ∀ i, nextsOf i x = [((i + 1 : Nat) : Int)] := fun x hx i => nextsOf_on hx
  rcases none_cases c with e | ⟨a, ha, e⟩ | ⟨a, ha, e⟩ | e <;> rw [e]
  · exact ⟨by decide +kernel, by decide, hn _ (by decide)⟩
  · exact ⟨rfl, (by show (1 : Nat) ≤ 255; decide), hn _ ⟨(by show ¬ (1 : Nat) = 10; decide), by show ¬ (1 : Nat) = 11; decide⟩⟩
  · exact ⟨rfl, (by show (7 : Nat) ≤ 255; decide), hn _ ⟨(by show ¬ (7 : Nat) = 10; decide), by show ¬ (7 : Nat) = 11; decide⟩⟩
  · exact ⟨by decide +kernel, by decide, hn _ (by decide)⟩
theorem none_sets (c k : Nat) (hk : k < 4) : (setsOf (noneIns c)).testBit k = isSet k (noneIns c) := by
  rcases none_cases c with e | ⟨a, ha, e⟩ | ⟨a, ha, e⟩ | e <;> rw [e]
  · rw [show setsOf ⟨0, 0, 0, 0⟩ = 0 by decide +kernel]; simp [isSet]
  · have h1 : a = 0 ∨ a = 1 ∨ a = 2 ∨ a = 3 := by omega
    have h2 : k = 0 ∨ k = 1 ∨ k = 2 ∨ k = 3 := by omega
    rcases h1 with rfl | rfl | rfl | rfl <;> rcases h2 with rfl | rfl | rfl | rfl <;> decide +kernel
  · have h1 : a = 0 ∨ a = 1 ∨ a = 2 ∨ a = 3 := by omega
    have h2 : k = 0 ∨ k = 1 ∨ k = 2 ∨ k = 3 := by omega
    rcases h1 with rfl | rfl | rfl | rfl <;> rcases h2 with rfl | rfl | rfl | rfl <;> decide +kernel
  · rw [show setsOf ⟨13, 0, 0, 0⟩ = 0 by decide +kernel]; simp [isSet]
theorem none_lv {c : List Nat} {r i : Nat} : ¬ Lv (c.map noneIns) r i := by
  intro h
  induction h with
  | use hc hu =>
    rw [List.getElem?_map] at hc
    obtain ⟨y, _, rfl⟩ := Option.map_eq_some_iff.1 hc
    rw [(none_uses y).1] at hu; simp at hu
  | pass _ _ _ _ ih => exact ih
theorem print_uses {k : Nat} (hk : k < 4) : (usesOf ⟨9, k, 0, 0⟩).testBit k = true := by
  have h2 : k = 0 ∨ k = 1 ∨ k = 2 ∨ k = 3 := by omega
  rcases h2 with rfl | rfl | rfl | rfl <;> decide +kernel
theorem none_print {c : List Nat} {k : Nat} (hk : k < 4) : Lv (c.map noneIns ++ [⟨9, k, 0, 0⟩]) k 0 ↔ ∀ x ∈ c, isSet k (noneIns x) = false := by
  have key : ∀ (d : Nat) (i : Nat), i + d = c.length → (Lv (c.map noneIns ++ [⟨9, k, 0, 0⟩]) k i ↔ ∀ x ∈ c.drop i, isSet k (noneIns x) = false) := by
    intro d
    induction d with
    | zero =>
      intro i hi
      have hc : (c.map noneIns ++ [(⟨9, k, 0, 0⟩ : Ins)])[i]? = some ⟨9, k, 0, 0⟩ := by
        rw [List.getElem?_append_right (by simp; omega)]; simp [show i - c.length = 0 by omega]
      rw [List.drop_eq_nil_of_le (by omega)]
      simp only [List.not_mem_nil, false_implies, implies_true, iff_true]
      exact .use hc (print_uses hk)
    | succ d ih =>
      intro i hi
      have hil : i < c.length := by omega
      have hc : (c.map noneIns ++ [(⟨9, k, 0, 0⟩ : Ins)])[i]? = some (noneIns c[i]) := by
        rw [List.getElem?_append_left (by simpa using hil)]; simp [hil]
      obtain ⟨u1, u2, u3⟩ := none_uses c[i]
      rw [Lv.step hc, u1, u3, none_sets _ _ hk, List.drop_eq_getElem_cons hil]
      simp only [Nat.zero_testBit, Bool.false_eq_true, false_or, List.mem_cons, forall_eq_or_imp]
      refine and_congr Iff.rfl ?_
      rw [← ih (i + 1) (by omega)]
      constructor
      · rintro ⟨j, hj, h⟩
        have : j = i + 1 := by simp at hj; omega
        rwa [this] at h
      · intro h; exact ⟨i + 1, by simp, h⟩
  have := key c.length 0 (by omega)
  simpa using this
end Pm
