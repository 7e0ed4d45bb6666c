/- Graphs: a node is a next one of those, and only those, of which it is told.
   No condition: plain lemmas. -/
import Derived.Test.YtdohgmnflhjgjaaAmPreds
import Derived.Test.YtdohgmnflhjgjaaAmCfgK
namespace Am
set_option linter.unusedSimpArgs false
set_option linter.unusedVariables false
open Go
open Go.Proofs.Try (prog)

theorem backs_rise (s : List (List Int)) (n j : Nat) {a b : Nat} {x y : Int} (hab : a < b) (ha : (backs s n j)[a]? = some x) (hb : (backs s n j)[b]? = some y) : x < y := by
  have h1 : (((List.range n).filter fun a => decide ((j : Int) ∈ nexts s a)).map Int.ofNat).Pairwise (· < ·) := by
    rw [List.pairwise_map]
    refine List.Pairwise.imp ?_ (List.Pairwise.filter _ List.pairwise_lt_range)
    intro a b h
    exact Int.ofNat_lt.2 h
  have h2 := List.pairwise_iff_getElem.1 h1 a b (List.getElem?_eq_some_iff.1 ha).1 (List.getElem?_eq_some_iff.1 hb).1 hab
  have e1 := (List.getElem?_eq_some_iff.1 ha).2
  have e2 := (List.getElem?_eq_some_iff.1 hb).2
  unfold backs at e1 e2
  rw [← e1, ← e2]; exact h2

/-- A number of a byte, by so many. -/
theorem u8_mod {a n : Nat} (ha : a ≤ 255) (hn : 0 < n) : (IntKind.i64.wrap (a : Int)).tmod (n : Int) = ((a % n : Nat) : Int) := by
  rw [wrap_i64 (by omega) (by omega), Int.tmod_eq_emod_of_nonneg (by omega)]; rfl

theorem len_le_sum {s : List (List Int)} {l : List Int} (h : l ∈ s) : l.length ≤ (s.map List.length).sum := le_sum (List.mem_map.2 ⟨l, h, rfl⟩)

end Am
