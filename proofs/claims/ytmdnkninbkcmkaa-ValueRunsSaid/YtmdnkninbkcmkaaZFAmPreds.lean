/- Graphs: the way back.
   No condition: plain lemmas. -/
import Derived.Test.YtmdnkninbkcmkaaZFAmCfg1
namespace Am
set_option linter.unusedSimpArgs false
set_option linter.unusedVariables false
open Go
open Go.Proofs.Try (prog)

def nexts (s : List (List Int)) (i : Nat) : List Int := (s[i]?).getD []
def backs (s : List (List Int)) (i j : Nat) : List Int := ((List.range i).filter fun a => decide ((j : Int) ∈ nexts s a)).map Int.ofNat
def preds (s : List (List Int)) : List (List Int) := (List.range s.length).map fun j => backs s s.length j
def predI (s : List (List Int)) (i k j : Nat) : List Int := backs s i j ++ if (j : Int) ∈ (nexts s i).take k then [(i : Int)] else []

theorem nexts_of {s : List (List Int)} {i : Nat} {l : List Int} (h : s[i]? = some l) : nexts s i = l := by simp [nexts, h]
theorem backs_mem {s : List (List Int)} {i j : Nat} {x : Int} : x ∈ backs s i j ↔ ∃ a : Nat, x = a ∧ a < i ∧ (j : Int) ∈ nexts s a := by
  simp only [backs, List.mem_map, List.mem_filter, List.mem_range, decide_eq_true_eq]
  constructor
  · rintro ⟨a, ⟨h1, h2⟩, rfl⟩; exact ⟨a, rfl, h1, h2⟩
  · rintro ⟨a, rfl, h1, h2⟩; exact ⟨a, ⟨h1, h2⟩, rfl⟩
theorem backs_succ (s : List (List Int)) (i j : Nat) : backs s (i + 1) j = predI s i (nexts s i).length j := by
  unfold predI
  rw [List.take_length]
  simp only [backs, List.range_succ, List.filter_append, List.map_append, List.filter_cons, List.filter_nil]
  congr 1
  by_cases h : (j : Int) ∈ nexts s i
  · rw [if_pos h, if_pos (by simpa using h)]; rfl
  · rw [if_neg h, if_neg (by simpa using h)]; rfl
theorem predI_zero (s : List (List Int)) (i j : Nat) : predI s i 0 j = backs s i j := by simp [predI]
theorem preds_at {s : List (List Int)} {j : Nat} (hj : j < s.length) : (preds s)[j]? = some (backs s s.length j) := by simp [preds, hj]
theorem preds_len (s : List (List Int)) : (preds s).length = s.length := by simp [preds]
theorem take_mem {l : List Int} {k : Nat} (hk : k < l.length) {x : Int} : x ∈ l.take (k + 1) ↔ x ∈ l.take k ∨ x = l[k] := by
  rw [← List.take_append_getElem hk, List.mem_append, List.mem_singleton]

/-- What is told of, so far. -/
def PInv (s out : List (List Int)) (i k : Nat) : Prop := out.length = s.length ∧ ∀ j, j < s.length → out[j]? = some (predI s i k j)

theorem PInv.skip {s out : List (List Int)} {i k : Nat} {l : List Int} (h : PInv s out i k) (hl : s[i]? = some l) (hk : k < l.length) (hx : ∀ j : Nat, (j : Int) = l[k] → j < s.length → (j : Int) ∈ l.take k) : PInv s out i (k + 1) := by
  refine ⟨h.1, fun j hj => ?_⟩
  rw [h.2 j hj]
  simp only [predI, nexts_of hl]
  by_cases hm : (j : Int) ∈ l.take k
  · rw [if_pos hm, if_pos ((take_mem hk).2 (.inl hm))]
  · rw [if_neg hm, if_neg fun h' => ((take_mem hk).1 h').elim hm fun h' => hm (hx j h' hj)]
theorem PInv.push {s out : List (List Int)} {i k x : Nat} {l : List Int} (h : PInv s out i k) (hl : s[i]? = some l) (hk : k < l.length) (hx : (x : Int) = l[k]) (hxs : x < s.length) (hm : ¬ (x : Int) ∈ l.take k) : PInv s (out.set x (backs s i x ++ [(i : Int)])) i (k + 1) := by
  refine ⟨by simp [h.1], fun j hj => ?_⟩
  simp only [predI, nexts_of hl]
  by_cases e : j = x
  · subst e
    rw [List.getElem?_set_self (by rw [h.1]; exact hj), if_pos ((take_mem hk).2 (.inr hx))]
  · rw [List.getElem?_set_ne (Ne.symm e), h.2 j hj]
    have e' : (j : Int) ≠ l[k] := by rw [← hx]; omega
    simp only [predI, nexts_of hl]
    by_cases hm : (j : Int) ∈ l.take k
    · rw [if_pos hm, if_pos ((take_mem hk).2 (.inl hm))]
    · rw [if_neg hm, if_neg fun h' => ((take_mem hk).1 h').elim hm e']
theorem PInv.next {s out : List (List Int)} {i k : Nat} {l : List Int} (h : PInv s out i k) (hl : s[i]? = some l) (hk : l.length = k) : PInv s out (i + 1) 0 := by
  exact ⟨h.1, fun j hj => by rw [h.2 j hj, predI_zero, backs_succ, nexts_of hl, hk]⟩
theorem PInv.done {s out : List (List Int)} (h : PInv s out s.length 0) : out = preds s := by
  apply List.ext_getElem?
  intro j
  by_cases hj : j < s.length
  · rw [h.2 j hj, preds_at hj, predI_zero]
  · rw [List.getElem?_eq_none (by rw [h.1]; omega), List.getElem?_eq_none (by rw [preds_len]; omega)]

end Am
