/- Numbers that are known: the program's rows, walked.
   No condition: plain lemmas. -/

import Derived.Test.YthpombmecbgchaaDoorZLPmVal4
import Derived.Test.YthpombmecbgchaaDoorZLPmSuccs
import Derived.Test.YthpombmecbgchaaDoorZLPmCfg3
namespace Pm
set_option linter.unusedSimpArgs false
set_option linter.unusedVariables false
open Go Am
open Go.Proofs.Tryd (prog)

section
variable {h : Heap} {K : Value → Heap → Prop}
end
end Pm
/- Numbers that are known: the document's rows.
   No condition: plain lemmas. -/
namespace Pm
set_option linter.unusedSimpArgs false
set_option linter.unusedVariables false
open Go Am

/-- No less than what comes to one. -/
structure UB (code : List Ins) (out : List V4) (i : Nat) (c : V4) : Prop where
  start : i = 0 → le4 one4 c
  flow : ∀ k x, Flow code (rowF out) k i x → le4 x c
structure RInv (code : List Ins) (out : List V4) : Prop where
  olen : out.length = code.length
  bare : ∀ i, Bare4 (rowF out i)
  least : ∀ F, Holds code F → ∀ i, le4 (rowF out i) (F i)
  low : ∀ i c, Bare4 c → UB code out i c → le4 (rowF out i) c
def Stable (code : List Ins) (out : List V4) (i : Nat) : Prop := Come (succs code) i → UB code out i (rowF out i)
/-- What comes to one, so far. -/
structure Part (code : List Ins) (out : List V4) (i k j : Nat) (x : V4) : Prop where
  bare : Bare4 x
  start : i = 0 → le4 one4 x
  flow : ∀ k' c l, Come (succs code) k' → code[k']? = some c → (succs code)[k']? = some l → (k' < k ∧ (i : Int) ∈ l ∨ k' = k ∧ (i : Int) ∈ l.take j) → le4 (doV c (rowF out k')) x
  least : ∀ c, Bare4 c → UB code out i c → le4 x c
theorem rowF_zero {n i : Nat} : rowF (List.replicate n zero4) i = zero4 := by
  unfold rowF
  rw [List.getElem?_replicate]
  split <;> rfl
theorem RInv.init {code : List Ins} : RInv code (List.replicate code.length zero4) :=
  ⟨by simp, fun i => by rw [rowF_zero]; exact bare_zero, fun F hF i => by rw [rowF_zero]; exact zero_le _, fun i c _ _ => by rw [rowF_zero]; exact zero_le _⟩
theorem RInv.end {code : List Ins} {out : List V4} (v : RInv code out) (h : ∀ i, i < code.length → Stable code out i) : Least code out := by
  refine ⟨v.olen, fun hn => ⟨v.bare, (h 0 hn (.start (by rw [succs_len]; exact hn))).start rfl, ?_⟩, v.least⟩
  intro i k x hk hf
  obtain ⟨h1, c, l, h2, h3, h4, h5⟩ := id hf
  exact (h k hk (.step h1 h3 h4 (by rw [succs_len]; exact hk))).flow i x hf
theorem Part.init {code : List Ins} {out : List V4} {i : Nat} : Part code out i 0 0 (if i = 0 then one4 else zero4) := by
  refine ⟨?_, ?_, ?_, ?_⟩
  · split
    · exact bare_one4
    · exact bare_zero
  · intro h; rw [if_pos h]; exact .refl _
  · rintro k' c l _ _ _ (⟨h, _⟩ | ⟨_, h⟩)
    · omega
    · simp at h
  · intro c _ hc
    split
    · rename_i h; exact hc.start h
    · exact zero_le _
theorem Part.skip {code : List Ins} {out : List V4} {i k j : Nat} {x : V4} {l : List Int} {y : Int} (p : Part code out i k j x) (hl : (succs code)[k]? = some l) (hy : l[j]? = some y) (hn : y ≠ i) : Part code out i k (j + 1) x := by
  refine ⟨p.bare, p.start, ?_, p.least⟩
  intro k' c l' h1 h2 h3 h4
  refine p.flow k' c l' h1 h2 h3 ?_
  rcases h4 with h4 | ⟨rfl, h4⟩
  · exact .inl h4
  · rw [hl] at h3; cases h3
    rw [List.take_add_one, hy] at h4
    simp only [Option.toList_some, List.mem_append, List.mem_singleton] at h4
    rcases h4 with h4 | h4
    · exact .inr ⟨rfl, h4⟩
    · exact absurd h4.symm hn
theorem Part.take {code : List Ins} {out : List V4} {i k j : Nat} {x o : V4} {l : List Int} {c : Ins} (p : Part code out i k j x) (hk : Come (succs code) k) (hc : code[k]? = some c) (hl : (succs code)[k]? = some l) (ho : out[k]? = some o) (hy : l[j]? = some (i : Int)) :
    Part code out i k (j + 1) (meet4 x (doV c o)) := by
  have hb := meet4_bare x (doV c o)
  have hr := rowF_at ho
  refine ⟨hb, fun h => (p.start h).trans p.bare hb (meet4_left p.bare), ?_, ?_⟩
  · intro k' c' l' h1 h2 h3 h4
    by_cases hkk : k' = k
    · subst hkk
      rw [hc] at h2; cases h2
      rw [hr]
      exact meet4_right doV_bare
    · refine (p.flow k' c' l' h1 h2 h3 ?_).trans p.bare hb (meet4_left p.bare)
      rcases h4 with h4 | h4
      · exact .inl h4
      · exact absurd h4.1 hkk
  · intro d hd hu
    refine meet4_least p.bare doV_bare (p.least d hd hu) ?_
    rw [← hr]
    exact hu.flow k _ ⟨hk, c, l, hc, hl, List.mem_of_getElem? hy, rfl⟩
theorem Part.next {code : List Ins} {out : List V4} {i k j : Nat} {x : V4} {l : List Int} (p : Part code out i k j x) (hl : (succs code)[k]? = some l) (hj : l.length ≤ j ∨ ¬ Come (succs code) k) : Part code out i (k + 1) 0 x := by
  refine ⟨p.bare, p.start, ?_, p.least⟩
  intro k' c l' h1 h2 h3 h4
  refine p.flow k' c l' h1 h2 h3 ?_
  rcases h4 with ⟨h4, h5⟩ | ⟨_, h4⟩
  · by_cases hk : k' = k
    · subst hk
      rw [hl] at h3; cases h3
      rcases hj with hj | hj
      · exact .inr ⟨rfl, by rw [List.take_of_length_le hj]; exact h5⟩
      · exact absurd h1 hj
    · exact .inl ⟨by omega, h5⟩
  · simp at h4
theorem Part.ub {code : List Ins} {out : List V4} {i k : Nat} {x : V4} (p : Part code out i k 0 x) (hk : code.length ≤ k) : UB code out i x := by
  refine ⟨p.start, ?_⟩
  rintro k' y ⟨h1, c, l, h2, h3, h4, rfl⟩
  exact p.flow k' c l h1 h2 h3 (.inl ⟨Nat.lt_of_lt_of_le (List.getElem?_eq_some_iff.1 h2).1 hk, h4⟩)
/-- Something new is known. -/
theorem RInv.set {code : List Ins} {out : List V4} {i k : Nat} {x o : V4} (v : RInv code out) (p : Part code out i k 0 x) (hk : code.length ≤ k) (ho : out[i]? = some o) (hi : Come (succs code) i) (hx : x ≠ o) :
    RInv code (out.set i x) ∧ (out.map ht4).sum < ((out.set i x).map ht4).sum := by
  have hu := p.ub hk
  have hio := (List.getElem?_eq_some_iff.1 ho).1
  have hic : i < code.length := by rw [← v.olen]; exact hio
  have hob : Bare4 o := by rw [← rowF_at ho]; exact v.bare i
  have hox : le4 o x := by rw [← rowF_at ho]; exact v.low i x p.bare hu
  have hR : ∀ i', rowF (out.set i x) i' = if i' = i then x else rowF out i' := fun i' => rowF_set hio
  have hup : ∀ i', le4 (rowF out i') (rowF (out.set i x) i') := fun i' => by
    rw [hR]; split
    · rename_i e; rw [e, rowF_at ho]; exact hox
    · exact .refl _
  refine ⟨⟨by simp [v.olen], ?_, ?_, ?_⟩, ?_⟩
  · intro i'; rw [hR]; split
    · exact p.bare
    · exact v.bare i'
  · intro F hF i'
    rw [hR]; split
    · rename_i e
      rw [e]
      refine p.least _ (hF.bare i) ⟨fun h => by rw [h]; exact hF.start, ?_⟩
      rintro k' y ⟨h1, c, l, h2, h3, h4, rfl⟩
      exact (doV_mono (v.least F hF k')).trans doV_bare (hF.bare i) (hF.flow k' i _ hic ⟨h1, c, l, h2, h3, h4, rfl⟩)
    · exact v.least F hF i'
  · intro i' c hc hu'
    have hu2 : UB code out i' c := by
      refine ⟨hu'.start, ?_⟩
      rintro k' y ⟨h1, d, l, h2, h3, h4, rfl⟩
      exact (doV_mono (hup k')).trans doV_bare hc (hu'.flow k' _ ⟨h1, d, l, h2, h3, h4, rfl⟩)
    rw [hR]; split
    · rename_i e; rw [e] at hu2; exact p.least c hc hu2
    · exact v.low i' c hc hu2
  · have w1 := sum_set ht4 out i o x ho
    have w3 := (hox.ht hob p.bare).2 (Ne.symm hx)
    omega
theorem RInv.le {code : List Ins} {out : List V4} (v : RInv code out) : (out.map ht4).sum ≤ 8 * code.length := by
  have h1 := sum_le ht4 8 out fun x hx => by
    obtain ⟨i, hi, rfl⟩ := List.getElem_of_mem hx
    have := v.bare i
    rw [rowF_at (x := out[i]) (by simp [hi])] at this
    exact this.ht
  rw [v.olen] at h1; exact h1
theorem Stable.of {code : List Ins} {out : List V4} {i k : Nat} {x : V4} (p : Part code out i k 0 x) (hk : code.length ≤ k) (h : ¬ Come (succs code) i ∨ out[i]? = some x) : Stable code out i := by
  intro hi
  rcases h with h | h
  · exact absurd hi h
  · rw [rowF_at h]; exact p.ub hk
end Pm
/- Numbers that are known: the document's rows, walked.
   No condition: plain lemmas. -/
namespace Pm
set_option linter.unusedSimpArgs false
set_option linter.unusedVariables false
open Go Am
open Go.Proofs.Tryd (prog)

section
variable {h : Heap} {K : Value → Heap → Prop}
end
end Pm
