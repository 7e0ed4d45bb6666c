/- Graphs: the program and the document's answer tell the same of any graph.
   No condition: plain lemmas. -/
import Derived.Test.YtmdnkninbkcmkaaZHPmCfg3
namespace Pm
set_option linter.unusedSimpArgs false
set_option linter.unusedVariables false
open Go Am
open Go.Proofs.Try (prog)

theorem seen_ext {s : List (List Int)} {P : Nat → Prop} {a b : List Bool} (ha : a.length = s.length) (hb : b.length = s.length) (h1 : ∀ i, a[i]? = some true ↔ P i) (h2 : ∀ i, b[i]? = some true ↔ P i) : a = b := by
  apply List.ext_getElem? 
  intro i
  by_cases hi : i < s.length
  · have e1 := List.getElem?_eq_getElem (l := a) (i := i) (by omega)
    have e2 := List.getElem?_eq_getElem (l := b) (i := i) (by omega)
    have k1 := h1 i
    have k2 := h2 i
    rw [e1] at k1 ⊢
    rw [e2] at k2 ⊢
    cases h3 : a[i] <;> cases h4 : b[i] <;> simp_all
  · rw [List.getElem?_eq_none (by omega), List.getElem?_eq_none (by omega)]
theorem doms_ext {s : List (List Int)} {a b : List Nat} (ha : DomsOf s a) (hb : DomsOf s b) : a = b := by
  apply List.ext_getElem?
  intro i
  by_cases hi : i < s.length
  · have e1 := List.getElem?_eq_getElem (l := a) (i := i) (by rw [ha.len]; exact hi)
    have e2 := List.getElem?_eq_getElem (l := b) (i := i) (by rw [hb.len]; exact hi)
    rw [e1, e2]
    congr 1
    apply Nat.eq_of_testBit_eq
    intro k
    have k1 := ha.bit i _ k e1
    have k2 := hb.bit i _ k e2
    rw [← k2] at k1
    exact Bool.eq_iff_iff.2 k1
  · rw [List.getElem?_eq_none (by rw [ha.len]; omega), List.getElem?_eq_none (by rw [hb.len]; omega)]

section
variable {h : Heap} {K : Value → Heap → Prop}
theorem Doms_many {s : List (List Int)} (hn : 64 < s.length) (hk : K (vL vU []) h) : PCall prog 12 [vL (vL vI) s] h K := by
  refine .ofA fun m H vals hP hr => ?_
  obtain ⟨v, rfl, hv⟩ := rs_one hr
  have hv := L2_of_R (fun x => self_int _ _) hv
  have hn' : (64 : Int) < s.length := by omega
  refine Am.call_Doms (by simp) ?_
  simp [Am.c_Doms, Am.enterF, hv.len]
  refine Am.scope_rule (b := 0) (fun _ _ _ => False) (fun _ _ _ h => h.elim) ?_
  simp [Am.enterF, hv.len, hn', BodyK, resVs, resV, retV]
  exact fun _ => ⟨_, hk, .lstNil⟩
theorem RDoms_many {s : List (List Int)} (hn : 64 < s.length) (hk : K (vL vU []) h) : PCall prog 40 [vL (vL vI) s] h K := by
  have hn' : (64 : Int) < s.length := by omega
  refine PCall.forget ?_
  refine call_RDoms (by simp) ?_
  simp [c_RDoms, hn', BodyK, resVs, resV, retV]
  exact ⟨_, .nil (e := 1), hk⟩
theorem sum_mem {s : List (List Int)} {l : List Int} (h : l ∈ s) : l.length ≤ (s.map List.length).sum := le_sum (List.mem_map.2 ⟨l, h, rfl⟩)
theorem tells10_call {s : List (List Int)} (hl : s.length + (s.map List.length).sum ≤ 4000) (hk : K (.bool true) h) : PCall prog 10 [vL (vL vI) s] h K := by
  have hlim : lim = 1048576 := rfl
  have hll : ∀ l ∈ s, l.length < lim := fun l hm => by have := sum_mem hm; omega
  have h1 : s.length < lim := by omega
  refine call_tells10 (by simp) ?_
  simp [c_tells10]
  refine Preds_call h1 (fun l hm => Nat.le_of_lt (hll l hm)) ?_
  simp [callK_def]
  refine RPreds_call h1 (fun l hm => Nat.le_of_lt (hll l hm)) ?_
  simp [callK_def]
  refine RSame10_call (by rw [preds_len]; exact h1) (fun l hm => ?_) ?_
  · obtain ⟨i, hi⟩ := List.mem_iff_getElem?.1 hm
    have hil := (List.getElem?_eq_some_iff.1 hi).1
    rw [preds_len] at hil
    rw [preds_at hil] at hi
    cases hi
    have := backs_len s s.length i; omega
  simp [callK_def]
  refine Reach_call (by omega) fun a ha1 ha2 => ?_
  simp [callK_def]
  refine RReach_call h1 hll fun b hb1 hb2 => ?_
  simp [callK_def]
  refine bools_call (by omega) ?_
  have hab := seen_ext ha1 hb1 ha2 hb2
  simp [callK_def, hab]
  by_cases hn : s.length ≤ 64
  · refine Doms_call hn (by omega) fun c hc => ?_
    simp [callK_def]
    refine RDoms_call hn hll fun d hd => ?_
    simp [callK_def]
    refine sets_call (by rw [hc.len]; omega) ?_
    have := doms_ext hc hd
    simp [callK_def, this, BodyK, resVs, resV, retV]
    exact hk
  · refine Doms_many (by omega) ?_
    simp [callK_def]
    refine RDoms_many (by omega) ?_
    simp [callK_def]
    refine sets_call (by simp [lim]) ?_
    simp [callK_def, BodyK, resVs, resV, retV]
    exact hk
end
end Pm
