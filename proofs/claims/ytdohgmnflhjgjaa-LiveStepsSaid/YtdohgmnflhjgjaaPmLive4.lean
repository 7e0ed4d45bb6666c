/- Registers that are yet to be read: the law of one step, walked.
   No condition: plain lemmas. -/
import Derived.Test.YtdohgmnflhjgjaaPmLive3
import Derived.Test.YtdohgmnflhjgjaaPmMake2

namespace Pm
set_option linter.unusedSimpArgs false
set_option linter.unusedVariables false
open Go Am
open Go.Proofs.Try (prog)

theorem step_law {code a b : _} (ha : Aheads code a) (hb : Behinds code b) {i r : Nat} {c : Ins} (hc : code[i]? = some c) : (gN a i).testBit r = ((usesOf c).testBit r || ((gN b i).testBit r && !(setsOf c).testBit r)) := by
  have hi := (List.getElem?_eq_some_iff.1 hc).1
  rw [Bool.eq_iff_iff, ha.bit, Lv.step hc, Bool.or_eq_true, Bool.and_eq_true, hb.bit, nexts_succs hc]
  simp only [Bool.not_eq_true']
  constructor
  · rintro (h | ⟨h1, h2⟩)
    · exact .inl h
    · exact .inr ⟨⟨hi, h2⟩, h1⟩
  · rintro (h | ⟨⟨_, h2⟩, h1⟩)
    · exact .inl h
    · exact .inr ⟨h1, h2⟩
section
variable {h : Heap}
set_option maxHeartbeats 2000000 in
theorem LiveSteps_spec' (h : Heap) (l : List (List Nat)) (hl : Short l ∧ ∀ c ∈ l, Bytes c) : PCall prog 8 [vL (vL v8) l] h fun r _ => r = .bool true := by
  refine call_LiveSteps (by simp) ?_
  simp [-pwp_seq, new_box, app_box, len_box, cell_box, cell_box0, cells_box, cells_box0, store_box, store_box0, cellB_bx, cellsB_bx, storeB_bx, BodyK, resVs, resV, retV, box_all, cast_lit, wrap_1, wrap_2, wrap_3, wrap_4, c_LiveSteps]
  refine Make_ok hl ?_
  obtain ⟨x, hx⟩ : ∃ x, (makeP l).threads[0]? = some x := ⟨_, List.getElem?_eq_getElem (by rw [threads_len]; have := nThr_le l; omega)⟩
  have hxl := threads_at hx
  have hxo : ∀ c ∈ x, c.op ≤ 255 := fun c hc => by
    rw [hxl.1] at hc
    have := codeOf_op hc
    omega
  have hlim : lim = 1048576 := rfl
  simp [-pwp_seq, new_box, app_box, len_box, cell_box, cell_box0, cells_box, cells_box0, store_box, store_box0, cellB_bx, cellsB_bx, storeB_bx, BodyK, resVs, resV, retV, box_all, cast_lit, wrap_1, wrap_2, wrap_3, wrap_4, callK_def, vProg, hx]
  refine lAhead_call hxo (by omega) fun a ha => ?_
  have ha : Aheads x a := by unfold AheadsL at ha; rwa [if_neg (by omega)] at ha
  have hal := ha.len
  simp [-pwp_seq, new_box, app_box, len_box, cell_box, cell_box0, cells_box, cells_box0, store_box, store_box0, cellB_bx, cellsB_bx, storeB_bx, BodyK, resVs, resV, retV, box_all, cast_lit, wrap_1, wrap_2, wrap_3, wrap_4, callK_def]
  refine lBehind_call hxo (by omega) fun b hb => ?_
  have hb : Behinds x b := by unfold BehindsL at hb; rwa [if_neg (by omega)] at hb
  have hbl := hb.len
  simp [-pwp_seq, new_box, app_box, len_box, cell_box, cell_box0, cells_box, cells_box0, store_box, store_box0, cellB_bx, cellsB_bx, storeB_bx, BodyK, resVs, resV, retV, box_all, cast_lit, wrap_1, wrap_2, wrap_3, wrap_4, callK_def]
  rw [pwp_seq]
  simp [-pwp_seq, new_box, app_box, len_box, cell_box, cell_box0, cells_box, cells_box0, store_box, store_box0, cellB_bx, cellsB_bx, storeB_bx, BodyK, resVs, resV, retV, box_all, cast_lit, wrap_1, wrap_2, wrap_3, wrap_4, hal, hbl]
  rw [pwp_seq]
  simp [-pwp_seq, new_box, app_box, len_box, cell_box, cell_box0, cells_box, cells_box0, store_box, store_box0, cellB_bx, cellsB_bx, storeB_bx, BodyK, resVs, resV, retV, box_all, cast_lit, wrap_1, wrap_2, wrap_3, wrap_4]
  refine loop_l (σ := Nat) (fun i => [(3, vM 4 vIns x), (4, vL vU a), (5, vL vU b), (6, vI i)]) (fun _ => h) (fun i => i ≤ x.length) (fun i => x.length - i) 0 (by simp) rfl (by simp) ?_
  intro i fr hi
  by_cases hlt : i < x.length
  · obtain ⟨i1, hi1, wi⟩ := wrap_next (show i < lim by omega)
    obtain ⟨c, hc⟩ : ∃ c, x[i]? = some c := ⟨_, List.getElem?_eq_getElem hlt⟩
    have hif : (i : Int) < x.length := by omega
    have hai := gN_at (l := a) (i := i) (by omega)
    have hbi := gN_at (l := b) (i := i) (by omega)
    rw [pwp_seq]
    simp [-pwp_seq, new_box, app_box, len_box, cell_box, cell_box0, cells_box, cells_box0, store_box, store_box0, cellB_bx, cellsB_bx, storeB_bx, BodyK, resVs, resV, retV, box_all, cast_lit, wrap_1, wrap_2, wrap_3, wrap_4, hif]
    rw [pwp_seq]
    simp [-pwp_seq, new_box, app_box, len_box, cell_box, cell_box0, cells_box, cells_box0, store_box, store_box0, cellB_bx, cellsB_bx, storeB_bx, BodyK, resVs, resV, retV, box_all, cast_lit, wrap_1, wrap_2, wrap_3, wrap_4]
    refine loop_l (σ := Nat) (fun r => [(3, vM 4 vIns x), (4, vL vU a), (5, vL vU b), (6, vI i), (7, vI r)]) (fun _ => h) (fun r => r ≤ 4) (fun r => 4 - r) 0 (by simp) rfl (by simp) ?_
    intro r fr hr
    by_cases hr4 : r < 4
    · obtain ⟨r1, hr1, wr⟩ := wrap_next (show r < lim by omega)
      have hrf : (r : Int) < 4 := by omega
      have key := step_law ha hb (r := r) hc
      have ht : (vIns c).take 4 = vIns c := rfl
      have hn4 : 4 ≤ (vIns c).length := Nat.le_refl _
      obtain ⟨u, hu⟩ : ∃ u, u = (usesOf c).testBit r := ⟨_, rfl⟩
      obtain ⟨s, hs⟩ : ∃ s, s = (setsOf c).testBit r := ⟨_, rfl⟩
      obtain ⟨p, hp⟩ : ∃ p, p = (gN b i).testBit r := ⟨_, rfl⟩
      obtain ⟨q, hq⟩ : ∃ q, q = (gN a i).testBit r := ⟨_, rfl⟩
      rw [← hu, ← hs, ← hp, ← hq] at key
      rw [pwp_seq]
      simp [-pwp_seq, new_box, app_box, len_box, cell_box, cell_box0, cells_box, cells_box0, store_box, store_box0, cellB_bx, cellsB_bx, storeB_bx, BodyK, resVs, resV, retV, box_all, cast_lit, wrap_1, wrap_2, wrap_3, wrap_4, hrf]
      rw [pwp_seq]
      simp [-pwp_seq, new_box, app_box, len_box, cell_box, cell_box0, cells_box, cells_box0, store_box, store_box0, cellB_bx, cellsB_bx, storeB_bx, BodyK, resVs, resV, retV, box_all, cast_lit, wrap_1, wrap_2, wrap_3, wrap_4, hc, ht, hn4]
      refine uses15_call ?_
      simp [-pwp_seq, new_box, app_box, len_box, cell_box, cell_box0, cells_box, cells_box0, store_box, store_box0, cellB_bx, cellsB_bx, storeB_bx, BodyK, resVs, resV, retV, box_all, cast_lit, wrap_1, wrap_2, wrap_3, wrap_4, callK_def]
      refine RHas_call (usesOf_lt c) ?_
      rw [hasB_nat (by omega), ← hu]
      simp [-pwp_seq, new_box, app_box, len_box, cell_box, cell_box0, cells_box, cells_box0, store_box, store_box0, cellB_bx, cellsB_bx, storeB_bx, BodyK, resVs, resV, retV, box_all, cast_lit, wrap_1, wrap_2, wrap_3, wrap_4, callK_def, hc, ht, hn4]
      refine sets15_call ?_
      simp [-pwp_seq, new_box, app_box, len_box, cell_box, cell_box0, cells_box, cells_box0, store_box, store_box0, cellB_bx, cellsB_bx, storeB_bx, BodyK, resVs, resV, retV, box_all, cast_lit, wrap_1, wrap_2, wrap_3, wrap_4, callK_def]
      refine RHas_call (setsOf_lt c) ?_
      rw [hasB_nat (by omega), ← hs]
      simp [-pwp_seq, new_box, app_box, len_box, cell_box, cell_box0, cells_box, cells_box0, store_box, store_box0, cellB_bx, cellsB_bx, storeB_bx, BodyK, resVs, resV, retV, box_all, cast_lit, wrap_1, wrap_2, wrap_3, wrap_4, callK_def, hai]
      refine RHas_call (ha.lt i) ?_
      rw [hasB_nat (by omega), ← hq]
      cases u with
      | true =>
        subst key
        simp [new_box, app_box, len_box, cell_box, cell_box0, cells_box, cells_box0, store_box, store_box0, cellB_bx, cellsB_bx, storeB_bx, BodyK, resVs, resV, retV, box_all, cast_lit, wrap_1, wrap_2, wrap_3, wrap_4, callK_def, wr]
        exact .go r1 (by omega) (by simp) rfl (by omega)
      | false =>
        simp [new_box, app_box, len_box, cell_box, cell_box0, cells_box, cells_box0, store_box, store_box0, cellB_bx, cellsB_bx, storeB_bx, BodyK, resVs, resV, retV, box_all, cast_lit, wrap_1, wrap_2, wrap_3, wrap_4, callK_def, hbi]
        refine RHas_call (hb.lt i) ?_
        rw [hasB_nat (by omega), ← hp]
        subst key
        cases p <;> cases s <;>
        · simp [new_box, app_box, len_box, cell_box, cell_box0, cells_box, cells_box0, store_box, store_box0, cellB_bx, cellsB_bx, storeB_bx, BodyK, resVs, resV, retV, box_all, cast_lit, wrap_1, wrap_2, wrap_3, wrap_4, callK_def, wr]
          exact .go r1 (by omega) (by simp) rfl (by omega)
    · have hrf : ¬ (r : Int) < 4 := by omega
      simp [new_box, app_box, len_box, cell_box, cell_box0, cells_box, cells_box0, store_box, store_box0, cellB_bx, cellsB_bx, storeB_bx, BodyK, resVs, resV, retV, box_all, cast_lit, wrap_1, wrap_2, wrap_3, wrap_4, hrf, wi]
      exact .go i1 (by omega) (by simp) rfl (by omega)
  · have hif : ¬ (i : Int) < x.length := by omega
    simp [new_box, app_box, len_box, cell_box, cell_box0, cells_box, cells_box0, store_box, store_box0, cellB_bx, cellsB_bx, storeB_bx, BodyK, resVs, resV, retV, box_all, cast_lit, wrap_1, wrap_2, wrap_3, wrap_4, hif]
    refine known15_call ?_
    simp [new_box, app_box, len_box, cell_box, cell_box0, cells_box, cells_box0, store_box, store_box0, cellB_bx, cellsB_bx, storeB_bx, BodyK, resVs, resV, retV, box_all, cast_lit, wrap_1, wrap_2, wrap_3, wrap_4, callK_def]
theorem LiveSteps_spec (l : List (List Nat)) (hl : Short l ∧ ∀ c ∈ l, Bytes c) : PCall prog 8 [vL (vL v8) l] [] fun r _ => r = .bool true := LiveSteps_spec' [] l hl
end
end Pm
