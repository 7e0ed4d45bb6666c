/- Stores that none can read: stores alone are another one, walked.
   No condition: plain lemmas. -/

import Derived.Test.YtdohgmnflhjgjaaZBPmSto10
namespace Pm
set_option linter.unusedSimpArgs false
set_option linter.unusedVariables false
open Go Am
open Go.Proofs.Try (prog)

theorem ownL_at {n i : Nat} (h : i < n) : (ownL n)[i]? = some (i : Int) := by simp [ownL, h]
set_option maxHeartbeats 4000000 in
theorem StoresOnly_spec' (h : Heap) (l : List (List Nat)) (hl : Short l ∧ ∀ c ∈ l, Bytes c) : PCall prog 13 [vL (vL v8) l] h fun r _ => r = .bool true := by
  refine call_StoresOnly (by simp) ?_
  have hlim : lim = 1048576 := rfl
  simp [-pwp_seq, new_box, app_box, len_box, cell_box, cell_box0, cells_box, cells_box0, store_box, store_box0, cellB_bx, cellsB_bx, storeB_bx, BodyK, resVs, resV, retV, box_all, cast_lit, wrap_1, wrap_2, wrap_3, wrap_4, c_StoresOnly]
  refine Make_ok hl ?_
  have hn1 := nThr_le l
  have htl : (makeP l).threads.length = nThr l := threads_len l
  obtain ⟨code, hx⟩ : ∃ x, (makeP l).threads[0]? = some x := ⟨_, List.getElem?_eq_getElem (by omega)⟩
  have hxl := threads_at hx
  have hxo : ∀ c ∈ code, c.op ≤ 255 := fun c hc => by
    rw [hxl.1] at hc
    have := codeOf_op hc
    omega
  have hcl := hxl.2
  simp [-pwp_seq, new_box, app_box, len_box, cell_box, cell_box0, cells_box, cells_box0, store_box, store_box0, cellB_bx, cellsB_bx, storeB_bx, BodyK, resVs, resV, retV, box_all, cast_lit, wrap_1, wrap_2, wrap_3, wrap_4, callK_def, vProg, hx]
  refine sCode_call hxo (by omega) fun out fm hS => ?_
  unfold StoredL at hS
  rw [if_neg (by omega)] at hS
  obtain ⟨hS, rfl⟩ := hS
  have hol := hS.len
  have hfl : (ownL code.length).length = code.length := ownL_len _
  simp [-pwp_seq, new_box, app_box, len_box, cell_box, cell_box0, cells_box, cells_box0, store_box, store_box0, cellB_bx, cellsB_bx, storeB_bx, BodyK, resVs, resV, retV, box_all, cast_lit, wrap_1, wrap_2, wrap_3, wrap_4, callK_def, vEdit]
  rw [pwp_seq]
  simp [-pwp_seq, new_box, app_box, len_box, cell_box, cell_box0, cells_box, cells_box0, store_box, store_box0, cellB_bx, cellsB_bx, storeB_bx, BodyK, resVs, resV, retV, box_all, cast_lit, wrap_1, wrap_2, wrap_3, wrap_4, hol, hfl]
  rw [pwp_seq]
  simp [-pwp_seq, new_box, app_box, len_box, cell_box, cell_box0, cells_box, cells_box0, store_box, store_box0, cellB_bx, cellsB_bx, storeB_bx, BodyK, resVs, resV, retV, box_all, cast_lit, wrap_1, wrap_2, wrap_3, wrap_4]
  refine loop_l (σ := Nat × List Ob) (fun x => [(3, vM 4 vIns code), (4, ptr h.length), (5, vI x.1)]) (fun x => h ++ (bx [vM 4 vIns out, vL vI (ownL code.length)] 2 :: x.2)) (fun x => x.1 ≤ code.length) (fun x => code.length - x.1) (0, []) (by simp) rfl (by simp) ?_
  rintro ⟨i, rest⟩ fr hi
  simp only at hi ⊢
  by_cases hlt : i < code.length
  · obtain ⟨i1, hi1, wi⟩ := wrap_next (show i < lim by omega)
    have hif : (i : Int) < code.length := by omega
    obtain ⟨c, hc⟩ : ∃ c, code[i]? = some c := ⟨_, List.getElem?_eq_getElem hlt⟩
    obtain ⟨o, ho⟩ : ∃ o, out[i]? = some o := ⟨_, List.getElem?_eq_getElem (by omega)⟩
    have hoi := ownL_at hlt
    have hco := hxo c (List.mem_of_getElem? hc)
    have hg0 : ∀ hh, (vIns c)[0]'hh = v8 c.op := fun _ => rfl
    have hv0 : (vIns c)[0]? = some (v8 c.op) := rfl
    have hz : eqAV [0, 0, 0, 0] true (.agg (vIns nopI).toArray) (.agg #[.int .u8 0, .int .i64 0, .int .i64 0, .int .i64 0]) = some (.bool false) := rfl
    rw [pwp_seq]
    simp [-pwp_seq, new_box, app_box, len_box, cell_box, cell_box0, cells_box, cells_box0, store_box, store_box0, cellB_bx, cellsB_bx, storeB_bx, BodyK, resVs, resV, retV, box_all, cast_lit, wrap_1, wrap_2, wrap_3, wrap_4, hif]
    rw [pwp_seq]
    simp [-pwp_seq, new_box, app_box, len_box, cell_box, cell_box0, cells_box, cells_box0, store_box, store_box0, cellB_bx, cellsB_bx, storeB_bx, BodyK, resVs, resV, retV, box_all, cast_lit, wrap_1, wrap_2, wrap_3, wrap_4, ho, hc, -cellsOf_agg, vIns_len, take_vIns, cellsOf_vIns, setAll_ins]
    rw [pwp_seq]
    by_cases hlt1 : i1 < code.length
    · obtain ⟨d, hd⟩ : ∃ d, code[i1]? = some d := ⟨_, List.getElem?_eq_getElem hlt1⟩
      have hif1 : (i1 : Int) < code.length := by omega
      have hdo := hxo d (List.mem_of_getElem? hd)
      have hd0 : ∀ hh, (vIns d)[0]'hh = v8 d.op := fun _ => rfl
      have hdv : (vIns d)[0]? = some (v8 d.op) := rfl
      rcases Classical.em (Gone code i c) with hg | hg
      · have e := hS.gone i c hc hg
        rw [ho] at e; cases e
        have h8 : (c.op : Int) = 8 := by have := hg.1; omega
        have hne : ¬ nopI = c := fun h => by have := hg.1; rw [← h] at this; cases this
        have hrel : relOp d.op = false := by
          cases hr : relOp d.op with
          | false => rfl
          | true =>
            obtain ⟨h8, y, hy, _, _, hn⟩ := hg
            refine absurd ⟨i1, ?_, Wy.use hd (by rw [askN_bit]; simp [wants, hr, hy])⟩ hn
            rw [nextsOf_plain ⟨by omega, by omega⟩, hi1]
            exact List.mem_singleton.2 rfl
        simp [new_box, app_box, len_box, cell_box, cell_box0, cells_box, cells_box0, store_box, store_box0, cellB_bx, cellsB_bx, storeB_bx, BodyK, resVs, resV, retV, box_all, cast_lit, wrap_1, wrap_2, wrap_3, wrap_4, ho, hc, hoi, hg0, hv0, hz, h8, hne, wi, hif1, hd, hd0, hdv, -eqAV_agg, eqAV_I, -cellsOf_agg, vIns_len, take_vIns, cellsOf_vIns, setAll_ins]
        refine R2Rel_call hdo ?_
        rw [hrel]
        simp [new_box, app_box, len_box, cell_box, cell_box0, cells_box, cells_box0, store_box, store_box0, cellB_bx, cellsB_bx, storeB_bx, BodyK, resVs, resV, retV, box_all, cast_lit, wrap_1, wrap_2, wrap_3, wrap_4, callK_def, wi]
        exact .go (i1, _) (by simp only []; omega) (by simp) rfl (by simp only []; omega)
      · have e := hS.stay i c hc hg
        rw [ho] at e; cases e
        by_cases h8 : c.op = 8
        · have h8' : (c.op : Int) = 8 := by omega
          simp [new_box, app_box, len_box, cell_box, cell_box0, cells_box, cells_box0, store_box, store_box0, cellB_bx, cellsB_bx, storeB_bx, BodyK, resVs, resV, retV, box_all, cast_lit, wrap_1, wrap_2, wrap_3, wrap_4, ho, hc, hoi, hg0, hv0, h8', wi, hif1, hd, hd0, hdv, -eqAV_agg, eqAV_I, -cellsOf_agg, vIns_len, take_vIns, cellsOf_vIns, setAll_ins]
          refine R2Rel_call hdo ?_
          cases hr : relOp d.op with
          | true =>
            simp [new_box, app_box, len_box, cell_box, cell_box0, cells_box, cells_box0, store_box, store_box0, cellB_bx, cellsB_bx, storeB_bx, BodyK, resVs, resV, retV, box_all, cast_lit, wrap_1, wrap_2, wrap_3, wrap_4, callK_def, hc, wi, -eqAV_agg, eqAV_I, -cellsOf_agg, vIns_len, take_vIns, cellsOf_vIns, setAll_ins]
            exact .go (i1, _) (by simp only []; omega) (by simp) rfl (by simp only []; omega)
          | false =>
            simp [new_box, app_box, len_box, cell_box, cell_box0, cells_box, cells_box0, store_box, store_box0, cellB_bx, cellsB_bx, storeB_bx, BodyK, resVs, resV, retV, box_all, cast_lit, wrap_1, wrap_2, wrap_3, wrap_4, callK_def, wi]
            exact .go (i1, _) (by simp only []; omega) (by simp) rfl (by simp only []; omega)
        · have h8' : ¬ (c.op : Int) = 8 := by omega
          simp [new_box, app_box, len_box, cell_box, cell_box0, cells_box, cells_box0, store_box, store_box0, cellB_bx, cellsB_bx, storeB_bx, BodyK, resVs, resV, retV, box_all, cast_lit, wrap_1, wrap_2, wrap_3, wrap_4, ho, hc, hoi, hg0, hv0, h8', wi, hif1, -eqAV_agg, eqAV_I, -cellsOf_agg, vIns_len, take_vIns, cellsOf_vIns, setAll_ins]
          exact .go (i1, _) (by simp only []; omega) (by simp) rfl (by simp only []; omega)
    · have hif1 : ¬ (i1 : Int) < code.length := by omega
      rcases Classical.em (Gone code i c) with hg | hg
      · have e := hS.gone i c hc hg
        rw [ho] at e; cases e
        have h8 : (c.op : Int) = 8 := by have := hg.1; omega
        have hne : ¬ nopI = c := fun h => by have := hg.1; rw [← h] at this; cases this
        simp [new_box, app_box, len_box, cell_box, cell_box0, cells_box, cells_box0, store_box, store_box0, cellB_bx, cellsB_bx, storeB_bx, BodyK, resVs, resV, retV, box_all, cast_lit, wrap_1, wrap_2, wrap_3, wrap_4, ho, hc, hoi, hg0, hv0, hz, h8, hne, wi, hif1, -eqAV_agg, eqAV_I, -cellsOf_agg, vIns_len, take_vIns, cellsOf_vIns, setAll_ins]
        exact .go (i1, _) (by simp only []; omega) (by simp) rfl (by simp only []; omega)
      · have e := hS.stay i c hc hg
        rw [ho] at e; cases e
        simp [new_box, app_box, len_box, cell_box, cell_box0, cells_box, cells_box0, store_box, store_box0, cellB_bx, cellsB_bx, storeB_bx, BodyK, resVs, resV, retV, box_all, cast_lit, wrap_1, wrap_2, wrap_3, wrap_4, ho, hc, hoi, hg0, hv0, wi, hif1, -eqAV_agg, eqAV_I, -cellsOf_agg, vIns_len, take_vIns, cellsOf_vIns, setAll_ins]
        exact .go (i1, _) (by simp only []; omega) (by simp) rfl (by simp only []; omega)
  · obtain rfl : i = code.length := by omega
    have hif : ¬ (code.length : Int) < code.length := by omega
    rw [pwp_seq]
    simp [new_box, app_box, len_box, cell_box, cell_box0, cells_box, cells_box0, store_box, store_box0, cellB_bx, cellsB_bx, storeB_bx, BodyK, resVs, resV, retV, box_all, cast_lit, wrap_1, wrap_2, wrap_3, wrap_4, hif]
    refine known18_call ?_
    simp [new_box, app_box, len_box, cell_box, cell_box0, cells_box, cells_box0, store_box, store_box0, cellB_bx, cellsB_bx, storeB_bx, BodyK, resVs, resV, retV, box_all, cast_lit, wrap_1, wrap_2, wrap_3, wrap_4, callK_def]
theorem StoresOnly_spec (l : List (List Nat)) (hl : Short l ∧ ∀ c ∈ l, Bytes c) : PCall prog 13 [vL (vL v8) l] [] fun r _ => r = .bool true := StoresOnly_spec' [] l hl
end Pm
