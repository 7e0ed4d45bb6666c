/- Loads of what is known: loads alone are another one; walked.
   No condition: plain lemmas. -/

import Derived.Test.YthpombmecbgchaaDoorZLPmLoads5
namespace Pm
set_option linter.unusedSimpArgs false
set_option linter.unusedVariables false
open Go Am
open Go.Proofs.Tryd (prog)

theorem ldIns_shape (c : Ins) (k : Nat) : ldIns c k = c ∨ (c.op = 7 ∧ (ldIns c k = nopI ∨ ∃ m, ldIns c k = ⟨2, c.a, m, 0⟩)) := by
  unfold ldIns
  split
  · rename_i h7
    split
    · exact .inl rfl
    · split
      · exact .inr ⟨h7, .inl rfl⟩
      · exact .inr ⟨h7, .inr ⟨_, rfl⟩⟩
  · exact .inl rfl
theorem Loaded.shape {code out : List Ins} {k : List Nat} (h : Loaded code k out) {i : Nat} {c d : Ins} (hc : code[i]? = some c) (hd : out[i]? = some d) : d = c ∨ (c.op = 7 ∧ (d = nopI ∨ ∃ m, d = ⟨2, c.a, m, 0⟩)) := by
  rcases Classical.em (Come (succs code) i) with hm | hm
  · rw [h.come i c hc hm] at hd; cases hd; exact ldIns_shape c _
  · rw [h.away i c hc hm] at hd; cases hd; exact .inl rfl
set_option maxHeartbeats 4000000 in
theorem LoadsOnly_spec' (h : Heap) (l : List (List Nat)) (hl : Short l ∧ ∀ c ∈ l, Bytes c) : PCall prog 4 [vL (vL v8) l] h fun r _ => r = .bool true := by
  refine call_LoadsOnly (by simp) ?_
  have hlim : lim = 1048576 := rfl
  simp [-pwp_seq, new_box, app_box, len_box, cell_box, cell_box0, cells_box, cells_box0, store_box, store_box0, cellB_bx, cellsB_bx, storeB_bx, BodyK, resVs, resV, retV, box_all, cast_lit, wrap_1, wrap_2, wrap_3, wrap_4, c_LoadsOnly]
  refine Make_ok hl ?_
  have hn1 := nThr_le l
  have htl : (makeP l).threads.length = nThr l := threads_len l
  obtain ⟨code, hx⟩ : ∃ x, (makeP l).threads[0]? = some x := ⟨_, List.getElem?_eq_getElem (by omega)⟩
  have hxl := threads_at hx
  have hxo : ∀ c ∈ code, c.op ≤ 255 := fun c hc => by
    rw [hxl.1] at hc
    have := codeOf_op hc
    omega
  have hcl := hxl.2
  simp [-pwp_seq, new_box, app_box, len_box, cell_box, cell_box0, cells_box, cells_box0, store_box, store_box0, cellB_bx, cellsB_bx, storeB_bx, BodyK, resVs, resV, retV, box_all, cast_lit, wrap_1, wrap_2, wrap_3, wrap_4, callK_def, vProg, hx]
  refine dCode_call hxo (by omega) fun out fm hS => ?_
  unfold LoadedL at hS
  rw [if_neg (by omega)] at hS
  obtain ⟨⟨kk, hK, hS⟩, rfl⟩ := hS
  have hol := hS.len
  have hfl : (ownL code.length).length = code.length := ownL_len _
  simp [-pwp_seq, new_box, app_box, len_box, cell_box, cell_box0, cells_box, cells_box0, store_box, store_box0, cellB_bx, cellsB_bx, storeB_bx, BodyK, resVs, resV, retV, box_all, cast_lit, wrap_1, wrap_2, wrap_3, wrap_4, callK_def, vEdit]
  rw [pwp_seq]
  simp [-pwp_seq, new_box, app_box, len_box, cell_box, cell_box0, cells_box, cells_box0, store_box, store_box0, cellB_bx, cellsB_bx, storeB_bx, BodyK, resVs, resV, retV, box_all, cast_lit, wrap_1, wrap_2, wrap_3, wrap_4, hol, hfl]
  rw [pwp_seq]
  simp [-pwp_seq, new_box, app_box, len_box, cell_box, cell_box0, cells_box, cells_box0, store_box, store_box0, cellB_bx, cellsB_bx, storeB_bx, BodyK, resVs, resV, retV, box_all, cast_lit, wrap_1, wrap_2, wrap_3, wrap_4]
  refine loop_l (σ := Nat × List Ob) (fun x => [(3, vM 4 vIns code), (4, ptr h.length), (5, vI x.1)]) (fun x => h ++ (bx [vM 4 vIns out, vL vI (ownL code.length)] 2 :: x.2)) (fun x => x.1 ≤ code.length) (fun x => code.length - x.1) (0, []) (by simp) rfl (by simp) ?_
  rintro ⟨i, rest⟩ fr hi
  simp only at hi ⊢
  by_cases hlt : i < code.length
  · obtain ⟨i1, hi1, wi⟩ := wrap_next (show i < lim by omega)
    have hif : (i : Int) < code.length := by omega
    obtain ⟨c, hc⟩ : ∃ c, code[i]? = some c := ⟨_, List.getElem?_eq_getElem hlt⟩
    obtain ⟨o, ho⟩ : ∃ o, out[i]? = some o := ⟨_, List.getElem?_eq_getElem (by omega)⟩
    have hoi := ownL_at hlt
    have hvv : ∀ w : Ins, (vIns w)[0]? = some (v8 w.op) := fun _ => rfl
    have hg1 : ∀ (w : Ins) hh, (vIns w)[1]'hh = vI w.a := fun _ _ => rfl
    have hg0 : ∀ (w : Ins) hh, (vIns w)[0]'hh = v8 w.op := fun _ _ => rfl
    have hva : ∀ w : Ins, (vIns w)[1]? = some (vI w.a) := fun _ => rfl
    rw [pwp_seq]
    simp [-pwp_seq, new_box, app_box, len_box, cell_box, cell_box0, cells_box, cells_box0, store_box, store_box0, cellB_bx, cellsB_bx, storeB_bx, BodyK, resVs, resV, retV, box_all, cast_lit, wrap_1, wrap_2, wrap_3, wrap_4, hif]
    rw [pwp_seq]
    by_cases hoc : o = c
    · subst hoc
      simp [new_box, app_box, len_box, cell_box, cell_box0, cells_box, cells_box0, store_box, store_box0, cellB_bx, cellsB_bx, storeB_bx, BodyK, resVs, resV, retV, box_all, cast_lit, wrap_1, wrap_2, wrap_3, wrap_4, ho, hc, hoi, wi, -eqAV_agg, eqAV_I, -cellsOf_agg, vIns_len, take_vIns, cellsOf_vIns, setAll_ins]
      exact .go (i1, _) (by simp only []; omega) (by simp) rfl (by simp only []; omega)
    · rcases hS.shape hc ho with e | ⟨h7, e⟩
      · exact absurd e hoc
      · have h7' : (c.op : Int) = 7 := by omega
        rcases e with rfl | ⟨m, rfl⟩
        · have n0 : (nopI.op : Int) = 0 := rfl
          simp [new_box, app_box, len_box, cell_box, cell_box0, cells_box, cells_box0, store_box, store_box0, cellB_bx, cellsB_bx, storeB_bx, BodyK, resVs, resV, retV, box_all, cast_lit, wrap_1, wrap_2, wrap_3, wrap_4, ho, hc, hoi, hoc, hvv, hva, hg0, hg1, h7', n0, wi, -eqAV_agg, eqAV_I, -cellsOf_agg, vIns_len, take_vIns, cellsOf_vIns, setAll_ins]
          exact .go (i1, _) (by simp only []; omega) (by simp) rfl (by simp only []; omega)
        · simp [new_box, app_box, len_box, cell_box, cell_box0, cells_box, cells_box0, store_box, store_box0, cellB_bx, cellsB_bx, storeB_bx, BodyK, resVs, resV, retV, box_all, cast_lit, wrap_1, wrap_2, wrap_3, wrap_4, ho, hc, hoi, hoc, hvv, hva, hg0, hg1, h7', wi, -eqAV_agg, eqAV_I, -cellsOf_agg, vIns_len, take_vIns, cellsOf_vIns, setAll_ins]
          exact .go (i1, _) (by simp only []; omega) (by simp) rfl (by simp only []; omega)
  · obtain rfl : i = code.length := by omega
    have hif : ¬ (code.length : Int) < code.length := by omega
    rw [pwp_seq]
    simp [new_box, app_box, len_box, cell_box, cell_box0, cells_box, cells_box0, store_box, store_box0, cellB_bx, cellsB_bx, storeB_bx, BodyK, resVs, resV, retV, box_all, cast_lit, wrap_1, wrap_2, wrap_3, wrap_4, hif]
    refine known17_call ?_
    simp [new_box, app_box, len_box, cell_box, cell_box0, cells_box, cells_box0, store_box, store_box0, cellB_bx, cellsB_bx, storeB_bx, BodyK, resVs, resV, retV, box_all, cast_lit, wrap_1, wrap_2, wrap_3, wrap_4, callK_def]
theorem LoadsOnly_spec (l : List (List Nat)) (hl : Short l ∧ ∀ c ∈ l, Bytes c) : PCall prog 4 [vL (vL v8) l] [] fun r _ => r = .bool true := LoadsOnly_spec' [] l hl
end Pm
