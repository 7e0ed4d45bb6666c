/- Registers that are yet to be read: the program tells what the document tells.
   No condition: plain lemmas. -/

import Derived.Test.YtdohgmnflhjgjaaZAPmLive9
import Derived.Test.YtdohgmnflhjgjaaZAPmMake2
namespace Pm
set_option linter.unusedSimpArgs false
set_option linter.unusedVariables false
open Go Am
open Go.Proofs.Try (prog)

theorem AheadsL.unique {code : List Ins} {a b : List Nat} (ha : AheadsL code a) (hb : AheadsL code b) : b = a := by
  unfold AheadsL at ha hb
  split at ha
  · rw [if_pos (by assumption)] at hb; rw [ha, hb]
  · rw [if_neg (by assumption)] at hb; exact hb.unique ha
theorem BehindsL.unique {code : List Ins} {a b : List Nat} (ha : BehindsL code a) (hb : BehindsL code b) : b = a := by
  unfold BehindsL at ha hb
  split at ha
  · rw [if_pos (by assumption)] at hb; rw [ha, hb]
  · rw [if_neg (by assumption)] at hb; exact hb.unique ha
theorem AheadsL.short {code : List Ins} {a : List Nat} (ha : AheadsL code a) : a.length < lim := by
  unfold AheadsL at ha
  split at ha
  · rw [ha]; decide
  · rw [ha.len]; unfold lim; omega
theorem BehindsL.short {code : List Ins} {a : List Nat} (ha : BehindsL code a) : a.length < lim := by
  unfold BehindsL at ha
  split at ha
  · rw [ha]; decide
  · rw [ha.len]; unfold lim; omega
set_option maxHeartbeats 2000000 in
theorem LiveTells_spec' (h : Heap) (code : List Ins) (l : List (List Nat)) (k : Nat) (hcode : Short code ∧ ∀ i ∈ code, i.In) (hl : Short l ∧ ∀ c ∈ l, Bytes c) (hk : k ≤ 255) : PCall prog 6 [vM 4 vIns code, vL (vL v8) l, v8 k] h fun r _ => r = .bool true := by
  refine call_LiveTells (by simp) ?_
  have hlim : lim = 1048576 := rfl
  have hsh : code.length < 9223372036854775808 := hcode.1
  by_cases h65 : 65 < code.length
  · have h65' : (65 : Int) < code.length := by omega
    simp [new_box, app_box, len_box, cell_box, cell_box0, cells_box, cells_box0, store_box, store_box0, cellB_bx, cellsB_bx, storeB_bx, BodyK, resVs, resV, retV, box_all, cast_lit, wrap_1, wrap_2, wrap_3, wrap_4, c_LiveTells, h65']
    refine known15_call ?_
    simp [new_box, app_box, len_box, cell_box, cell_box0, cells_box, cells_box0, store_box, store_box0, cellB_bx, cellsB_bx, storeB_bx, BodyK, resVs, resV, retV, box_all, cast_lit, wrap_1, wrap_2, wrap_3, wrap_4, callK_def]
  · have h65' : ¬ (65 : Int) < code.length := by omega
    have hco : ∀ i ∈ code, i.op ≤ 255 := fun i hi => (hcode.2 i hi).op
    simp [-pwp_seq, new_box, app_box, len_box, cell_box, cell_box0, cells_box, cells_box0, store_box, store_box0, cellB_bx, cellsB_bx, storeB_bx, BodyK, resVs, resV, retV, box_all, cast_lit, wrap_1, wrap_2, wrap_3, wrap_4, c_LiveTells]
    rw [pwp_seq]
    simp [-pwp_seq, new_box, app_box, len_box, cell_box, cell_box0, cells_box, cells_box0, store_box, store_box0, cellB_bx, cellsB_bx, storeB_bx, BodyK, resVs, resV, retV, box_all, cast_lit, wrap_1, wrap_2, wrap_3, wrap_4, h65']
    refine known15_call ?_
    simp [-pwp_seq, new_box, app_box, len_box, cell_box, cell_box0, cells_box, cells_box0, store_box, store_box0, cellB_bx, cellsB_bx, storeB_bx, BodyK, resVs, resV, retV, box_all, cast_lit, wrap_1, wrap_2, wrap_3, wrap_4, callK_def]
    refine Make_ok hl ?_
    obtain ⟨n, hn⟩ : ∃ n, n = nThr l := ⟨_, rfl⟩
    have hn1 := nThr_le l
    have htl : (makeP l).threads.length = n := by rw [threads_len, hn]
    obtain ⟨km, hkm⟩ : ∃ km, km = k % n := ⟨_, rfl⟩
    have hkn : km < n := by rw [hkm]; exact Nat.mod_lt _ (by omega)
    obtain ⟨x, hx⟩ : ∃ x, (makeP l).threads[km]? = some x := ⟨_, List.getElem?_eq_getElem (by omega)⟩
    have hxl := threads_at hx
    have hxo : ∀ c ∈ x, c.op ≤ 255 := fun c hc => by
      rw [hxl.1] at hc
      have := codeOf_op hc
      omega
    have e1 : (k : Int).tmod (n : Int) = (km : Int) := by rw [Int.tmod_eq_emod_of_nonneg (by omega), hkm]; rfl
    have hn0 : ¬ n = 0 := by omega
    have wd : IntKind.i64.wrap (km : Int) = km := wrap_i64 (by omega) (by omega)
    have wk : IntKind.i64.wrap (k : Int) = k := wrap_i64 (by omega) (by omega)
    simp [-pwp_seq, new_box, app_box, len_box, cell_box, cell_box0, cells_box, cells_box0, store_box, store_box0, cellB_bx, cellsB_bx, storeB_bx, BodyK, resVs, resV, retV, box_all, cast_lit, wrap_1, wrap_2, wrap_3, wrap_4, callK_def, vProg, htl, e1, hn0, wd, hx, wk]
    refine lAhead_call hco (by omega) fun a ha => ?_
    simp [-pwp_seq, new_box, app_box, len_box, cell_box, cell_box0, cells_box, cells_box0, store_box, store_box0, cellB_bx, cellsB_bx, storeB_bx, BodyK, resVs, resV, retV, box_all, cast_lit, wrap_1, wrap_2, wrap_3, wrap_4, callK_def]
    refine r15Ahead_call (by omega) fun b hb => ?_
    obtain rfl := ha.unique hb
    simp [-pwp_seq, new_box, app_box, len_box, cell_box, cell_box0, cells_box, cells_box0, store_box, store_box0, cellB_bx, cellsB_bx, storeB_bx, BodyK, resVs, resV, retV, box_all, cast_lit, wrap_1, wrap_2, wrap_3, wrap_4, callK_def]
    refine Same15_call ha.short ?_
    simp [-pwp_seq, new_box, app_box, len_box, cell_box, cell_box0, cells_box, cells_box0, store_box, store_box0, cellB_bx, cellsB_bx, storeB_bx, BodyK, resVs, resV, retV, box_all, cast_lit, wrap_1, wrap_2, wrap_3, wrap_4, callK_def]
    refine lBehind_call hco (by omega) fun a ha => ?_
    simp [-pwp_seq, new_box, app_box, len_box, cell_box, cell_box0, cells_box, cells_box0, store_box, store_box0, cellB_bx, cellsB_bx, storeB_bx, BodyK, resVs, resV, retV, box_all, cast_lit, wrap_1, wrap_2, wrap_3, wrap_4, callK_def]
    refine r15Behind_call (by omega) fun b hb => ?_
    obtain rfl := ha.unique hb
    simp [-pwp_seq, new_box, app_box, len_box, cell_box, cell_box0, cells_box, cells_box0, store_box, store_box0, cellB_bx, cellsB_bx, storeB_bx, BodyK, resVs, resV, retV, box_all, cast_lit, wrap_1, wrap_2, wrap_3, wrap_4, callK_def]
    refine Same15_call ha.short ?_
    simp [-pwp_seq, new_box, app_box, len_box, cell_box, cell_box0, cells_box, cells_box0, store_box, store_box0, cellB_bx, cellsB_bx, storeB_bx, BodyK, resVs, resV, retV, box_all, cast_lit, wrap_1, wrap_2, wrap_3, wrap_4, callK_def]
    refine lAhead_call hxo (by omega) fun a ha => ?_
    simp [-pwp_seq, new_box, app_box, len_box, cell_box, cell_box0, cells_box, cells_box0, store_box, store_box0, cellB_bx, cellsB_bx, storeB_bx, BodyK, resVs, resV, retV, box_all, cast_lit, wrap_1, wrap_2, wrap_3, wrap_4, callK_def]
    refine r15Ahead_call (by omega) fun b hb => ?_
    obtain rfl := ha.unique hb
    simp [-pwp_seq, new_box, app_box, len_box, cell_box, cell_box0, cells_box, cells_box0, store_box, store_box0, cellB_bx, cellsB_bx, storeB_bx, BodyK, resVs, resV, retV, box_all, cast_lit, wrap_1, wrap_2, wrap_3, wrap_4, callK_def]
    refine Same15_call ha.short ?_
    simp [-pwp_seq, new_box, app_box, len_box, cell_box, cell_box0, cells_box, cells_box0, store_box, store_box0, cellB_bx, cellsB_bx, storeB_bx, BodyK, resVs, resV, retV, box_all, cast_lit, wrap_1, wrap_2, wrap_3, wrap_4, callK_def]
    refine lBehind_call hxo (by omega) fun a ha => ?_
    simp [-pwp_seq, new_box, app_box, len_box, cell_box, cell_box0, cells_box, cells_box0, store_box, store_box0, cellB_bx, cellsB_bx, storeB_bx, BodyK, resVs, resV, retV, box_all, cast_lit, wrap_1, wrap_2, wrap_3, wrap_4, callK_def]
    refine r15Behind_call (by omega) fun b hb => ?_
    obtain rfl := ha.unique hb
    simp [-pwp_seq, new_box, app_box, len_box, cell_box, cell_box0, cells_box, cells_box0, store_box, store_box0, cellB_bx, cellsB_bx, storeB_bx, BodyK, resVs, resV, retV, box_all, cast_lit, wrap_1, wrap_2, wrap_3, wrap_4, callK_def]
    refine Same15_call ha.short ?_
    simp [-pwp_seq, new_box, app_box, len_box, cell_box, cell_box0, cells_box, cells_box0, store_box, store_box0, cellB_bx, cellsB_bx, storeB_bx, BodyK, resVs, resV, retV, box_all, cast_lit, wrap_1, wrap_2, wrap_3, wrap_4, callK_def]
theorem LiveTells_spec (code : List Ins) (l : List (List Nat)) (k : Nat) (hcode : Short code ∧ ∀ i ∈ code, i.In) (hl : Short l ∧ ∀ c ∈ l, Bytes c) (hk : k ≤ 255) : PCall prog 6 [vM 4 vIns code, vL (vL v8) l, v8 k] [] fun r _ => r = .bool true := LiveTells_spec' [] code l k hcode hl hk
end Pm
