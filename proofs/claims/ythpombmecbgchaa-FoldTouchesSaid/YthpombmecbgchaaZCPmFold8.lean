/- What is known is not reckoned: the chapter's example; the program tells what the document tells; walked.
   No condition: plain lemmas. -/

import Derived.Test.YthpombmecbgchaaZCPmFold6
import Derived.Test.YthpombmecbgchaaZCPmCfgCode
namespace Pm
set_option linter.unusedSimpArgs false
set_option linter.unusedVariables false
open Go Am
open Go.Proofs.Try (prog)

section
variable {h : Heap} {K : Value → Heap → Prop}
set_option maxHeartbeats 4000000 in
theorem known16_call (hh : NoU h) (hk : K (vB true) h) : PCall prog 9 [] h K := by
  refine PCall.forget ?_
  refine call_known16 (by simp) ?_
  have hfa : frzV (h ++ [bx [.int .u8 1, .int .i64 0, .int .i64 3, .int .i64 0, .int .u8 3, .int .i64 1, .int .i64 0, .int .i64 0, .int .u8 9, .int .i64 1, .int .i64 0, .int .i64 0] 4]) 4 (.slice (some ⟨h.length, 0, none⟩) 3 0) = some (vM 4 vIns c16, h ++ [.row ⟨c16.flatMap vIns, 4, 0, false⟩]) := frzV_new (h := h) rfl rfl rfl
  simp [new_box, app_box, len_box, cell_box, cell_box0, cells_box, cells_box0, store_box, store_box0, cellB_bx, cellsB_bx, storeB_bx, BodyK, resVs, resV, retV, box_all, cast_lit, wrap_1, wrap_2, wrap_3, wrap_4, c_known16, hfa]
  refine fCode_call (code := c16) (hh.app fun r hr h1 => by simp at hr; rw [hr] at h1; cases h1) (by decide) (by decide) fun oa fa ha => ?_
  have e : oa = [⟨0, 0, 0, 0⟩, ⟨1, 1, 6, 0⟩, ⟨9, 1, 0, 0⟩] ∧ fa = [0, 1, 2] := by
    unfold FoldedL at ha
    rw [if_neg (by decide)] at ha
    exact ⟨out16 ha.1, ha.2⟩
  obtain ⟨rfl, rfl⟩ := e
  simp [new_box, app_box, len_box, cell_box, cell_box0, cells_box, cells_box0, store_box, store_box0, cellB_bx, cellsB_bx, storeB_bx, BodyK, resVs, resV, retV, box_all, cast_lit, wrap_1, wrap_2, wrap_3, wrap_4, callK_def, vEdit, vIns]
  exact ⟨_, .cell rfl, hk⟩
end
theorem noU_box {h : Heap} (hh : NoU h) {rs : List Ob} (hr : ∀ r, Ob.row r ∈ rs → r.esz ≠ 1) : NoU (h ++ rs) := hh.app fun r h1 _ => hr r h1
set_option maxHeartbeats 4000000 in
theorem FoldCode_spec' (h : Heap) (hh : NoU h) (code : List Ins) (l : List (List Nat)) (k : Nat) (hcode : Short code ∧ ∀ i ∈ code, i.In) (hl : Short l ∧ ∀ c ∈ l, Bytes c) (hk : k ≤ 255) : PCall prog 5 [vM 4 vIns code, vL (vL v8) l, v8 k] h fun r _ => r = .bool true := by
  refine call_FoldCode (by simp) ?_
  have hlim : lim = 1048576 := rfl
  have hsh : code.length < 9223372036854775808 := hcode.1
  by_cases h65 : 65 < code.length
  · have h65' : (65 : Int) < code.length := by omega
    simp [new_box, app_box, len_box, cell_box, cell_box0, cells_box, cells_box0, store_box, store_box0, cellB_bx, cellsB_bx, storeB_bx, BodyK, resVs, resV, retV, box_all, cast_lit, wrap_1, wrap_2, wrap_3, wrap_4, c_FoldCode, h65']
    refine known16_call hh ?_
    simp [new_box, app_box, len_box, cell_box, cell_box0, cells_box, cells_box0, store_box, store_box0, cellB_bx, cellsB_bx, storeB_bx, BodyK, resVs, resV, retV, box_all, cast_lit, wrap_1, wrap_2, wrap_3, wrap_4, callK_def]
  · have h65' : ¬ (65 : Int) < code.length := by omega
    have hco : ∀ i ∈ code, i.op ≤ 255 := fun i hi => (hcode.2 i hi).op
    simp [-pwp_seq, new_box, app_box, len_box, cell_box, cell_box0, cells_box, cells_box0, store_box, store_box0, cellB_bx, cellsB_bx, storeB_bx, BodyK, resVs, resV, retV, box_all, cast_lit, wrap_1, wrap_2, wrap_3, wrap_4, c_FoldCode]
    rw [pwp_seq]
    simp [-pwp_seq, new_box, app_box, len_box, cell_box, cell_box0, cells_box, cells_box0, store_box, store_box0, cellB_bx, cellsB_bx, storeB_bx, BodyK, resVs, resV, retV, box_all, cast_lit, wrap_1, wrap_2, wrap_3, wrap_4, h65']
    refine known16_call hh ?_
    simp [-pwp_seq, new_box, app_box, len_box, cell_box, cell_box0, cells_box, cells_box0, store_box, store_box0, cellB_bx, cellsB_bx, storeB_bx, BodyK, resVs, resV, retV, box_all, cast_lit, wrap_1, wrap_2, wrap_3, wrap_4, callK_def]
    refine Make_ok hl ?_
    obtain ⟨n, hn⟩ : ∃ n, n = nThr l := ⟨_, rfl⟩
    have hn1 := nThr_le l
    have htl : (makeP l).threads.length = n := by rw [threads_len, hn]
    obtain ⟨km, hkm⟩ : ∃ km, km = k % n := ⟨_, rfl⟩
    have hkn : km < n := by rw [hkm]; exact Nat.mod_lt _ (by omega)
    obtain ⟨x, hx⟩ : ∃ x, (makeP l).threads[km]? = some x := ⟨_, List.getElem?_eq_getElem (by omega)⟩
    have hxl := threads_at hx
    have hxo : ∀ c ∈ x, c.op ≤ 255 := fun c hc => by
      rw [hxl.1] at hc
      have := codeOf_op hc
      omega
    have e1 : (k : Int).tmod (n : Int) = (km : Int) := by rw [Int.tmod_eq_emod_of_nonneg (by omega), hkm]; rfl
    have hn0 : ¬ n = 0 := by omega
    have wd : IntKind.i64.wrap (km : Int) = km := wrap_i64 (by omega) (by omega)
    have wk : IntKind.i64.wrap (k : Int) = k := wrap_i64 (by omega) (by omega)
    simp [-pwp_seq, new_box, app_box, len_box, cell_box, cell_box0, cells_box, cells_box0, store_box, store_box0, cellB_bx, cellsB_bx, storeB_bx, BodyK, resVs, resV, retV, box_all, cast_lit, wrap_1, wrap_2, wrap_3, wrap_4, callK_def, vProg, htl, e1, hn0, wd, hx, wk]
    refine fCode_call (noU_box hh fun r hr => by simp [bx] at hr; simp [hr]) hco (by omega) fun o1 f1 h1 => ?_
    simp [-pwp_seq, new_box, app_box, len_box, cell_box, cell_box0, cells_box, cells_box0, store_box, store_box0, cellB_bx, cellsB_bx, storeB_bx, BodyK, resVs, resV, retV, box_all, cast_lit, wrap_1, wrap_2, wrap_3, wrap_4, callK_def, vEdit]
    refine r16Code_call (noU_box hh fun r hr => by simp [bx] at hr; rcases hr with rfl | rfl <;> simp) hco (by omega) fun o2 f2 h2 => ?_
    obtain ⟨rfl, rfl⟩ := h1.unique h2
    simp [-pwp_seq, new_box, app_box, len_box, cell_box, cell_box0, cells_box, cells_box0, store_box, store_box0, cellB_bx, cellsB_bx, storeB_bx, BodyK, resVs, resV, retV, box_all, cast_lit, wrap_1, wrap_2, wrap_3, wrap_4, callK_def, vEdit]
    refine fCode_call (noU_box hh fun r hr => by simp [bx] at hr; rcases hr with rfl | rfl | rfl <;> simp) hxo (by omega) fun o3 f3 h3 => ?_
    simp [-pwp_seq, new_box, app_box, len_box, cell_box, cell_box0, cells_box, cells_box0, store_box, store_box0, cellB_bx, cellsB_bx, storeB_bx, BodyK, resVs, resV, retV, box_all, cast_lit, wrap_1, wrap_2, wrap_3, wrap_4, callK_def, vEdit]
    refine r16Code_call (noU_box hh fun r hr => by simp [bx] at hr; rcases hr with rfl | rfl | rfl | rfl <;> simp) hxo (by omega) fun o4 f4 h4 => ?_
    obtain ⟨rfl, rfl⟩ := h3.unique h4
    simp [-pwp_seq, new_box, app_box, len_box, cell_box, cell_box0, cells_box, cells_box0, store_box, store_box0, cellB_bx, cellsB_bx, storeB_bx, BodyK, resVs, resV, retV, box_all, cast_lit, wrap_1, wrap_2, wrap_3, wrap_4, callK_def, vEdit]
    refine R2SameCode_call h1.short.1 ?_
    simp [-pwp_seq, new_box, app_box, len_box, cell_box, cell_box0, cells_box, cells_box0, store_box, store_box0, cellB_bx, cellsB_bx, storeB_bx, BodyK, resVs, resV, retV, box_all, cast_lit, wrap_1, wrap_2, wrap_3, wrap_4, callK_def]
    refine RSame01_call h1.short.2 ?_
    simp [-pwp_seq, new_box, app_box, len_box, cell_box, cell_box0, cells_box, cells_box0, store_box, store_box0, cellB_bx, cellsB_bx, storeB_bx, BodyK, resVs, resV, retV, box_all, cast_lit, wrap_1, wrap_2, wrap_3, wrap_4, callK_def]
    refine R2SameCode_call h3.short.1 ?_
    simp [-pwp_seq, new_box, app_box, len_box, cell_box, cell_box0, cells_box, cells_box0, store_box, store_box0, cellB_bx, cellsB_bx, storeB_bx, BodyK, resVs, resV, retV, box_all, cast_lit, wrap_1, wrap_2, wrap_3, wrap_4, callK_def]
    refine RSame01_call h3.short.2 ?_
    simp [-pwp_seq, new_box, app_box, len_box, cell_box, cell_box0, cells_box, cells_box0, store_box, store_box0, cellB_bx, cellsB_bx, storeB_bx, BodyK, resVs, resV, retV, box_all, cast_lit, wrap_1, wrap_2, wrap_3, wrap_4, callK_def]
theorem FoldCode_spec (code : List Ins) (l : List (List Nat)) (k : Nat) (hcode : Short code ∧ ∀ i ∈ code, i.In) (hl : Short l ∧ ∀ c ∈ l, Bytes c) (hk : k ≤ 255) : PCall prog 5 [vM 4 vIns code, vL (vL v8) l, v8 k] [] fun r _ => r = .bool true := FoldCode_spec' [] .nil code l k hcode hl hk
end Pm

/- What is known is not reckoned: three laws more, walked.
   No condition: plain lemmas. -/

namespace Pm
set_option linter.unusedSimpArgs false
set_option linter.unusedVariables false
open Go Am
open Go.Proofs.Try (prog)

set_option maxHeartbeats 4000000 in
theorem FoldTouches_spec' (h : Heap) (hh : NoU h) (l : List (List Nat)) (hl : Short l ∧ ∀ c ∈ l, Bytes c) : PCall prog 6 [vL (vL v8) l] h fun r _ => r = .bool true := by
  refine call_FoldTouches (by simp) ?_
  have hlim : lim = 1048576 := rfl
  simp [-pwp_seq, new_box, app_box, len_box, cell_box, cell_box0, cells_box, cells_box0, store_box, store_box0, cellB_bx, cellsB_bx, storeB_bx, BodyK, resVs, resV, retV, box_all, cast_lit, wrap_1, wrap_2, wrap_3, wrap_4, c_FoldTouches]
  refine Make_ok hl ?_
  have hn1 := nThr_le l
  have htl : (makeP l).threads.length = nThr l := threads_len l
  obtain ⟨code, hx⟩ : ∃ x, (makeP l).threads[0]? = some x := ⟨_, List.getElem?_eq_getElem (by omega)⟩
  have hxl := threads_at hx
  have hxo : ∀ c ∈ code, c.op ≤ 255 := fun c hc => by
    rw [hxl.1] at hc
    have := codeOf_op hc
    omega
  have hcl := hxl.2
  simp [-pwp_seq, new_box, app_box, len_box, cell_box, cell_box0, cells_box, cells_box0, store_box, store_box0, cellB_bx, cellsB_bx, storeB_bx, BodyK, resVs, resV, retV, box_all, cast_lit, wrap_1, wrap_2, wrap_3, wrap_4, callK_def, vProg, hx]
  refine fCode_call hh hxo (by omega) fun out fm hS => ?_
  unfold FoldedL at hS
  rw [if_neg (by omega)] at hS
  obtain ⟨hS, rfl⟩ := hS
  have hol := hS.len
  have hfl : (ownL code.length).length = code.length := ownL_len _
  simp [-pwp_seq, new_box, app_box, len_box, cell_box, cell_box0, cells_box, cells_box0, store_box, store_box0, cellB_bx, cellsB_bx, storeB_bx, BodyK, resVs, resV, retV, box_all, cast_lit, wrap_1, wrap_2, wrap_3, wrap_4, callK_def, vEdit]
  rw [pwp_seq]
  simp [-pwp_seq, new_box, app_box, len_box, cell_box, cell_box0, cells_box, cells_box0, store_box, store_box0, cellB_bx, cellsB_bx, storeB_bx, BodyK, resVs, resV, retV, box_all, cast_lit, wrap_1, wrap_2, wrap_3, wrap_4, hol, hfl]
  rw [pwp_seq]
  simp [-pwp_seq, new_box, app_box, len_box, cell_box, cell_box0, cells_box, cells_box0, store_box, store_box0, cellB_bx, cellsB_bx, storeB_bx, BodyK, resVs, resV, retV, box_all, cast_lit, wrap_1, wrap_2, wrap_3, wrap_4]
  refine loop_l (σ := Nat) (fun x => [(3, vM 4 vIns code), (4, ptr h.length), (5, vI x)]) (fun _ => h ++ [bx [vM 4 vIns out, vL vI (ownL code.length)] 2]) (fun x => x ≤ code.length) (fun x => code.length - x) 0 (by simp) rfl (by simp) ?_
  intro i fr hi
  by_cases hlt : i < code.length
  · obtain ⟨i1, hi1, wi⟩ := wrap_next (show i < lim by omega)
    have hif : (i : Int) < code.length := by omega
    obtain ⟨c, hc⟩ : ∃ c, code[i]? = some c := ⟨_, List.getElem?_eq_getElem hlt⟩
    obtain ⟨o, ho⟩ : ∃ o, out[i]? = some o := ⟨_, List.getElem?_eq_getElem (by omega)⟩
    have hoi := ownL_at hlt
    have hg0 : ∀ hh, (vIns c)[0]'hh = v8 c.op := fun _ => rfl
    have hv0 : (vIns c)[0]? = some (v8 c.op) := rfl
    rw [pwp_seq]
    simp [-pwp_seq, new_box, app_box, len_box, cell_box, cell_box0, cells_box, cells_box0, store_box, store_box0, cellB_bx, cellsB_bx, storeB_bx, BodyK, resVs, resV, retV, box_all, cast_lit, wrap_1, wrap_2, wrap_3, wrap_4, hif]
    rw [pwp_seq]
    by_cases h6 : 6 < c.op
    · have h6' : (6 : Int) < c.op := by omega
      by_cases h11 : c.op = 11
      · have h11' : (c.op : Int) = 11 := by omega
        simp [new_box, app_box, len_box, cell_box, cell_box0, cells_box, cells_box0, store_box, store_box0, cellB_bx, cellsB_bx, storeB_bx, BodyK, resVs, resV, retV, box_all, cast_lit, wrap_1, wrap_2, wrap_3, wrap_4, ho, hc, hoi, hg0, hv0, h6, h6', h11', wi, -eqAV_agg, eqAV_I, -cellsOf_agg, vIns_len, take_vIns, cellsOf_vIns, setAll_ins]
        exact .go i1 (by omega) (by simp) rfl (by omega)
      · have h11' : ¬ (c.op : Int) = 11 := by omega
        have e := hS.keeps hc h6 h11
        rw [ho] at e; cases e
        simp [new_box, app_box, len_box, cell_box, cell_box0, cells_box, cells_box0, store_box, store_box0, cellB_bx, cellsB_bx, storeB_bx, BodyK, resVs, resV, retV, box_all, cast_lit, wrap_1, wrap_2, wrap_3, wrap_4, ho, hc, hoi, hg0, hv0, h6, h6', h11, h11', wi, -eqAV_agg, eqAV_I, -cellsOf_agg, vIns_len, take_vIns, cellsOf_vIns, setAll_ins]
        exact .go i1 (by omega) (by simp) rfl (by omega)
    · have h6' : ¬ (6 : Int) < c.op := by omega
      have h7' : ¬ (c.op : Int) = 7 := by omega
      have h8' : ¬ (c.op : Int) = 8 := by omega
      simp [new_box, app_box, len_box, cell_box, cell_box0, cells_box, cells_box0, store_box, store_box0, cellB_bx, cellsB_bx, storeB_bx, BodyK, resVs, resV, retV, box_all, cast_lit, wrap_1, wrap_2, wrap_3, wrap_4, ho, hc, hoi, hg0, hv0, h6, h6', h7', h8', wi, -eqAV_agg, eqAV_I, -cellsOf_agg, vIns_len, take_vIns, cellsOf_vIns, setAll_ins]
      exact .go i1 (by omega) (by simp) rfl (by omega)
  · obtain rfl : i = code.length := by omega
    have hif : ¬ (code.length : Int) < code.length := by omega
    rw [pwp_seq]
    simp [new_box, app_box, len_box, cell_box, cell_box0, cells_box, cells_box0, store_box, store_box0, cellB_bx, cellsB_bx, storeB_bx, BodyK, resVs, resV, retV, box_all, cast_lit, wrap_1, wrap_2, wrap_3, wrap_4, hif]
    refine known16_call (noU_box hh fun r hr => by simp [bx] at hr; simp [hr]) ?_
    simp [new_box, app_box, len_box, cell_box, cell_box0, cells_box, cells_box0, store_box, store_box0, cellB_bx, cellsB_bx, storeB_bx, BodyK, resVs, resV, retV, box_all, cast_lit, wrap_1, wrap_2, wrap_3, wrap_4, callK_def]
theorem FoldTouches_spec (l : List (List Nat)) (hl : Short l ∧ ∀ c ∈ l, Bytes c) : PCall prog 6 [vL (vL v8) l] [] fun r _ => r = .bool true := FoldTouches_spec' [] .nil l hl
section
variable {h : Heap} {K : Value → Heap → Prop}
end
end Pm
