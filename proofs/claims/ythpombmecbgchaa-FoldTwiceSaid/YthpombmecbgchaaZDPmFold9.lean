/- What is known is not reckoned: the chapter's example; the program tells what the document tells; walked.
   No condition: plain lemmas. -/

import Derived.Test.YthpombmecbgchaaZDPmFold6
import Derived.Test.YthpombmecbgchaaZDPmCfgCode
namespace Pm
set_option linter.unusedSimpArgs false
set_option linter.unusedVariables false
open Go Am
open Go.Proofs.Try (prog)

section
variable {h : Heap} {K : Value → Heap → Prop}
set_option maxHeartbeats 4000000 in
theorem known16_call (hh : NoU h) (hk : K (vB true) h) : PCall prog 9 [] h K := by
  refine PCall.forget ?_
  refine call_known16 (by simp) ?_
  have hfa : frzV (h ++ [bx [.int .u8 1, .int .i64 0, .int .i64 3, .int .i64 0, .int .u8 3, .int .i64 1, .int .i64 0, .int .i64 0, .int .u8 9, .int .i64 1, .int .i64 0, .int .i64 0] 4]) 4 (.slice (some ⟨h.length, 0, none⟩) 3 0) = some (vM 4 vIns c16, h ++ [.row ⟨c16.flatMap vIns, 4, 0, false⟩]) := frzV_new (h := h) rfl rfl rfl
  simp [new_box, app_box, len_box, cell_box, cell_box0, cells_box, cells_box0, store_box, store_box0, cellB_bx, cellsB_bx, storeB_bx, BodyK, resVs, resV, retV, box_all, cast_lit, wrap_1, wrap_2, wrap_3, wrap_4, c_known16, hfa]
  refine fCode_call (code := c16) (hh.app fun r hr h1 => by simp at hr; rw [hr] at h1; cases h1) (by decide) (by decide) fun oa fa ha => ?_
  have e : oa = [⟨0, 0, 0, 0⟩, ⟨1, 1, 6, 0⟩, ⟨9, 1, 0, 0⟩] ∧ fa = [0, 1, 2] := by
    unfold FoldedL at ha
    rw [if_neg (by decide)] at ha
    exact ⟨out16 ha.1, ha.2⟩
  obtain ⟨rfl, rfl⟩ := e
  simp [new_box, app_box, len_box, cell_box, cell_box0, cells_box, cells_box0, store_box, store_box0, cellB_bx, cellsB_bx, storeB_bx, BodyK, resVs, resV, retV, box_all, cast_lit, wrap_1, wrap_2, wrap_3, wrap_4, callK_def, vEdit, vIns]
  exact ⟨_, .cell rfl, hk⟩
end
theorem noU_box {h : Heap} (hh : NoU h) {rs : List Ob} (hr : ∀ r, Ob.row r ∈ rs → r.esz ≠ 1) : NoU (h ++ rs) := hh.app fun r h1 _ => hr r h1
end Pm

/- What is known is not reckoned: three laws more, walked.
   No condition: plain lemmas. -/

namespace Pm
set_option linter.unusedSimpArgs false
set_option linter.unusedVariables false
open Go Am
open Go.Proofs.Try (prog)

section
variable {h : Heap} {K : Value → Heap → Prop}
theorem doesN_next {l : List Ins} {i i1 : Nat} {c : Ins} (hc : l[i]? = some c) (hi : i1 = i + 1) : doesN (l.take i1) = doesN (l.take i) + if c.op = 0 then 0 else 1 := by
  rw [take_snoc' hc hi]
  unfold doesN
  rw [List.countP_append]
  by_cases h : c.op = 0 <;> simp [h]
theorem does16_call {l : List Ins} (hl : l.length < lim) (hk : K (vI (doesN l)) h) : PCall prog 16 [vM 4 vIns l] h K := by
  refine call_does16 (by simp) ?_
  have hlim : lim = 1048576 := rfl
  simp [-pwp_seq, new_box, app_box, len_box, cell_box, cell_box0, cells_box, cells_box0, store_box, store_box0, cellB_bx, cellsB_bx, storeB_bx, BodyK, resVs, resV, retV, box_all, cast_lit, wrap_1, wrap_2, wrap_3, wrap_4, c_does16]
  rw [pwp_seq]
  simp [-pwp_seq, new_box, app_box, len_box, cell_box, cell_box0, cells_box, cells_box0, store_box, store_box0, cellB_bx, cellsB_bx, storeB_bx, BodyK, resVs, resV, retV, box_all, cast_lit, wrap_1, wrap_2, wrap_3, wrap_4]
  refine loop_l (σ := Nat) (fun i => [(0, vM 4 vIns l), (3, vI (doesN (l.take i))), (4, vI i)]) (fun _ => h) (fun i => i ≤ l.length) (fun i => l.length - i) 0 (by simp [doesN]) rfl (by simp) ?_
  intro i fr hi
  by_cases hlt : i < l.length
  · obtain ⟨i1, hi1, wi⟩ := wrap_next (show i < lim by omega)
    obtain ⟨c, hc⟩ : ∃ c, l[i]? = some c := ⟨_, List.getElem?_eq_getElem hlt⟩
    have hif : (i : Int) < l.length := by omega
    have hn := doesN_next hc hi1
    obtain ⟨n, hnn⟩ : ∃ n, n = doesN (l.take i) := ⟨_, rfl⟩
    have hnl : n ≤ i := by rw [hnn]; unfold doesN; exact Nat.le_trans List.countP_le_length (by simp; omega)
    rw [← hnn] at hn ⊢
    obtain ⟨n1, hn1, wn⟩ := wrap_next (show n < lim by omega)
    have hg0 : ∀ hh, (vIns c)[0]'hh = v8 c.op := fun _ => rfl
    have hv0 : (vIns c)[0]? = some (v8 c.op) := rfl
    rw [pwp_seq]
    simp [-pwp_seq, new_box, app_box, len_box, cell_box, cell_box0, cells_box, cells_box0, store_box, store_box0, cellB_bx, cellsB_bx, storeB_bx, BodyK, resVs, resV, retV, box_all, cast_lit, wrap_1, wrap_2, wrap_3, wrap_4, hif]
    rw [pwp_seq]
    by_cases h0 : c.op = 0
    · have h0' : (c.op : Int) = 0 := by omega
      rw [if_pos h0] at hn
      simp [new_box, app_box, len_box, cell_box, cell_box0, cells_box, cells_box0, store_box, store_box0, cellB_bx, cellsB_bx, storeB_bx, BodyK, resVs, resV, retV, box_all, cast_lit, wrap_1, wrap_2, wrap_3, wrap_4, hc, hg0, hv0, h0, h0', wi, -cellsOf_agg, vIns_len, take_vIns, cellsOf_vIns, setAll_ins]
      exact .go i1 (by omega) (by simp [hn]) rfl (by omega)
    · have h0' : ¬ (c.op : Int) = 0 := by omega
      rw [if_neg h0, ← hn1] at hn
      simp [new_box, app_box, len_box, cell_box, cell_box0, cells_box, cells_box0, store_box, store_box0, cellB_bx, cellsB_bx, storeB_bx, BodyK, resVs, resV, retV, box_all, cast_lit, wrap_1, wrap_2, wrap_3, wrap_4, hc, hg0, hv0, h0, h0', wi, wn, -cellsOf_agg, vIns_len, take_vIns, cellsOf_vIns, setAll_ins]
      exact .go i1 (by omega) (by simp [hn]) rfl (by omega)
  · obtain rfl : i = l.length := by omega
    have hif : ¬ (l.length : Int) < l.length := by omega
    rw [pwp_seq]
    simp [new_box, app_box, len_box, cell_box, cell_box0, cells_box, cells_box0, store_box, store_box0, cellB_bx, cellsB_bx, storeB_bx, BodyK, resVs, resV, retV, box_all, cast_lit, wrap_1, wrap_2, wrap_3, wrap_4, hif]
    exact hk
end
end Pm

/- What is known is not reckoned: two laws more, walked.
   No condition: plain lemmas. -/

namespace Pm
set_option linter.unusedSimpArgs false
set_option linter.unusedVariables false
open Go Am
open Go.Proofs.Try (prog)

set_option maxHeartbeats 4000000 in
theorem FoldTwice_spec' (h : Heap) (hh : NoU h) (l : List (List Nat)) (hl : Short l ∧ ∀ c ∈ l, Bytes c) : PCall prog 7 [vL (vL v8) l] h fun r _ => r = .bool true := by
  refine call_FoldTwice (by simp) ?_
  have hlim : lim = 1048576 := rfl
  simp [-pwp_seq, new_box, app_box, len_box, cell_box, cell_box0, cells_box, cells_box0, store_box, store_box0, cellB_bx, cellsB_bx, storeB_bx, BodyK, resVs, resV, retV, box_all, cast_lit, wrap_1, wrap_2, wrap_3, wrap_4, c_FoldTwice]
  refine Make_ok hl ?_
  have hn1 := nThr_le l
  have htl : (makeP l).threads.length = nThr l := threads_len l
  obtain ⟨code, hx⟩ : ∃ x, (makeP l).threads[0]? = some x := ⟨_, List.getElem?_eq_getElem (by omega)⟩
  have hxl := threads_at hx
  have hxo : ∀ c ∈ code, c.op ≤ 255 := fun c hc => by
    rw [hxl.1] at hc
    have := codeOf_op hc
    omega
  have hcl := hxl.2
  simp [-pwp_seq, new_box, app_box, len_box, cell_box, cell_box0, cells_box, cells_box0, store_box, store_box0, cellB_bx, cellsB_bx, storeB_bx, BodyK, resVs, resV, retV, box_all, cast_lit, wrap_1, wrap_2, wrap_3, wrap_4, callK_def, vProg, hx]
  refine fCode_call hh hxo (by omega) fun o1 f1 h1 => ?_
  unfold FoldedL at h1
  rw [if_neg (by omega)] at h1
  obtain ⟨h1, rfl⟩ := h1
  have l1 := h1.len
  have d1 := h1.does
  simp [-pwp_seq, new_box, app_box, len_box, cell_box, cell_box0, cells_box, cells_box0, store_box, store_box0, cellB_bx, cellsB_bx, storeB_bx, BodyK, resVs, resV, retV, box_all, cast_lit, wrap_1, wrap_2, wrap_3, wrap_4, callK_def, vEdit]
  refine fCode_call (noU_box hh fun r hr => by simp [bx] at hr; simp [hr]) (h1.op hxo) (by omega) fun o2 f2 h2 => ?_
  unfold FoldedL at h2
  rw [if_neg (by omega)] at h2
  obtain ⟨h2, rfl⟩ := h2
  have l2 := h2.len
  have d2 := h2.does
  have e1 : (doesN o2 : Int) ≤ doesN o1 := by omega
  have e2 : (doesN o1 : Int) ≤ doesN code := by omega
  simp [-pwp_seq, new_box, app_box, len_box, cell_box, cell_box0, cells_box, cells_box0, store_box, store_box0, cellB_bx, cellsB_bx, storeB_bx, BodyK, resVs, resV, retV, box_all, cast_lit, wrap_1, wrap_2, wrap_3, wrap_4, callK_def, vEdit]
  refine known16_call (noU_box hh fun r hr => by simp [bx] at hr; rcases hr with rfl | rfl <;> simp) ?_
  simp [-pwp_seq, new_box, app_box, len_box, cell_box, cell_box0, cells_box, cells_box0, store_box, store_box0, cellB_bx, cellsB_bx, storeB_bx, BodyK, resVs, resV, retV, box_all, cast_lit, wrap_1, wrap_2, wrap_3, wrap_4, callK_def]
  refine pOps_still ?_ (PCallS.lock (does16_call (by omega) ⟨rfl, ?_⟩))
  · simp [new_box, app_box, len_box, cell_box, cell_box0, cells_box, cells_box0, store_box, store_box0, cellB_bx, cellsB_bx, storeB_bx, BodyK, resVs, resV, retV, box_all, cast_lit, wrap_1, wrap_2, wrap_3, wrap_4]
  simp [-pwp_seq, new_box, app_box, len_box, cell_box, cell_box0, cells_box, cells_box0, store_box, store_box0, cellB_bx, cellsB_bx, storeB_bx, BodyK, resVs, resV, retV, box_all, cast_lit, wrap_1, wrap_2, wrap_3, wrap_4]
  refine does16_call (by omega) ?_
  simp [-pwp_seq, new_box, app_box, len_box, cell_box, cell_box0, cells_box, cells_box0, store_box, store_box0, cellB_bx, cellsB_bx, storeB_bx, BodyK, resVs, resV, retV, box_all, cast_lit, wrap_1, wrap_2, wrap_3, wrap_4, callK_def, e1, d2]
  refine does16_call (by omega) ?_
  simp [-pwp_seq, new_box, app_box, len_box, cell_box, cell_box0, cells_box, cells_box0, store_box, store_box0, cellB_bx, cellsB_bx, storeB_bx, BodyK, resVs, resV, retV, box_all, cast_lit, wrap_1, wrap_2, wrap_3, wrap_4, callK_def, e1, d2]
  refine does16_call (by omega) ?_
  simp [-pwp_seq, new_box, app_box, len_box, cell_box, cell_box0, cells_box, cells_box0, store_box, store_box0, cellB_bx, cellsB_bx, storeB_bx, BodyK, resVs, resV, retV, box_all, cast_lit, wrap_1, wrap_2, wrap_3, wrap_4, callK_def, e2, d1]
  refine Make_ok hl ?_
  simp [-pwp_seq, new_box, app_box, len_box, cell_box, cell_box0, cells_box, cells_box0, store_box, store_box0, cellB_bx, cellsB_bx, storeB_bx, BodyK, resVs, resV, retV, box_all, cast_lit, wrap_1, wrap_2, wrap_3, wrap_4, callK_def, vProg, hx]
  refine R2SameCode_call (by omega) ?_
  simp [-pwp_seq, new_box, app_box, len_box, cell_box, cell_box0, cells_box, cells_box0, store_box, store_box0, cellB_bx, cellsB_bx, storeB_bx, BodyK, resVs, resV, retV, box_all, cast_lit, wrap_1, wrap_2, wrap_3, wrap_4, callK_def]
theorem FoldTwice_spec (l : List (List Nat)) (hl : Short l ∧ ∀ c ∈ l, Bytes c) : PCall prog 7 [vL (vL v8) l] [] fun r _ => r = .bool true := FoldTwice_spec' [] .nil l hl
set_option maxHeartbeats 4000000 in
theorem FoldWays_spec' (h : Heap) (hh : NoU h) (n : Int) (a : Nat) (hn : -128 ≤ n ∧ n ≤ 127) (ha : a ≤ 255) : PCall prog 3 [.int .i8 n, v8 a] h fun r _ => r = .bool true := by
  refine call_FoldWays (by simp) ?_
  obtain ⟨r, hr⟩ : ∃ r, r = a % 4 := ⟨_, rfl⟩
  have hr4 : r < 4 := by omega
  have e1 : (a : Int).tmod 4 = (r : Int) := by rw [Int.tmod_eq_emod_of_nonneg (by omega)]; omega
  have w1 : IntKind.u8.wrap (r : Int) = r := wrap_u8 (by omega) (by omega)
  have w2 : IntKind.i64.wrap (r : Int) = r := wrap_i64 (by omega) (by omega)
  have w3 : IntKind.i64.wrap n = n := wrap_i64 (by omega) (by omega)
  have hfz : frzV (h ++ [bx [.int .u8 1, vI (r : Int), vI n, .int .i64 0, .int .u8 11, vI (r : Int), .int .i64 3, .int .i64 0, .int .u8 9, vI (r : Int), .int .i64 0, .int .i64 0] 4]) 4 (.slice (some ⟨h.length, 0, none⟩) 3 0) = some (vM 4 vIns (waysC r n), h ++ [.row ⟨(waysC r n).flatMap vIns, 4, 0, false⟩]) := frzV_new (h := h) rfl rfl rfl
  simp [-pwp_seq, new_box, app_box, len_box, cell_box, cell_box0, cells_box, cells_box0, store_box, store_box0, cellB_bx, cellsB_bx, storeB_bx, BodyK, resVs, resV, retV, box_all, cast_lit, wrap_1, wrap_2, wrap_3, wrap_4, c_FoldWays, e1, w1, w2, w3, hfz]
  refine fCode_call (code := waysC r n) (hh.app fun r hr h1 => by simp at hr; rw [hr] at h1; cases h1) (fun c hc => by
    simp only [waysC, List.mem_cons, List.not_mem_nil, or_false] at hc
    rcases hc with rfl | rfl | rfl
    · show (1 : Nat) ≤ 255; decide
    · show (11 : Nat) ≤ 255; decide
    · show (9 : Nat) ≤ 255; decide) (by show (3 : Nat) ≤ lim; decide) fun out fm hS => ?_
  unfold FoldedL at hS
  rw [if_neg (by show ¬ 60 < 3; decide)] at hS
  obtain ⟨hS, rfl⟩ := hS
  obtain ⟨q0, q1, q2⟩ := ways_out (by omega) (by omega) hS
  simp [-pwp_seq, new_box, app_box, len_box, cell_box, cell_box0, cells_box, cells_box0, store_box, store_box0, cellB_bx, cellsB_bx, storeB_bx, BodyK, resVs, resV, retV, box_all, cast_lit, wrap_1, wrap_2, wrap_3, wrap_4, callK_def, vEdit]
  have hno : ∀ (z : List Value) (rs : List Ob), NoU (h ++ [Ob.row ⟨(waysC r n).flatMap vIns, 4, 0, false⟩, bx [vM 4 vIns out, vL vI (ownL (waysC r n).length)] 2, bx z 4]) := fun z rs => hh.app fun r hr h1 => by simp [bx] at hr; rcases hr with rfl | rfl | rfl <;> simp at h1 ⊢
  have b1 : 1 < out.length := by omega
  have b2 : 2 < out.length := by omega
  have hq2 : out[2]'b2 = ⟨9, r, 0, 0⟩ := (List.getElem?_eq_some_iff.1 q2).2
  rw [pwp_seq]
  by_cases h0 : n = 0
  · subst h0
    rw [if_pos rfl] at q1
    have hq1 : out[1]'b1 = ⟨10, 3, 0, 0⟩ := (List.getElem?_eq_some_iff.1 q1).2
    simp [-pwp_seq, new_box, app_box, len_box, cell_box, cell_box0, cells_box, cells_box0, store_box, store_box0, cellB_bx, cellsB_bx, storeB_bx, BodyK, resVs, resV, retV, box_all, cast_lit, wrap_1, wrap_2, wrap_3, wrap_4]
    refine known16_call (hno _ []) ?_
    simp [-pwp_seq, new_box, app_box, len_box, cell_box, cell_box0, cells_box, cells_box0, store_box, store_box0, cellB_bx, cellsB_bx, storeB_bx, BodyK, resVs, resV, retV, box_all, cast_lit, wrap_1, wrap_2, wrap_3, wrap_4, callK_def, q0, q1, q2, hq1, hq2, vIns]
  · rw [if_neg h0] at q1
    have hq1 : out[1]'b1 = nopI := (List.getElem?_eq_some_iff.1 q1).2
    simp [-pwp_seq, new_box, app_box, len_box, cell_box, cell_box0, cells_box, cells_box0, store_box, store_box0, cellB_bx, cellsB_bx, storeB_bx, BodyK, resVs, resV, retV, box_all, cast_lit, wrap_1, wrap_2, wrap_3, wrap_4, h0]
    refine known16_call (hno _ []) ?_
    simp [-pwp_seq, new_box, app_box, len_box, cell_box, cell_box0, cells_box, cells_box0, store_box, store_box0, cellB_bx, cellsB_bx, storeB_bx, BodyK, resVs, resV, retV, box_all, cast_lit, wrap_1, wrap_2, wrap_3, wrap_4, callK_def, q0, q1, q2, hq1, hq2, vIns, nopI]
theorem FoldWays_spec (n : Int) (a : Nat) (hn : -128 ≤ n ∧ n ≤ 127) (ha : a ≤ 255) : PCall prog 3 [.int .i8 n, v8 a] [] fun r _ => r = .bool true := FoldWays_spec' [] .nil n a hn ha
end Pm
