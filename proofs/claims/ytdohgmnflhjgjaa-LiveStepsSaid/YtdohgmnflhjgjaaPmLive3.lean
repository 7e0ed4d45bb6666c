/- Registers that are yet to be read: the law of one step.
   No condition: plain lemmas. -/
import Derived.Test.YtdohgmnflhjgjaaPmLive2
import Derived.Test.YtdohgmnflhjgjaaPmFlowC
import Derived.Test.YtdohgmnflhjgjaaPmLaw

namespace Pm
set_option linter.unusedSimpArgs false
set_option linter.unusedVariables false
open Go Am
open Go.Proofs.Try (prog)

def code15 : List Ins := [⟨1, 0, 1, 0⟩, ⟨9, 0, 0, 0⟩]
theorem lv15_1 {r : Nat} : Lv code15 r 1 ↔ r = 0 := by
  rw [Lv.step (c := ⟨9, 0, 0, 0⟩) rfl, show usesOf ⟨9, 0, 0, 0⟩ = 1 by decide +kernel, show nextsOf 1 ⟨9, 0, 0, 0⟩ = [2] by decide +kernel]
  have h2 : ∀ j : Nat, (j : Int) ∈ [(2 : Int)] → ¬ Lv code15 r j := fun j hj h => by
    have := h.lt
    simp [code15] at this hj; omega
  constructor
  · rintro (h | ⟨_, j, hj, h⟩)
    · rcases r with _ | r
      · rfl
      · simp [Nat.testBit_succ] at h
    · exact (h2 j hj h).elim
  · rintro rfl; exact .inl rfl
theorem lv15_0 {r : Nat} : ¬ Lv code15 r 0 := by
  rw [Lv.step (c := ⟨1, 0, 1, 0⟩) rfl, show usesOf ⟨1, 0, 1, 0⟩ = 0 by decide +kernel, show setsOf ⟨1, 0, 1, 0⟩ = 1 by decide +kernel, show nextsOf 0 ⟨1, 0, 1, 0⟩ = [1] by decide +kernel]
  rintro (h | ⟨h1, j, hj, h⟩)
  · simp at h
  · have : j = 1 := by simp at hj; omega
    subst this
    obtain rfl := lv15_1.1 h
    exact absurd h1 (by decide)
theorem one_bit {r : Nat} : (1 : Nat).testBit r = true ↔ r = 0 := by
  rcases r with _ | r
  · simp
  · simp [Nat.testBit_succ]
theorem zero_iff {r : Nat} {p : Prop} (h : ¬ p) : (0 : Nat).testBit r = true ↔ p := by simp [h]
theorem aheads15 : Aheads code15 [0, 1] := by
  refine ⟨rfl, fun i => ?_, fun i r => ?_⟩
  · rcases i with _ | _ | i
    · decide
    · decide
    · simp [gN]
  · rcases i with _ | _ | i
    · simp [gN, lv15_0]
    · show (1 : Nat).testBit r = true ↔ Lv code15 r 1
      rw [lv15_1, one_bit]
    · exact zero_iff fun h => by have := h.lt; have e : code15.length = 2 := rfl; omega
theorem behinds15 : Behinds code15 [1, 0] := by
  refine ⟨rfl, fun i => ?_, fun i r => ?_⟩
  · rcases i with _ | _ | i
    · decide
    · decide
    · simp [gN]
  · rcases i with _ | _ | i
    · show (1 : Nat).testBit r = true ↔ _
      rw [one_bit, nexts_succs (c := ⟨1, 0, 1, 0⟩) rfl, show nextsOf 0 ⟨1, 0, 1, 0⟩ = [1] by decide +kernel]
      constructor
      · rintro rfl; exact ⟨by decide, 1, by simp, lv15_1.2 rfl⟩
      · rintro ⟨_, j, hj, h⟩
        have : j = 1 := by simp at hj; omega
        subst this
        exact lv15_1.1 h
    · refine zero_iff ?_
      rintro ⟨_, j, hj, h⟩
      rw [nexts_succs (c := ⟨9, 0, 0, 0⟩) rfl, show nextsOf (0 + 1) ⟨9, 0, 0, 0⟩ = [2] by decide +kernel] at hj
      have := h.lt
      simp [code15] at this hj; omega
    · exact zero_iff fun h => by have := h.1; have e : code15.length = 2 := rfl; omega
section
variable {h : Heap} {K : Value → Heap → Prop}
set_option maxHeartbeats 1000000 in
theorem known15_call (hk : K (vB true) h) : PCall prog 26 [] h K := by
  refine Pure.go (Pure.one (p := vB true) rfl fun h => ?_) hk
  refine call_known15 (by simp) ?_
  have hfz : ∀ h : Heap, frzV (h ++ [bx [.int .u8 1, .int .i64 0, .int .i64 1, .int .i64 0, .int .u8 9, .int .i64 0, .int .i64 0, .int .i64 0] 4]) 4 (.slice (some ⟨h.length, 0, none⟩) 2 0) = some (vM 4 vIns code15, h ++ [.row ⟨[.int .u8 1, .int .i64 0, .int .i64 1, .int .i64 0, .int .u8 9, .int .i64 0, .int .i64 0, .int .i64 0], 4, 0, false⟩]) := fun h => frzV_new (h := h) rfl rfl rfl
  have hfz2 : ∀ h : Heap, frzV (h ++ [Ob.row ⟨[.int .u8 1, .int .i64 0, .int .i64 1, .int .i64 0, .int .u8 9, .int .i64 0, .int .i64 0, .int .i64 0], 4, 0, false⟩]) 4 (.slice (some ⟨h.length, 0, none⟩) 2 0) = some (vM 4 vIns code15, h ++ [.row ⟨[.int .u8 1, .int .i64 0, .int .i64 1, .int .i64 0, .int .u8 9, .int .i64 0, .int .i64 0, .int .i64 0], 4, 0, false⟩]) := fun h => frz_at (h := h) (rs := [Ob.row ⟨[.int .u8 1, .int .i64 0, .int .i64 1, .int .i64 0, .int .u8 9, .int .i64 0, .int .i64 0, .int .i64 0], 4, 0, false⟩]) (j := 0) (off := 0) (ver := 0) (r := ⟨[.int .u8 1, .int .i64 0, .int .i64 1, .int .i64 0, .int .u8 9, .int .i64 0, .int .i64 0, .int .i64 0], 4, 0, false⟩) rfl (by simp) rfl
  simp [new_box, app_box, len_box, cell_box, cell_box0, cells_box, cells_box0, store_box, store_box0, cellB_bx, cellsB_bx, storeB_bx, BodyK, resVs, resV, retV, box_all, cast_lit, wrap_1, wrap_2, wrap_3, wrap_4, c_known15, hfz]
  refine lAhead_call (code := code15) (by decide) (by decide) fun a ha => ?_
  have ea : a = [0, 1] := by unfold AheadsL at ha; rw [if_neg (by decide)] at ha; exact ha.unique aheads15
  subst ea
  simp [new_box, app_box, len_box, cell_box, cell_box0, cells_box, cells_box0, store_box, store_box0, cellB_bx, cellsB_bx, storeB_bx, BodyK, resVs, resV, retV, box_all, cast_lit, wrap_1, wrap_2, wrap_3, wrap_4, callK_def, hfz2]
  refine lBehind_call (code := code15) (by decide) (by decide) fun b hb => ?_
  have eb : b = [1, 0] := by unfold BehindsL at hb; rw [if_neg (by decide)] at hb; exact hb.unique behinds15
  subst eb
  simp [new_box, app_box, len_box, cell_box, cell_box0, cells_box, cells_box0, store_box, store_box0, cellB_bx, cellsB_bx, storeB_bx, BodyK, resVs, resV, retV, box_all, cast_lit, wrap_1, wrap_2, wrap_3, wrap_4, callK_def]
theorem uses15_call {i : Ins} (hk : K (vU (usesOf i)) h) : PCall prog 35 [.agg (vIns i).toArray] h K := by
  refine Pure.go (Pure.one (p := vU (usesOf i)) rfl fun h => ?_) hk
  refine call_uses15 (by simp) ?_
  simp [new_box, app_box, len_box, cell_box, cell_box0, cells_box, cells_box0, store_box, store_box0, cellB_bx, cellsB_bx, storeB_bx, BodyK, resVs, resV, retV, box_all, cast_lit, wrap_1, wrap_2, wrap_3, wrap_4, c_uses15, vIns]
  refine R2Uses_call (i := i) ?_
  simp [new_box, app_box, len_box, cell_box, cell_box0, cells_box, cells_box0, store_box, store_box0, cellB_bx, cellsB_bx, storeB_bx, BodyK, resVs, resV, retV, box_all, cast_lit, wrap_1, wrap_2, wrap_3, wrap_4, callK_def]
theorem sets15_call {i : Ins} (hk : K (vU (setsOf i)) h) : PCall prog 36 [.agg (vIns i).toArray] h K := by
  refine Pure.go (Pure.one (p := vU (setsOf i)) rfl fun h => ?_) hk
  refine call_sets15 (by simp) ?_
  simp [new_box, app_box, len_box, cell_box, cell_box0, cells_box, cells_box0, store_box, store_box0, cellB_bx, cellsB_bx, storeB_bx, BodyK, resVs, resV, retV, box_all, cast_lit, wrap_1, wrap_2, wrap_3, wrap_4, c_sets15, vIns]
  refine R2Sets_call (i := i) ?_
  simp [new_box, app_box, len_box, cell_box, cell_box0, cells_box, cells_box0, store_box, store_box0, cellB_bx, cellsB_bx, storeB_bx, BodyK, resVs, resV, retV, box_all, cast_lit, wrap_1, wrap_2, wrap_3, wrap_4, callK_def]
end
end Pm
