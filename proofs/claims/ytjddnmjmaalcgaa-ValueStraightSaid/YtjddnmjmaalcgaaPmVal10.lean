/- Numbers that are known: rows alike; code that goes straight on.
   No condition: plain lemmas. -/
import Derived.Test.YtjddnmjmaalcgaaPmVal7
import Derived.Test.YtjddnmjmaalcgaaPmValLC
import Derived.Test.YtjddnmjmaalcgaaPmCfgCode

namespace Pm
set_option linter.unusedSimpArgs false
set_option linter.unusedVariables false
open Go Am
open Go.Proofs.Try (prog)

/-- What is known ahead of each, in code that goes straight on. -/
def runV (code : List Ins) : Nat → V4
  | 0 => one4
  | i + 1 => match code[i]? with
    | some c => doV c (runV code i)
    | none => zero4
theorem runV_succ {code : List Ins} {i : Nat} {c : Ins} (h : code[i]? = some c) : runV code (i + 1) = doV c (runV code i) := by
  show (match code[i]? with | some c => doV c (runV code i) | none => zero4) = _
  rw [h]
theorem runV_bare (code : List Ins) : ∀ i, Bare4 (runV code i)
  | 0 => bare_one4
  | i + 1 => by
    unfold runV
    split
    · exact doV_bare
    · exact bare_zero
theorem nextsOf_on {i : Nat} {c : Ins} (h : c.op ≠ 10 ∧ c.op ≠ 11) : nextsOf i c = [((i + 1 : Nat) : Int)] := by
  unfold nextsOf
  rw [if_neg h.1, if_neg h.2]
  rfl
theorem straight_least {code : List Ins} (h : ∀ c ∈ code, c.op ≠ 10 ∧ c.op ≠ 11) : Least code ((List.range code.length).map (runV code)) := by
  have hr : ∀ i, i < code.length → rowF ((List.range code.length).map (runV code)) i = runV code i := fun i hi => rowF_at (by simp [hi])
  have hz : ∀ i, ¬ i < code.length → rowF ((List.range code.length).map (runV code)) i = zero4 := fun i hi => by
    unfold rowF
    rw [List.getElem?_eq_none (by simp; omega)]
    rfl
  refine ⟨by simp, fun hn => ⟨fun i => ?_, ?_, ?_⟩, fun F hF i => ?_⟩
  · by_cases hi : i < code.length
    · rw [hr i hi]; exact runV_bare _ _
    · rw [hz i hi]; exact bare_zero
  · rw [hr 0 hn]; exact .refl _
  · rintro i k x hk ⟨_, c, l, hc, hl, hkl, rfl⟩
    have hi := (List.getElem?_eq_some_iff.1 hc).1
    rw [succs_at, hc] at hl
    cases hl
    rw [nextsOf_on (h c (List.mem_of_getElem? hc))] at hkl
    have e : k = i + 1 := by simp at hkl; omega
    subst e
    rw [hr _ hk, hr i hi, runV_succ hc]
    exact .refl _
  · by_cases hi : i < code.length
    · rw [hr i hi]
      have key : ∀ i, i < code.length → Come (succs code) i ∧ le4 (runV code i) (F i) := by
        intro i
        induction i with
        | zero => exact fun h0 => ⟨.start (by rw [succs_len]; exact h0), hF.start⟩
        | succ i ih =>
          intro hi
          have hi' : i < code.length := by omega
          obtain ⟨h1, h2⟩ := ih hi'
          have hc : code[i]? = some code[i] := by simp [hi']
          have hl : (succs code)[i]? = some [((i + 1 : Nat) : Int)] := by
            rw [succs_at, hc, Option.map_some, nextsOf_on (h _ (List.getElem_mem hi'))]
          refine ⟨.step h1 hl (by simp) (by rw [succs_len]; exact hi), ?_⟩
          rw [runV_succ hc]
          exact (doV_mono h2).trans doV_bare (hF.bare _) (hF.flow i (i + 1) _ hi ⟨h1, _, _, hc, hl, by simp, rfl⟩)
      exact (key i hi).2
    · rw [hz i hi]; exact zero_le _
section
variable {h : Heap} {K : Value → Heap → Prop}
theorem Same14_call {a : List V4} (hl : a.length ≤ 4000) (hk : K (vB true) h) : PCall prog 27 [vM 8 c4 a, vM 8 c4 a] h K := by
  refine call_rSame14 (by simp) ?_
  simp [-pwp_seq, new_box, app_box, len_box, cell_box, cell_box0, cells_box, cells_box0, store_box, store_box0, cellB_bx, cellsB_bx, storeB_bx, BodyK, resVs, resV, retV, box_all, cast_lit, wrap_1, wrap_2, wrap_3, wrap_4, agg_c4, cellsOf_vK, take_c4, take_vIns, vIns_len, setAll_c4, c4_len, eqAV_K, cellsB_bxV, storeB_bxV, cellB_bxL, storeB_bxB, bx_rep4, bx_repB, pCut_own, q_row, q_head, q_cut, q_push, pElems_own, at_plus, at_last, set_plus, set_last, c_rSame14]
  rw [pwp_seq]
  simp [-pwp_seq, new_box, app_box, len_box, cell_box, cell_box0, cells_box, cells_box0, store_box, store_box0, cellB_bx, cellsB_bx, storeB_bx, BodyK, resVs, resV, retV, box_all, cast_lit, wrap_1, wrap_2, wrap_3, wrap_4, agg_c4, cellsOf_vK, take_c4, take_vIns, vIns_len, setAll_c4, c4_len, eqAV_K, cellsB_bxV, storeB_bxV, cellB_bxL, storeB_bxB, bx_rep4, bx_repB, pCut_own, q_row, q_head, q_cut, q_push, pElems_own, at_plus, at_last, set_plus, set_last]
  rw [pwp_seq]
  simp [-pwp_seq, new_box, app_box, len_box, cell_box, cell_box0, cells_box, cells_box0, store_box, store_box0, cellB_bx, cellsB_bx, storeB_bx, BodyK, resVs, resV, retV, box_all, cast_lit, wrap_1, wrap_2, wrap_3, wrap_4, agg_c4, cellsOf_vK, take_c4, take_vIns, vIns_len, setAll_c4, c4_len, eqAV_K, cellsB_bxV, storeB_bxV, cellB_bxL, storeB_bxB, bx_rep4, bx_repB, pCut_own, q_row, q_head, q_cut, q_push, pElems_own, at_plus, at_last, set_plus, set_last]
  refine loop_r (σ := Nat) (fun i fr h' => fr 0 = vM 8 c4 a ∧ fr 1 = vM 8 c4 a ∧ fr 5 = vI i ∧ i ≤ a.length ∧ h' = h) (fun i => a.length - i) ?_ 0 ⟨by simp, by simp, by simp, by simp, rfl⟩
  rintro i fr _ ⟨f0, f1, f5, hi, rfl⟩
  by_cases hin : i < a.length
  · obtain ⟨x, hx⟩ : ∃ x, a[i]? = some x := ⟨_, List.getElem?_eq_getElem hin⟩
    obtain ⟨i1, hi1, wi⟩ := wrap_next (show i < lim by simp [lim]; omega)
    have hii : (i : Int) < a.length := by omega
    rw [pwp_seq]
    simp [new_box, app_box, len_box, cell_box, cell_box0, cells_box, cells_box0, store_box, store_box0, cellB_bx, cellsB_bx, storeB_bx, BodyK, resVs, resV, retV, box_all, cast_lit, wrap_1, wrap_2, wrap_3, wrap_4, agg_c4, cellsOf_vK, take_c4, take_vIns, vIns_len, setAll_c4, c4_len, eqAV_K, cellsB_bxV, storeB_bxV, cellB_bxL, storeB_bxB, bx_rep4, bx_repB, pCut_own, q_row, q_head, q_cut, q_push, pElems_own, at_plus, at_last, set_plus, set_last, f0, f1, f5, hii, hx, wi]
    exact .go i1 (by omega) ⟨by simp [f0], by simp [f1], by simp, by omega, rfl⟩
  · have hii : ¬ (i : Int) < a.length := by omega
    rw [pwp_seq]
    simp [new_box, app_box, len_box, cell_box, cell_box0, cells_box, cells_box0, store_box, store_box0, cellB_bx, cellsB_bx, storeB_bx, BodyK, resVs, resV, retV, box_all, cast_lit, wrap_1, wrap_2, wrap_3, wrap_4, agg_c4, cellsOf_vK, take_c4, take_vIns, vIns_len, setAll_c4, c4_len, eqAV_K, cellsB_bxV, storeB_bxV, cellB_bxL, storeB_bxB, bx_rep4, bx_repB, pCut_own, q_row, q_head, q_cut, q_push, pElems_own, at_plus, at_last, set_plus, set_last, f0, f1, f5, hii]
    exact hk
def code14 : List Ins := [⟨1, 0, 3, 0⟩, ⟨3, 1, 0, 0⟩, ⟨9, 1, 0, 0⟩]
def out14 : List V4 := [⟨oneV 0, oneV 0, oneV 0, oneV 0⟩, ⟨oneV 3, oneV 0, oneV 0, oneV 0⟩, ⟨oneV 3, oneV 6, oneV 0, oneV 0⟩]
theorem least14 : Least code14 out14 := by
  have e : out14 = (List.range code14.length).map (runV code14) := by decide +kernel
  rw [e]
  exact straight_least (by simp [code14])
set_option maxHeartbeats 1000000 in
theorem known14_call (hk : K (vB true) h) : PCall prog 26 [] h K := by
  refine Pure.go (Pure.one (p := vB true) rfl fun h => ?_) hk
  refine call_known14 (by simp) ?_
  have hcs : ∀ h : Heap, frzV (h ++ [bx [.int .u8 1, .int .i64 0, .int .i64 3, .int .i64 0, .int .u8 3, .int .i64 1, .int .i64 0, .int .i64 0, .int .u8 9, .int .i64 1, .int .i64 0, .int .i64 0] 4]) 4 (.slice (some ⟨h.length, 0, none⟩) 3 0) = some (vM 4 vIns code14, h ++ [.row ⟨[.int .u8 1, .int .i64 0, .int .i64 3, .int .i64 0, .int .u8 3, .int .i64 1, .int .i64 0, .int .i64 0, .int .u8 9, .int .i64 1, .int .i64 0, .int .i64 0], 4, 0, false⟩]) := fun h => frzV_new (h := h) rfl rfl rfl
  simp [new_box, app_box, len_box, cell_box, cell_box0, cells_box, cells_box0, store_box, store_box0, cellB_bx, cellsB_bx, storeB_bx, BodyK, resVs, resV, retV, box_all, cast_lit, wrap_1, wrap_2, wrap_3, wrap_4, c_known14, hcs]
  refine vOf_call (code := code14) (by decide) (by decide) fun out ho => ?_
  rw [ho.unique least14]
  have hl : out14.length = 3 := rfl
  have h0 : out14[0]? = some ⟨oneV 0, oneV 0, oneV 0, oneV 0⟩ := rfl
  have h2 : out14[2]? = some ⟨oneV 3, oneV 6, oneV 0, oneV 0⟩ := rfl
  obtain ⟨o, hoo⟩ : ∃ o, o = out14 := ⟨_, rfl⟩
  rw [← hoo] at hl h0 h2 ⊢
  have g0 : o[0]'(by omega) = ⟨oneV 0, oneV 0, oneV 0, oneV 0⟩ := (List.getElem?_eq_some_iff.1 h0).2
  have g2 : o[2]'(by omega) = ⟨oneV 3, oneV 6, oneV 0, oneV 0⟩ := (List.getElem?_eq_some_iff.1 h2).2
  simp [new_box, app_box, len_box, cell_box, cell_box0, cells_box, cells_box0, store_box, store_box0, cellB_bx, cellsB_bx, storeB_bx, BodyK, resVs, resV, retV, box_all, cast_lit, wrap_1, wrap_2, wrap_3, wrap_4, callK_def, hl, g0, g2, c4, oneV]
  refine vMeet_call (v := noV) (w := oneV 6) ?_
  rw [show meetV noV (oneV 6) = oneV 6 by decide]
  simp [new_box, app_box, len_box, cell_box, cell_box0, cells_box, cells_box0, store_box, store_box0, cellB_bx, cellsB_bx, storeB_bx, BodyK, resVs, resV, retV, box_all, cast_lit, wrap_1, wrap_2, wrap_3, wrap_4, callK_def, hl, g0, g2, c4, oneV, vV]
end
end Pm
/- Numbers that are known: what is known in any code is what the document says.
   No condition: plain lemmas. -/
namespace Pm
set_option linter.unusedSimpArgs false
set_option linter.unusedVariables false
open Go Am
open Go.Proofs.Try (prog)

theorem mkIns_op (a b : Nat) (at_ n : Int) : (mkIns a b at_ n).op = opsL[a % 36]?.getD 0 := by
  unfold mkIns
  simp only [apply_ite Ins.op, ite_self]
theorem opsL_le (k : Nat) : opsL[k]?.getD 0 ≤ 27 := by
  have h : ∀ x ∈ opsL, x ≤ 27 := by decide
  cases e : opsL[k]? with
  | none => simp
  | some x => simpa using h x (List.mem_of_getElem? e)
theorem codeOf_op {l : List (List Nat)} {i : Nat} {c : Ins} (h : c ∈ codeOf l i) : c.op ≤ 27 := by
  unfold codeOf at h
  rcases List.mem_append.1 h with h | h
  · unfold headOf at h
    split at h
    · obtain ⟨k, _, rfl⟩ := List.mem_map.1 h
      simp
    · simp at h
  · unfold bodyOf at h
    obtain ⟨k, _, rfl⟩ := List.mem_map.1 h
    rw [mkIns_op]
    exact opsL_le _
set_option maxHeartbeats 1000000 in
theorem ValueOf_spec' (h : Heap) (code : List Ins) (l : List (List Nat)) (k : Nat) (hc : Short code ∧ ∀ i ∈ code, i.In) (hl : Short l ∧ ∀ c ∈ l, Bytes c) (hk : k ≤ 255) : PCall prog 10 [vM 4 vIns code, vL (vL v8) l, v8 k] h fun r _ => r = .bool true := by
  refine call_ValueOf (by simp) ?_
  by_cases h40 : 40 < code.length
  · have h40' : (40 : Int) < code.length := by omega
    simp [c_ValueOf, h40']
    refine known14_call ?_
    simp [callK_def, BodyK, resVs, resV, retV]
  · have h40' : ¬ (40 : Int) < code.length := by omega
    simp [new_box, app_box, len_box, cell_box, cell_box0, cells_box, cells_box0, store_box, store_box0, cellB_bx, cellsB_bx, storeB_bx, BodyK, resVs, resV, retV, box_all, cast_lit, wrap_1, wrap_2, wrap_3, wrap_4, c_ValueOf, h40']
    refine known14_call ?_
    simp [new_box, app_box, len_box, cell_box, cell_box0, cells_box, cells_box0, store_box, store_box0, cellB_bx, cellsB_bx, storeB_bx, BodyK, resVs, resV, retV, box_all, cast_lit, wrap_1, wrap_2, wrap_3, wrap_4, callK_def]
    refine Make_ok hl ?_
    have hn := nThr_le l
    have hlt : k % nThr l < (makeP l).threads.length := by rw [threads_len]; exact Nat.mod_lt _ (by omega)
    obtain ⟨x, hx⟩ : ∃ x, (makeP l).threads[k % nThr l]? = some x := ⟨_, List.getElem?_eq_getElem hlt⟩
    have hxl := threads_at hx
    have hxo : ∀ c ∈ x, c.op ≤ 255 := fun c hc => by
      rw [hxl.1] at hc
      have := codeOf_op hc
      omega
    have wk : IntKind.i64.wrap (k : Int) = k := wrap_i64 (by omega) (by omega)
    simp [new_box, app_box, len_box, cell_box, cell_box0, cells_box, cells_box0, store_box, store_box0, cellB_bx, cellsB_bx, storeB_bx, BodyK, resVs, resV, retV, box_all, cast_lit, wrap_1, wrap_2, wrap_3, wrap_4, callK_def, vProg, wk, threads_len]
    have hrem : ((k : Int)).tmod (nThr l : Int) = ((k % nThr l : Nat) : Int) := by rw [Int.tmod_eq_emod_of_nonneg (by omega)]; rfl
    have hn0 : ¬ nThr l = 0 := by omega
    obtain ⟨d, hd⟩ : ∃ d, d = k % nThr l := ⟨_, rfl⟩
    rw [← hd] at hrem hx
    have wd : IntKind.i64.wrap (d : Int) = d := wrap_i64 (by omega) (by have := Nat.mod_lt k (show nThr l > 0 by omega); omega)
    simp [new_box, app_box, len_box, cell_box, cell_box0, cells_box, cells_box0, store_box, store_box0, cellB_bx, cellsB_bx, storeB_bx, BodyK, resVs, resV, retV, box_all, cast_lit, wrap_1, wrap_2, wrap_3, wrap_4, hrem, hn0, hx, wd]
    refine vOf_call (by omega) (fun c h => (hc.2 c h).op) fun out ho => ?_
    simp [new_box, app_box, len_box, cell_box, cell_box0, cells_box, cells_box0, store_box, store_box0, cellB_bx, cellsB_bx, storeB_bx, BodyK, resVs, resV, retV, box_all, cast_lit, wrap_1, wrap_2, wrap_3, wrap_4, callK_def]
    refine rOf_call (by omega) fun out' ho' => ?_
    rw [ho'.unique ho]
    have hol := ho.len
    simp [new_box, app_box, len_box, cell_box, cell_box0, cells_box, cells_box0, store_box, store_box0, cellB_bx, cellsB_bx, storeB_bx, BodyK, resVs, resV, retV, box_all, cast_lit, wrap_1, wrap_2, wrap_3, wrap_4, callK_def]
    refine Same14_call (by omega) ?_
    simp [new_box, app_box, len_box, cell_box, cell_box0, cells_box, cells_box0, store_box, store_box0, cellB_bx, cellsB_bx, storeB_bx, BodyK, resVs, resV, retV, box_all, cast_lit, wrap_1, wrap_2, wrap_3, wrap_4, callK_def]
    refine vOf_call (by omega) hxo fun out ho => ?_
    simp [new_box, app_box, len_box, cell_box, cell_box0, cells_box, cells_box0, store_box, store_box0, cellB_bx, cellsB_bx, storeB_bx, BodyK, resVs, resV, retV, box_all, cast_lit, wrap_1, wrap_2, wrap_3, wrap_4, callK_def]
    refine rOf_call (by omega) fun out' ho' => ?_
    rw [ho'.unique ho]
    have hol := ho.len
    simp [new_box, app_box, len_box, cell_box, cell_box0, cells_box, cells_box0, store_box, store_box0, cellB_bx, cellsB_bx, storeB_bx, BodyK, resVs, resV, retV, box_all, cast_lit, wrap_1, wrap_2, wrap_3, wrap_4, callK_def]
    refine Same14_call (by omega) ?_
    simp [new_box, app_box, len_box, cell_box, cell_box0, cells_box, cells_box0, store_box, store_box0, cellB_bx, cellsB_bx, storeB_bx, BodyK, resVs, resV, retV, box_all, cast_lit, wrap_1, wrap_2, wrap_3, wrap_4, callK_def]
theorem ValueOf_spec (code : List Ins) (l : List (List Nat)) (k : Nat) (hc : Short code ∧ ∀ i ∈ code, i.In) (hl : Short l ∧ ∀ c ∈ l, Bytes c) (hk : k ≤ 255) : PCall prog 10 [vM 4 vIns code, vL (vL v8) l, v8 k] [] fun r _ => r = .bool true := ValueOf_spec' [] code l k hc hl hk
end Pm
