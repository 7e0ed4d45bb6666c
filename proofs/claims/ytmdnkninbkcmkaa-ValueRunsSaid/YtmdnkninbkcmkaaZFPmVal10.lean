/- Numbers that are known: rows alike; code that goes straight on.
   No condition: plain lemmas. -/

import Derived.Test.YtmdnkninbkcmkaaZFPmVal7
import Derived.Test.YtmdnkninbkcmkaaZFPmCfgC
import Derived.Test.YtmdnkninbkcmkaaZFPmCfgCode
namespace Pm
set_option linter.unusedSimpArgs false
set_option linter.unusedVariables false
open Go Am
open Go.Proofs.Try (prog)

/-- What is known ahead of each, in code that goes straight on. -/
def runV (code : List Ins) : Nat → V4
  | 0 => one4
  | i + 1 => match code[i]? with
    | some c => doV c (runV code i)
    | none => zero4
theorem runV_succ {code : List Ins} {i : Nat} {c : Ins} (h : code[i]? = some c) : runV code (i + 1) = doV c (runV code i) := by
  show (match code[i]? with | some c => doV c (runV code i) | none => zero4) = _
  rw [h]
theorem runV_bare (code : List Ins) : ∀ i, Bare4 (runV code i)
  | 0 => bare_one4
  | i + 1 => by
    unfold runV
    split
    · exact doV_bare
    · exact bare_zero
theorem nextsOf_on {i : Nat} {c : Ins} (h : c.op ≠ 10 ∧ c.op ≠ 11) : nextsOf i c = [((i + 1 : Nat) : Int)] := by
  unfold nextsOf
  rw [if_neg h.1, if_neg h.2]
  rfl
theorem straight_least {code : List Ins} (h : ∀ c ∈ code, c.op ≠ 10 ∧ c.op ≠ 11) : Least code ((List.range code.length).map (runV code)) := by
  have hr : ∀ i, i < code.length → rowF ((List.range code.length).map (runV code)) i = runV code i := fun i hi => rowF_at (by simp [hi])
  have hz : ∀ i, ¬ i < code.length → rowF ((List.range code.length).map (runV code)) i = zero4 := fun i hi => by
    unfold rowF
    rw [List.getElem?_eq_none (by simp; omega)]
    rfl
  refine ⟨by simp, fun hn => ⟨fun i => ?_, ?_, ?_⟩, fun F hF i => ?_⟩
  · by_cases hi : i < code.length
    · rw [hr i hi]; exact runV_bare _ _
    · rw [hz i hi]; exact bare_zero
  · rw [hr 0 hn]; exact .refl _
  · rintro i k x hk ⟨_, c, l, hc, hl, hkl, rfl⟩
    have hi := (List.getElem?_eq_some_iff.1 hc).1
    rw [succs_at, hc] at hl
    cases hl
    rw [nextsOf_on (h c (List.mem_of_getElem? hc))] at hkl
    have e : k = i + 1 := by simp at hkl; omega
    subst e
    rw [hr _ hk, hr i hi, runV_succ hc]
    exact .refl _
  · by_cases hi : i < code.length
    · rw [hr i hi]
      have key : ∀ i, i < code.length → Come (succs code) i ∧ le4 (runV code i) (F i) := by
        intro i
        induction i with
        | zero => exact fun h0 => ⟨.start (by rw [succs_len]; exact h0), hF.start⟩
        | succ i ih =>
          intro hi
          have hi' : i < code.length := by omega
          obtain ⟨h1, h2⟩ := ih hi'
          have hc : code[i]? = some code[i] := by simp [hi']
          have hl : (succs code)[i]? = some [((i + 1 : Nat) : Int)] := by
            rw [succs_at, hc, Option.map_some, nextsOf_on (h _ (List.getElem_mem hi'))]
          refine ⟨.step h1 hl (by simp) (by rw [succs_len]; exact hi), ?_⟩
          rw [runV_succ hc]
          exact (doV_mono h2).trans doV_bare (hF.bare _) (hF.flow i (i + 1) _ hi ⟨h1, _, _, hc, hl, by simp, rfl⟩)
      exact (key i hi).2
    · rw [hz i hi]; exact zero_le _
section
variable {h : Heap} {K : Value → Heap → Prop}
def code14 : List Ins := [⟨1, 0, 3, 0⟩, ⟨3, 1, 0, 0⟩, ⟨9, 1, 0, 0⟩]
def out14 : List V4 := [⟨oneV 0, oneV 0, oneV 0, oneV 0⟩, ⟨oneV 3, oneV 0, oneV 0, oneV 0⟩, ⟨oneV 3, oneV 6, oneV 0, oneV 0⟩]
theorem least14 : Least code14 out14 := by
  have e : out14 = (List.range code14.length).map (runV code14) := by decide +kernel
  rw [e]
  exact straight_least (by simp [code14])
set_option maxHeartbeats 1000000 in
theorem known14_call (hk : K (vB true) h) : PCall prog 18 [] h K := by
  refine Pure.go (Pure.one (p := vB true) rfl fun h => ?_) hk
  refine call_known14 (by simp) ?_
  have hcs : ∀ h : Heap, frzV (h ++ [bx [.int .u8 1, .int .i64 0, .int .i64 3, .int .i64 0, .int .u8 3, .int .i64 1, .int .i64 0, .int .i64 0, .int .u8 9, .int .i64 1, .int .i64 0, .int .i64 0] 4]) 4 (.slice (some ⟨h.length, 0, none⟩) 3 0) = some (vM 4 vIns code14, h ++ [.row ⟨[.int .u8 1, .int .i64 0, .int .i64 3, .int .i64 0, .int .u8 3, .int .i64 1, .int .i64 0, .int .i64 0, .int .u8 9, .int .i64 1, .int .i64 0, .int .i64 0], 4, 0, false⟩]) := fun h => frzV_new (h := h) rfl rfl rfl
  simp [new_box, app_box, len_box, cell_box, cell_box0, cells_box, cells_box0, store_box, store_box0, cellB_bx, cellsB_bx, storeB_bx, BodyK, resVs, resV, retV, box_all, cast_lit, wrap_1, wrap_2, wrap_3, wrap_4, c_known14, hcs]
  refine vOf_call (code := code14) (by decide) (by decide) fun out ho => ?_
  rw [ho.unique least14]
  have hl : out14.length = 3 := rfl
  have h0 : out14[0]? = some ⟨oneV 0, oneV 0, oneV 0, oneV 0⟩ := rfl
  have h2 : out14[2]? = some ⟨oneV 3, oneV 6, oneV 0, oneV 0⟩ := rfl
  obtain ⟨o, hoo⟩ : ∃ o, o = out14 := ⟨_, rfl⟩
  rw [← hoo] at hl h0 h2 ⊢
  have g0 : o[0]'(by omega) = ⟨oneV 0, oneV 0, oneV 0, oneV 0⟩ := (List.getElem?_eq_some_iff.1 h0).2
  have g2 : o[2]'(by omega) = ⟨oneV 3, oneV 6, oneV 0, oneV 0⟩ := (List.getElem?_eq_some_iff.1 h2).2
  simp [new_box, app_box, len_box, cell_box, cell_box0, cells_box, cells_box0, store_box, store_box0, cellB_bx, cellsB_bx, storeB_bx, BodyK, resVs, resV, retV, box_all, cast_lit, wrap_1, wrap_2, wrap_3, wrap_4, callK_def, hl, g0, g2, c4, oneV]
  refine vMeet_call (v := noV) (w := oneV 6) ?_
  rw [show meetV noV (oneV 6) = oneV 6 by decide]
  simp [new_box, app_box, len_box, cell_box, cell_box0, cells_box, cells_box0, store_box, store_box0, cellB_bx, cellsB_bx, storeB_bx, BodyK, resVs, resV, retV, box_all, cast_lit, wrap_1, wrap_2, wrap_3, wrap_4, callK_def, hl, g0, g2, c4, oneV, vV]
end
end Pm
/- Numbers that are known: what is known in any code is what the document says.
   No condition: plain lemmas. -/
namespace Pm
set_option linter.unusedSimpArgs false
set_option linter.unusedVariables false
open Go Am
open Go.Proofs.Try (prog)

end Pm
