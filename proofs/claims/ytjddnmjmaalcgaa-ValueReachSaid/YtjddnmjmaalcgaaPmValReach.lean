/- Numbers that are known: nothing where nothing comes, something everywhere else.
   No condition: plain lemmas. -/
import Derived.Test.YtjddnmjmaalcgaaPmVal10
namespace Pm
set_option linter.unusedSimpArgs false
set_option linter.unusedVariables false
open Go Am
open Go.Proofs.Try (prog)

theorem Least.away {code : List Ins} {out : List V4} (h : Least code out) {i : Nat} (hi : ¬ Come (succs code) i) : rowF out i = zero4 := by
  by_cases hn : 0 < code.length
  · have hh := h.holds hn
    have hF : Holds code (fun j => open Classical in if Come (succs code) j then rowF out j else zero4) := by
      refine ⟨fun j => ?_, ?_, ?_⟩
      · by_cases e : Come (succs code) j
        · simp only [e, if_true]; exact hh.bare j
        · simp only [e, if_false]; exact bare_zero
      · have e : Come (succs code) 0 := .start (by rw [succs_len]; exact hn)
        simp only [e, if_true]; exact hh.start
      · rintro j k x hk ⟨h1, c, l, h2, h3, h4, rfl⟩
        have e : Come (succs code) k := .step h1 h3 h4 (by rw [succs_len]; exact hk)
        simp only [h1, e, if_true]
        exact hh.flow j k _ hk ⟨h1, c, l, h2, h3, h4, rfl⟩
    have := h.least _ hF i
    simp only [hi, if_false] at this
    exact this.antisymm (zero_le _)
  · unfold rowF
    rw [List.getElem?_eq_none (by rw [h.len]; omega)]
    rfl
/-- Something is known. -/
structure Pos4 (x : V4) : Prop where
  a : x.a.kind ≠ 0
  b : x.b.kind ≠ 0
  c : x.c.kind ≠ 0
  d : x.d.kind ≠ 0
theorem leV.pos {a b : Val} (h : leV a b) (ha : a.kind ≠ 0) : b.kind ≠ 0 := by
  rcases h with rfl | rfl | rfl
  · simp [noV] at ha
  · exact ha
  · simp [anyV]
theorem le4.pos {x y : V4} (h : le4 x y) (hx : Pos4 x) : Pos4 y := ⟨h.a.pos hx.a, h.b.pos hx.b, h.c.pos hx.c, h.d.pos hx.d⟩
theorem bareV_pos {v : Val} (h : v.kind ≠ 0) : (bareV v).kind ≠ 0 := by
  unfold bareV
  rw [if_neg h]
  split
  · exact h
  · simp [anyV]
/-- It reads registers that there are. -/
def Reg (c : Ins) : Prop := (c.op = 2 → 0 ≤ c.b ∧ c.b < 4) ∧ (c.op = 3 ∨ c.op = 4 ∨ c.op = 5 ∨ c.op = 6 → 0 ≤ c.b ∧ c.b < 4 ∧ 0 ≤ c.c ∧ c.c < 4)
theorem getV_pos {x : V4} (h : Pos4 x) {r : Int} (h0 : 0 ≤ r) (h4 : r < 4) : (getV x r).kind ≠ 0 := by
  refine bareV_pos ?_
  rcases at_cases h0 h4 with rfl | rfl | rfl | rfl
  · exact h.a
  · exact h.b
  · exact h.c
  · exact h.d
theorem reckonV_pos {op : Nat} {a b : Val} (ha : a.kind ≠ 0) (hb : b.kind ≠ 0) : (reckonV op a b).kind ≠ 0 := by
  unfold reckonV
  rw [if_neg (by simp [ha, hb])]
  repeat' split
  all_goals simp [anyV, oneV]
theorem valOf_pos {c : Ins} (hc : Reg c) {x : V4} (h : Pos4 x) : (valOf c x).kind ≠ 0 := by
  unfold valOf
  split
  · simp [oneV]
  · split
    · rename_i e
      exact getV_pos h (hc.1 e).1 (hc.1 e).2
    · split
      · rename_i e
        obtain ⟨h1, h2, h3, h4⟩ := hc.2 e
        exact reckonV_pos (getV_pos h h1 h2) (getV_pos h h3 h4)
      · simp [anyV]
theorem doV_pos {c : Ins} (hc : Reg c) {x : V4} (h : Pos4 x) : Pos4 (doV c x) := by
  have k : ∀ r, (x.at r).kind ≠ 0 → (doR c x r).kind ≠ 0 := fun r hr => by
    unfold doR; split
    · exact valOf_pos hc h
    · exact bareV_pos hr
  exact ⟨k 0 h.a, k 1 h.b, k 2 h.c, k 3 h.d⟩
theorem Least.pos {code : List Ins} {out : List V4} (h : Least code out) (hr : ∀ c ∈ code, Reg c) {i : Nat} (hi : Come (succs code) i) : Pos4 (rowF out i) := by
  induction hi with
  | start h0 =>
    rw [succs_len] at h0
    exact (h.holds h0).start.pos ⟨by simp [one4, oneV], by simp [one4, oneV], by simp [one4, oneV], by simp [one4, oneV]⟩
  | step hi hl hj hlt ih =>
    rename_i i j l
    have hic := succs_mem hl
    rw [succs_len] at hlt
    exact ((h.holds (by omega)).flow i j _ hlt ⟨hi, code[i], l, by simp [hic], hl, hj, rfl⟩).pos (doV_pos (hr _ (List.getElem_mem hic)) ih)
theorem mkIns_reg (a b : Nat) (at_ n : Int) : Reg (mkIns a b at_ n) := by
  have ho := mkIns_op a b at_ n
  unfold Reg
  rw [ho]
  obtain ⟨o, ho'⟩ : ∃ o, o = opsL[a % 36]?.getD 0 := ⟨_, rfl⟩
  unfold mkIns
  simp only
  rw [← ho']
  refine ⟨fun e => ?_, fun e => ?_⟩
  · subst e
    simp only
    rw [if_neg (by decide), if_pos trivial]
    simp only
    omega
  · have n1 : ¬ o = 1 := by omega
    have n2 : ¬ o = 2 := by omega
    rw [if_neg n1, if_neg n2, if_pos e]
    simp only
    omega
theorem codeOf_reg {l : List (List Nat)} {i : Nat} {c : Ins} (h : c ∈ codeOf l i) : Reg c := by
  unfold codeOf at h
  rcases List.mem_append.1 h with h | h
  · unfold headOf at h
    split at h
    · obtain ⟨k, _, rfl⟩ := List.mem_map.1 h
      exact ⟨fun e => by simp at e, fun e => by simp at e⟩
    · simp at h
  · unfold bodyOf at h
    obtain ⟨k, _, rfl⟩ := List.mem_map.1 h
    exact mkIns_reg _ _ _ _
set_option maxHeartbeats 2000000 in
theorem ValueReach_spec' (h : Heap) (l : List (List Nat)) (hl : Short l ∧ ∀ c ∈ l, Bytes c) : PCall prog 13 [vL (vL v8) l] h fun r _ => r = .bool true := by
  refine call_ValueReach (by simp) ?_
  simp [-pwp_seq, new_box, app_box, len_box, cell_box, cell_box0, cells_box, cells_box0, store_box, store_box0, cellB_bx, cellsB_bx, storeB_bx, BodyK, resVs, resV, retV, box_all, cast_lit, wrap_1, wrap_2, wrap_3, wrap_4, agg_c4, cellsOf_vK, take_c4, take_vIns, vIns_len, setAll_c4, c4_len, eqAV_K, cellsB_bxV, storeB_bxV, cellB_bxL, storeB_bxB, bx_rep4, bx_repB, pCut_own, q_row, q_head, q_cut, q_push, pElems_own, at_plus, at_last, set_plus, set_last, c_ValueReach]
  refine Make_ok hl ?_
  obtain ⟨x, hx⟩ : ∃ x, (makeP l).threads[0]? = some x := ⟨_, List.getElem?_eq_getElem (by rw [threads_len]; have := nThr_le l; omega)⟩
  have hxl := threads_at hx
  have hxo : ∀ c ∈ x, c.op ≤ 255 := fun c hc => by
    rw [hxl.1] at hc
    have := codeOf_op hc
    omega
  have hxr : ∀ c ∈ x, Reg c := fun c hc => by
    rw [hxl.1] at hc
    exact codeOf_reg hc
  have hlim : lim = 1048576 := rfl
  simp [-pwp_seq, new_box, app_box, len_box, cell_box, cell_box0, cells_box, cells_box0, store_box, store_box0, cellB_bx, cellsB_bx, storeB_bx, BodyK, resVs, resV, retV, box_all, cast_lit, wrap_1, wrap_2, wrap_3, wrap_4, agg_c4, cellsOf_vK, take_c4, take_vIns, vIns_len, setAll_c4, c4_len, eqAV_K, cellsB_bxV, storeB_bxV, cellB_bxL, storeB_bxB, bx_rep4, bx_repB, pCut_own, q_row, q_head, q_cut, q_push, pElems_own, at_plus, at_last, set_plus, set_last, callK_def, vProg, hx]
  refine vOf_call (by omega) hxo fun out ho => ?_
  simp [-pwp_seq, new_box, app_box, len_box, cell_box, cell_box0, cells_box, cells_box0, store_box, store_box0, cellB_bx, cellsB_bx, storeB_bx, BodyK, resVs, resV, retV, box_all, cast_lit, wrap_1, wrap_2, wrap_3, wrap_4, agg_c4, cellsOf_vK, take_c4, take_vIns, vIns_len, setAll_c4, c4_len, eqAV_K, cellsB_bxV, storeB_bxV, cellB_bxL, storeB_bxB, bx_rep4, bx_repB, pCut_own, q_row, q_head, q_cut, q_push, pElems_own, at_plus, at_last, set_plus, set_last, callK_def]
  refine RSuccs_call (by omega) ?_
  simp [-pwp_seq, new_box, app_box, len_box, cell_box, cell_box0, cells_box, cells_box0, store_box, store_box0, cellB_bx, cellsB_bx, storeB_bx, BodyK, resVs, resV, retV, box_all, cast_lit, wrap_1, wrap_2, wrap_3, wrap_4, agg_c4, cellsOf_vK, take_c4, take_vIns, vIns_len, setAll_c4, c4_len, eqAV_K, cellsB_bxV, storeB_bxV, cellB_bxL, storeB_bxB, bx_rep4, bx_repB, pCut_own, q_row, q_head, q_cut, q_push, pElems_own, at_plus, at_last, set_plus, set_last, callK_def]
  refine RReach_call (s := succs x) (by rw [succs_len]; omega) (succs_short x) fun seen hs1 hs2 => ?_
  have hol := ho.len
  rw [succs_len] at hs1
  simp [-pwp_seq, new_box, app_box, len_box, cell_box, cell_box0, cells_box, cells_box0, store_box, store_box0, cellB_bx, cellsB_bx, storeB_bx, BodyK, resVs, resV, retV, box_all, cast_lit, wrap_1, wrap_2, wrap_3, wrap_4, agg_c4, cellsOf_vK, take_c4, take_vIns, vIns_len, setAll_c4, c4_len, eqAV_K, cellsB_bxV, storeB_bxV, cellB_bxL, storeB_bxB, bx_rep4, bx_repB, pCut_own, q_row, q_head, q_cut, q_push, pElems_own, at_plus, at_last, set_plus, set_last, callK_def]
  rw [pwp_seq]
  simp [-pwp_seq, new_box, app_box, len_box, cell_box, cell_box0, cells_box, cells_box0, store_box, store_box0, cellB_bx, cellsB_bx, storeB_bx, BodyK, resVs, resV, retV, box_all, cast_lit, wrap_1, wrap_2, wrap_3, wrap_4, agg_c4, cellsOf_vK, take_c4, take_vIns, vIns_len, setAll_c4, c4_len, eqAV_K, cellsB_bxV, storeB_bxV, cellB_bxL, storeB_bxB, bx_rep4, bx_repB, pCut_own, q_row, q_head, q_cut, q_push, pElems_own, at_plus, at_last, set_plus, set_last, hol]
  rw [pwp_seq]
  simp [-pwp_seq, new_box, app_box, len_box, cell_box, cell_box0, cells_box, cells_box0, store_box, store_box0, cellB_bx, cellsB_bx, storeB_bx, BodyK, resVs, resV, retV, box_all, cast_lit, wrap_1, wrap_2, wrap_3, wrap_4, agg_c4, cellsOf_vK, take_c4, take_vIns, vIns_len, setAll_c4, c4_len, eqAV_K, cellsB_bxV, storeB_bxV, cellB_bxL, storeB_bxB, bx_rep4, bx_repB, pCut_own, q_row, q_head, q_cut, q_push, pElems_own, at_plus, at_last, set_plus, set_last]
  refine loop_r (σ := Nat) (fun i fr h' => fr 4 = vM 8 c4 out ∧ fr 5 = vL vB seen ∧ fr 6 = vI i ∧ i ≤ out.length ∧ h' = h) (fun i => out.length - i) ?_ 0 ⟨by simp, by simp, by simp, by simp, rfl⟩
  rintro i fr h ⟨f4, f5, f6, hi, rfl⟩
  by_cases hin : i < out.length
  · obtain ⟨o, hoi⟩ : ∃ o, out[i]? = some o := ⟨_, List.getElem?_eq_getElem hin⟩
    obtain ⟨b, hb⟩ : ∃ b, seen[i]? = some b := ⟨_, List.getElem?_eq_getElem (by omega)⟩
    obtain ⟨i1, hi1, wi⟩ := wrap_next (show i < lim by omega)
    have hbc : Come (succs x) i ↔ b = true := by rw [← hs2 i, hb]; simp
    have hii : (i : Int) < out.length := by omega
    rw [pwp_seq]
    simp [-pwp_seq, new_box, app_box, len_box, cell_box, cell_box0, cells_box, cells_box0, store_box, store_box0, cellB_bx, cellsB_bx, storeB_bx, BodyK, resVs, resV, retV, box_all, cast_lit, wrap_1, wrap_2, wrap_3, wrap_4, agg_c4, cellsOf_vK, take_c4, take_vIns, vIns_len, setAll_c4, c4_len, eqAV_K, cellsB_bxV, storeB_bxV, cellB_bxL, storeB_bxB, bx_rep4, bx_repB, pCut_own, q_row, q_head, q_cut, q_push, pElems_own, at_plus, at_last, set_plus, set_last, f4, f5, f6, hii]
    rw [pwp_seq]
    simp [-pwp_seq, new_box, app_box, len_box, cell_box, cell_box0, cells_box, cells_box0, store_box, store_box0, cellB_bx, cellsB_bx, storeB_bx, BodyK, resVs, resV, retV, box_all, cast_lit, wrap_1, wrap_2, wrap_3, wrap_4, agg_c4, cellsOf_vK, take_c4, take_vIns, vIns_len, setAll_c4, c4_len, eqAV_K, cellsB_bxV, storeB_bxV, cellB_bxL, storeB_bxB, bx_rep4, bx_repB, pCut_own, q_row, q_head, q_cut, q_push, pElems_own, at_plus, at_last, set_plus, set_last, f4, f5, f6]
    refine loop_r (σ := Nat) (fun r fr h' => fr 4 = vM 8 c4 out ∧ fr 5 = vL vB seen ∧ fr 6 = vI i ∧ fr 7 = vI r ∧ r ≤ 4 ∧ h' = h) (fun r => 4 - r) ?_ 0 ⟨by simp [f4], by simp [f5], by simp [f6], by simp, by simp, rfl⟩
    clear f4 f5 f6
    rintro r fr _ ⟨f4, f5, f6, f7, hr, rfl⟩
    rw [pwp_seq]
    have key : (b = true ∧ Pos4 o) ∨ (b = false ∧ o = zero4) := by
      cases b with
      | true =>
        have := ho.pos hxr (hbc.2 rfl)
        rw [rowF_at hoi] at this
        exact .inl ⟨rfl, this⟩
      | false =>
        have := ho.away (i := i) fun e => by simpa using hbc.1 e
        rw [rowF_at hoi] at this
        exact .inr ⟨rfl, this⟩
    rcases key with ⟨rfl, p⟩ | ⟨rfl, rfl⟩
    · have pa := p.a; have pb := p.b; have pc := p.c; have pd := p.d
      obtain rfl | rfl | rfl | rfl | rfl : r = 0 ∨ r = 1 ∨ r = 2 ∨ r = 3 ∨ r = 4 := by omega
      · simp [new_box, app_box, len_box, cell_box, cell_box0, cells_box, cells_box0, store_box, store_box0, cellB_bx, cellsB_bx, storeB_bx, BodyK, resVs, resV, retV, box_all, cast_lit, wrap_1, wrap_2, wrap_3, wrap_4, agg_c4, cellsOf_vK, take_c4, take_vIns, vIns_len, setAll_c4, c4_len, eqAV_K, cellsB_bxV, storeB_bxV, cellB_bxL, storeB_bxB, bx_rep4, bx_repB, pCut_own, q_row, q_head, q_cut, q_push, pElems_own, at_plus, at_last, set_plus, set_last, f4, f5, f6, f7, hoi, hb, c4, pa]
        exact .go 1 (by omega) ⟨by simp [f4], by simp [f5], by simp [f6], by simp, by omega, rfl⟩
      · simp [new_box, app_box, len_box, cell_box, cell_box0, cells_box, cells_box0, store_box, store_box0, cellB_bx, cellsB_bx, storeB_bx, BodyK, resVs, resV, retV, box_all, cast_lit, wrap_1, wrap_2, wrap_3, wrap_4, agg_c4, cellsOf_vK, take_c4, take_vIns, vIns_len, setAll_c4, c4_len, eqAV_K, cellsB_bxV, storeB_bxV, cellB_bxL, storeB_bxB, bx_rep4, bx_repB, pCut_own, q_row, q_head, q_cut, q_push, pElems_own, at_plus, at_last, set_plus, set_last, f4, f5, f6, f7, hoi, hb, c4, pb]
        exact .go 2 (by omega) ⟨by simp [f4], by simp [f5], by simp [f6], by simp, by omega, rfl⟩
      · simp [new_box, app_box, len_box, cell_box, cell_box0, cells_box, cells_box0, store_box, store_box0, cellB_bx, cellsB_bx, storeB_bx, BodyK, resVs, resV, retV, box_all, cast_lit, wrap_1, wrap_2, wrap_3, wrap_4, agg_c4, cellsOf_vK, take_c4, take_vIns, vIns_len, setAll_c4, c4_len, eqAV_K, cellsB_bxV, storeB_bxV, cellB_bxL, storeB_bxB, bx_rep4, bx_repB, pCut_own, q_row, q_head, q_cut, q_push, pElems_own, at_plus, at_last, set_plus, set_last, f4, f5, f6, f7, hoi, hb, c4, pc]
        exact .go 3 (by omega) ⟨by simp [f4], by simp [f5], by simp [f6], by simp, by omega, rfl⟩
      · simp [new_box, app_box, len_box, cell_box, cell_box0, cells_box, cells_box0, store_box, store_box0, cellB_bx, cellsB_bx, storeB_bx, BodyK, resVs, resV, retV, box_all, cast_lit, wrap_1, wrap_2, wrap_3, wrap_4, agg_c4, cellsOf_vK, take_c4, take_vIns, vIns_len, setAll_c4, c4_len, eqAV_K, cellsB_bxV, storeB_bxV, cellB_bxL, storeB_bxB, bx_rep4, bx_repB, pCut_own, q_row, q_head, q_cut, q_push, pElems_own, at_plus, at_last, set_plus, set_last, f4, f5, f6, f7, hoi, hb, c4, pd]
        exact .go 4 (by omega) ⟨by simp [f4], by simp [f5], by simp [f6], by simp, by omega, rfl⟩
      · simp [new_box, app_box, len_box, cell_box, cell_box0, cells_box, cells_box0, store_box, store_box0, cellB_bx, cellsB_bx, storeB_bx, BodyK, resVs, resV, retV, box_all, cast_lit, wrap_1, wrap_2, wrap_3, wrap_4, agg_c4, cellsOf_vK, take_c4, take_vIns, vIns_len, setAll_c4, c4_len, eqAV_K, cellsB_bxV, storeB_bxV, cellB_bxL, storeB_bxB, bx_rep4, bx_repB, pCut_own, q_row, q_head, q_cut, q_push, pElems_own, at_plus, at_last, set_plus, set_last, f4, f5, f6, f7, wi]
        exact .go i1 (by omega) ⟨by simp [f4], by simp [f5], by simp, by omega, rfl⟩
    · obtain rfl | rfl | rfl | rfl | rfl : r = 0 ∨ r = 1 ∨ r = 2 ∨ r = 3 ∨ r = 4 := by omega
      · simp [new_box, app_box, len_box, cell_box, cell_box0, cells_box, cells_box0, store_box, store_box0, cellB_bx, cellsB_bx, storeB_bx, BodyK, resVs, resV, retV, box_all, cast_lit, wrap_1, wrap_2, wrap_3, wrap_4, agg_c4, cellsOf_vK, take_c4, take_vIns, vIns_len, setAll_c4, c4_len, eqAV_K, cellsB_bxV, storeB_bxV, cellB_bxL, storeB_bxB, bx_rep4, bx_repB, pCut_own, q_row, q_head, q_cut, q_push, pElems_own, at_plus, at_last, set_plus, set_last, f4, f5, f6, f7, hoi, hb, c4, zero4, noV]
        exact .go 1 (by omega) ⟨by simp [f4], by simp [f5], by simp [f6], by simp, by omega, rfl⟩
      · simp [new_box, app_box, len_box, cell_box, cell_box0, cells_box, cells_box0, store_box, store_box0, cellB_bx, cellsB_bx, storeB_bx, BodyK, resVs, resV, retV, box_all, cast_lit, wrap_1, wrap_2, wrap_3, wrap_4, agg_c4, cellsOf_vK, take_c4, take_vIns, vIns_len, setAll_c4, c4_len, eqAV_K, cellsB_bxV, storeB_bxV, cellB_bxL, storeB_bxB, bx_rep4, bx_repB, pCut_own, q_row, q_head, q_cut, q_push, pElems_own, at_plus, at_last, set_plus, set_last, f4, f5, f6, f7, hoi, hb, c4, zero4, noV]
        exact .go 2 (by omega) ⟨by simp [f4], by simp [f5], by simp [f6], by simp, by omega, rfl⟩
      · simp [new_box, app_box, len_box, cell_box, cell_box0, cells_box, cells_box0, store_box, store_box0, cellB_bx, cellsB_bx, storeB_bx, BodyK, resVs, resV, retV, box_all, cast_lit, wrap_1, wrap_2, wrap_3, wrap_4, agg_c4, cellsOf_vK, take_c4, take_vIns, vIns_len, setAll_c4, c4_len, eqAV_K, cellsB_bxV, storeB_bxV, cellB_bxL, storeB_bxB, bx_rep4, bx_repB, pCut_own, q_row, q_head, q_cut, q_push, pElems_own, at_plus, at_last, set_plus, set_last, f4, f5, f6, f7, hoi, hb, c4, zero4, noV]
        exact .go 3 (by omega) ⟨by simp [f4], by simp [f5], by simp [f6], by simp, by omega, rfl⟩
      · simp [new_box, app_box, len_box, cell_box, cell_box0, cells_box, cells_box0, store_box, store_box0, cellB_bx, cellsB_bx, storeB_bx, BodyK, resVs, resV, retV, box_all, cast_lit, wrap_1, wrap_2, wrap_3, wrap_4, agg_c4, cellsOf_vK, take_c4, take_vIns, vIns_len, setAll_c4, c4_len, eqAV_K, cellsB_bxV, storeB_bxV, cellB_bxL, storeB_bxB, bx_rep4, bx_repB, pCut_own, q_row, q_head, q_cut, q_push, pElems_own, at_plus, at_last, set_plus, set_last, f4, f5, f6, f7, hoi, hb, c4, zero4, noV]
        exact .go 4 (by omega) ⟨by simp [f4], by simp [f5], by simp [f6], by simp, by omega, rfl⟩
      · simp [new_box, app_box, len_box, cell_box, cell_box0, cells_box, cells_box0, store_box, store_box0, cellB_bx, cellsB_bx, storeB_bx, BodyK, resVs, resV, retV, box_all, cast_lit, wrap_1, wrap_2, wrap_3, wrap_4, agg_c4, cellsOf_vK, take_c4, take_vIns, vIns_len, setAll_c4, c4_len, eqAV_K, cellsB_bxV, storeB_bxV, cellB_bxL, storeB_bxB, bx_rep4, bx_repB, pCut_own, q_row, q_head, q_cut, q_push, pElems_own, at_plus, at_last, set_plus, set_last, f4, f5, f6, f7, wi]
        exact .go i1 (by omega) ⟨by simp [f4], by simp [f5], by simp, by omega, rfl⟩
  · have hii : ¬ (i : Int) < out.length := by omega
    rw [pwp_seq]
    simp [new_box, app_box, len_box, cell_box, cell_box0, cells_box, cells_box0, store_box, store_box0, cellB_bx, cellsB_bx, storeB_bx, BodyK, resVs, resV, retV, box_all, cast_lit, wrap_1, wrap_2, wrap_3, wrap_4, agg_c4, cellsOf_vK, take_c4, take_vIns, vIns_len, setAll_c4, c4_len, eqAV_K, cellsB_bxV, storeB_bxV, cellB_bxL, storeB_bxB, bx_rep4, bx_repB, pCut_own, q_row, q_head, q_cut, q_push, pElems_own, at_plus, at_last, set_plus, set_last, f4, f5, f6, hii]
    refine known14_call ?_
    simp [new_box, app_box, len_box, cell_box, cell_box0, cells_box, cells_box0, store_box, store_box0, cellB_bx, cellsB_bx, storeB_bx, BodyK, resVs, resV, retV, box_all, cast_lit, wrap_1, wrap_2, wrap_3, wrap_4, agg_c4, cellsOf_vK, take_c4, take_vIns, vIns_len, setAll_c4, c4_len, eqAV_K, cellsB_bxV, storeB_bxV, cellB_bxL, storeB_bxB, bx_rep4, bx_repB, pCut_own, q_row, q_head, q_cut, q_push, pElems_own, at_plus, at_last, set_plus, set_last, callK_def]
theorem ValueReach_spec (l : List (List Nat)) (hl : Short l ∧ ∀ c ∈ l, Bytes c) : PCall prog 13 [vL (vL v8) l] [] fun r _ => r = .bool true := ValueReach_spec' [] l hl
end Pm
