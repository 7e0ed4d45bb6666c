/- Registers that are yet to be read: what Ahead and Behind tell, by ways.
   No condition: plain lemmas. -/
import Derived.Test.YtdohgmnflhjgjaaPmLive1

namespace Pm
set_option linter.unusedSimpArgs false
set_option linter.unusedVariables false
open Go Am
open Go.Proofs.Try (prog)

/-- It may be read from here on, before it is set. -/
inductive Lv (code : List Ins) (r : Nat) : Nat → Prop
  | use {i : Nat} {c : Ins} (hc : code[i]? = some c) (hu : (usesOf c).testBit r = true) : Lv code r i
  | pass {i j : Nat} {c : Ins} (hc : code[i]? = some c) (hs : (setsOf c).testBit r = false) (hj : (j : Int) ∈ nextsOf i c) (h : Lv code r j) : Lv code r i
theorem Lv.lt {code : List Ins} {r i : Nat} (h : Lv code r i) : i < code.length := by
  cases h with
  | use hc _ => exact (List.getElem?_eq_some_iff.1 hc).1
  | pass hc _ _ _ => exact (List.getElem?_eq_some_iff.1 hc).1
theorem high_bit {x k : Nat} (hx : x < big) (hk : 64 ≤ k) : x.testBit k = false := by
  have e : big ≤ 2 ^ k := Nat.pow_le_pow_right (n := 2) (by omega) hk
  exact Nat.testBit_lt_two_pow (Nat.lt_of_lt_of_le hx e)
theorem Lv.low {code : List Ins} {r i : Nat} (h : Lv code r i) : r < 64 := by
  induction h with
  | @use i c hc hu =>
    rcases Nat.lt_or_ge r 64 with h | h
    · exact h
    · rw [high_bit (usesOf_lt c) h] at hu; cases hu
  | pass _ _ _ _ ih => exact ih
theorem Lv.step {code : List Ins} {r i : Nat} {c : Ins} (hc : code[i]? = some c) : Lv code r i ↔ (usesOf c).testBit r = true ∨ (setsOf c).testBit r = false ∧ ∃ j : Nat, (j : Int) ∈ nextsOf i c ∧ Lv code r j := by
  constructor
  · intro h
    cases h with
    | use hc' hu => rw [hc] at hc'; cases hc'; exact .inl hu
    | pass hc' hs hj h => rw [hc] at hc'; cases hc'; exact .inr ⟨hs, _, hj, h⟩
  · rintro (h | ⟨h1, j, h2, h3⟩)
    · exact .use hc h
    · exact .pass hc h1 h2 h3
theorem nexts_succs {code : List Ins} {i : Nat} {c : Ins} (hc : code[i]? = some c) : nexts (succs code) i = nextsOf i c := nexts_of (by rw [succs_at, hc]; rfl)
section
variable {code : List Ins} {inn out : List Nat}
theorem live_n (code : List Ins) : (liveP code).n = code.length := succs_len code
theorem live_mk {x k : Nat} : (liveP code).marked x k = x.testBit k := by simp [Prob.marked, liveP]
theorem live_iff {r : Nat} (hr : r < 64) : (∀ i, Mk (liveP code) r true i ↔ Lv code r i) ∧ ∀ i, Mk (liveP code) r false i ↔ i < code.length ∧ ∃ j : Nat, (j : Int) ∈ nexts (succs code) i ∧ Lv code r j := by
  have hfr : ∀ i (j : Nat), (j : Int) ∈ nexts (liveP code).froms i ↔ j < code.length ∧ (j : Int) ∈ nexts (succs code) i := by
    intro i j
    show (j : Int) ∈ nexts (insideL (succs code)) i ↔ _
    rw [inside_mem, succs_len]
    constructor
    · rintro ⟨a, h1, h2, h3⟩
      obtain rfl : j = a := by omega
      exact ⟨h2, h3⟩
    · rintro ⟨h1, h2⟩; exact ⟨j, rfl, h1, h2⟩
  have key : ∀ b i, Mk (liveP code) r b i → if b then Lv code r i else i < code.length ∧ ∃ j : Nat, (j : Int) ∈ nexts (succs code) i ∧ Lv code r j := by
    intro b i h
    induction h with
    | start hi he hs => simp [Prob.marked, liveP] at hs
    | flow hi hj h ih =>
      simp only [if_true, Bool.false_eq_true, if_false] at ih ⊢
      rw [live_n] at hi
      exact ⟨hi, _, ((hfr _ _).1 hj).2, ih⟩
    | @gen i hi hc =>
      simp only [if_true]
      rw [live_n] at hi
      have hci : code[i]? = some code[i] := List.getElem?_eq_getElem hi
      have e : gN (liveP code).gen i = usesOf code[i] := by show gN (code.map usesOf) i = _; rw [gN_map, hci]
      simp only [Prob.genM, e] at hc
      exact .use hci hc
    | @pass i h hp ih =>
      simp only [if_true, Bool.false_eq_true, if_false] at ih ⊢
      obtain ⟨hi, j, hj, hl⟩ := ih
      have hci : code[i]? = some code[i] := List.getElem?_eq_getElem hi
      have e : gN (liveP code).kill i = setsOf code[i] := by show gN (code.map setsOf) i = _; rw [gN_map, hci]
      simp only [Prob.passM, e] at hp
      rw [nexts_succs hci] at hj
      exact .pass hci (by simpa [liveP] using hp) hj hl
  have back : ∀ i, Lv code r i → Mk (liveP code) r true i := by
    intro i h
    induction h with
    | @use i c hc hu =>
      refine .gen (by rw [live_n]; exact (List.getElem?_eq_some_iff.1 hc).1) ?_
      have e : gN (liveP code).gen i = usesOf c := by show gN (code.map usesOf) i = _; rw [gN_map, hc]
      unfold Prob.genM; rw [e]; exact hu
    | @pass i j c hc hs hj h ih =>
      refine .pass (.flow (by rw [live_n]; exact (List.getElem?_eq_some_iff.1 hc).1) ((hfr i j).2 ⟨h.lt, by rw [nexts_succs hc]; exact hj⟩) ih) ?_
      have e : gN (liveP code).kill i = setsOf c := by show gN (code.map setsOf) i = _; rw [gN_map, hc]
      simp only [Prob.passM, e]
      simp [liveP, hs]
  refine ⟨fun i => ⟨fun h => by simpa using key _ _ h, back i⟩, fun i => ⟨fun h => by simpa using key _ _ h, ?_⟩⟩
  rintro ⟨hi, j, hj, hl⟩
  exact .flow (by rw [live_n]; exact hi) ((hfr i j).2 ⟨hl.lt, hj⟩) (back j hl)

/-- What is yet to be read ahead of each. -/
structure Aheads (code : List Ins) (a : List Nat) : Prop where
  len : a.length = code.length
  lt : ∀ i, gN a i < big
  bit : ∀ i r, (gN a i).testBit r = true ↔ Lv code r i
structure Behinds (code : List Ins) (b : List Nat) : Prop where
  len : b.length = code.length
  lt : ∀ i, gN b i < big
  bit : ∀ i r, (gN b i).testBit r = true ↔ i < code.length ∧ ∃ j : Nat, (j : Int) ∈ nexts (succs code) i ∧ Lv code r j
theorem gN_out {l : List Nat} {i : Nat} (h : l.length ≤ i) : gN l i = 0 := by simp [gN, List.getElem?_eq_none h]
theorem live_solved (h : Solved (liveP code) inn out) : Aheads code out ∧ Behinds code inn := by
  have hn := live_n code
  refine ⟨⟨by rw [h.olen, hn], h.olt, fun i r => ?_⟩, ⟨by rw [h.ilen, hn], h.ilt, fun i r => ?_⟩⟩
  · by_cases hi : i < code.length
    · by_cases hr : r < 64
      · have := h.behind i r (by rw [hn]; exact hi) hr
        rw [live_mk] at this
        rw [this, (live_iff hr).1]
      · rw [high_bit (h.olt i) (by omega)]
        constructor
        · intro h; cases h
        · intro h; have := h.low; omega
    · rw [gN_out (by rw [h.olen, hn]; omega)]
      simp only [Nat.zero_testBit]
      constructor
      · intro h; cases h
      · intro h; have := h.lt; omega
  · by_cases hi : i < code.length
    · by_cases hr : r < 64
      · have := h.ahead i r (by rw [hn]; exact hi) hr
        rw [live_mk] at this
        rw [this, (live_iff hr).2]
      · rw [high_bit (h.ilt i) (by omega)]
        constructor
        · intro h; cases h
        · rintro ⟨_, j, _, h⟩; have := h.low; omega
    · rw [gN_out (by rw [h.ilen, hn]; omega)]
      simp only [Nat.zero_testBit]
      constructor
      · intro h; cases h
      · intro h; omega
theorem ext_gN {a b : List Nat} (hl : a.length = b.length) (h : ∀ i, i < a.length → gN a i = gN b i) : a = b := by
  apply List.ext_getElem hl
  intro i h1 h2
  have := h i h1
  rwa [gN_of (List.getElem?_eq_getElem h1), gN_of (List.getElem?_eq_getElem h2)] at this
theorem Aheads.unique {a b : List Nat} (ha : Aheads code a) (hb : Aheads code b) : a = b :=
  ext_gN (by rw [ha.len, hb.len]) fun i _ => Nat.eq_of_testBit_eq fun r => by rw [Bool.eq_iff_iff, ha.bit, hb.bit]
theorem Behinds.unique {a b : List Nat} (ha : Behinds code a) (hb : Behinds code b) : a = b :=
  ext_gN (by rw [ha.len, hb.len]) fun i _ => Nat.eq_of_testBit_eq fun r => by rw [Bool.eq_iff_iff, ha.bit, hb.bit]
/-- Of code that is too long nothing is told. -/
def AheadsL (code : List Ins) (a : List Nat) : Prop := if 60 < code.length then a = [] else Aheads code a
def BehindsL (code : List Ins) (a : List Nat) : Prop := if 60 < code.length then a = [] else Behinds code a
end
section
variable {h : Heap} {K : Value → Heap → Prop}
theorem lAhead_call {code : List Ins} (ho : ∀ i ∈ code, i.op ≤ 255) (hl : code.length ≤ lim) (hk : ∀ a, AheadsL code a → K (vL vU a) h) : PCall prog 25 [vM 4 vIns code] h K := by
  refine call_lAhead (by simp) ?_
  simp [new_box, app_box, len_box, cell_box, cell_box0, cells_box, cells_box0, store_box, store_box0, cellB_bx, cellsB_bx, storeB_bx, BodyK, resVs, resV, retV, box_all, cast_lit, wrap_1, wrap_2, wrap_3, wrap_4, c_lAhead]
  refine lSolve_call ho hl (fun h60 => ?_) (fun h60 inn out hS => ?_)
  · simp [new_box, app_box, len_box, cell_box, cell_box0, cells_box, cells_box0, store_box, store_box0, cellB_bx, cellsB_bx, storeB_bx, BodyK, resVs, resV, retV, box_all, cast_lit, wrap_1, wrap_2, wrap_3, wrap_4, callK_def]
    exact hk [] (by unfold AheadsL; rw [if_pos h60])
  · simp [new_box, app_box, len_box, cell_box, cell_box0, cells_box, cells_box0, store_box, store_box0, cellB_bx, cellsB_bx, storeB_bx, BodyK, resVs, resV, retV, box_all, cast_lit, wrap_1, wrap_2, wrap_3, wrap_4, callK_def]
    exact hk out (by unfold AheadsL; rw [if_neg (by omega)]; exact (live_solved hS).1)
theorem lBehind_call {code : List Ins} (ho : ∀ i ∈ code, i.op ≤ 255) (hl : code.length ≤ lim) (hk : ∀ a, BehindsL code a → K (vL vU a) h) : PCall prog 30 [vM 4 vIns code] h K := by
  refine call_lBehind (by simp) ?_
  simp [new_box, app_box, len_box, cell_box, cell_box0, cells_box, cells_box0, store_box, store_box0, cellB_bx, cellsB_bx, storeB_bx, BodyK, resVs, resV, retV, box_all, cast_lit, wrap_1, wrap_2, wrap_3, wrap_4, c_lBehind]
  refine lSolve_call ho hl (fun h60 => ?_) (fun h60 inn out hS => ?_)
  · simp [new_box, app_box, len_box, cell_box, cell_box0, cells_box, cells_box0, store_box, store_box0, cellB_bx, cellsB_bx, storeB_bx, BodyK, resVs, resV, retV, box_all, cast_lit, wrap_1, wrap_2, wrap_3, wrap_4, callK_def]
    exact hk [] (by unfold BehindsL; rw [if_pos h60])
  · simp [new_box, app_box, len_box, cell_box, cell_box0, cells_box, cells_box0, store_box, store_box0, cellB_bx, cellsB_bx, storeB_bx, BodyK, resVs, resV, retV, box_all, cast_lit, wrap_1, wrap_2, wrap_3, wrap_4, callK_def]
    exact hk inn (by unfold BehindsL; rw [if_neg (by omega)]; exact (live_solved hS).2)
end
end Pm
