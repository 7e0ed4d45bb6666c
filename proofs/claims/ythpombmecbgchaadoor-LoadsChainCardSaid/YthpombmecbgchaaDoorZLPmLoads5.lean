/- Loads of what is known: the chapter's example, and two laws, walked.
   No condition: plain lemmas. -/

import Derived.Test.YthpombmecbgchaaDoorZLPmLoads4
import Derived.Test.YthpombmecbgchaaDoorZLPmCfgCode
namespace Pm
set_option linter.unusedSimpArgs false
set_option linter.unusedVariables false
open Go Am
open Go.Proofs.Tryd (prog)

def outD (code : List Ins) : List Ins := (List.range code.length).map fun i => ldIns (code[i]?.getD nopI) (kn code i)
theorem LoadedL.eq {code out : List Ins} {fm : List Int} (h : LoadedL code out fm) (hs : Strt code) (hl : code.length ≤ 60) : out = outD code ∧ fm = ownL code.length := by
  obtain ⟨h1, h2, h3⟩ := h.straight hs hl
  refine ⟨List.ext_getElem? fun i => ?_, h2⟩
  by_cases hi : i < code.length
  · have hc : code[i]? = some code[i] := List.getElem?_eq_getElem hi
    rw [h3 i _ hc]
    simp [outD, hi]
  · rw [List.getElem?_eq_none (by omega), List.getElem?_eq_none (by simp [outD]; omega)]
def c17a : List Ins := [⟨7, 0, 1, 0⟩, ⟨7, 2, 1, 0⟩]
def c17b : List Ins := [⟨7, 0, 1, 0⟩, ⟨13, 0, 0, 0⟩, ⟨7, 2, 1, 0⟩]
def c17c : List Ins := [⟨7, 0, 1, 0⟩, ⟨0, 0, 0, 0⟩]
theorem strt17a : Strt c17a := by unfold Strt c17a; decide
theorem strt17b : Strt c17b := by unfold Strt c17b; decide
theorem strt17c : Strt c17c := by unfold Strt c17c; decide
theorem known17c {b : List Nat} (h : KnownL c17c b) : b = [0, 16] := by
  have hl := (h.len (by decide)).1
  unfold KnownL at h
  rw [if_neg (by decide)] at h
  obtain ⟨o, h⟩ := h
  refine ext_gN (by rw [hl]; rfl) fun i hi => ?_
  rw [hl] at hi
  rw [loads_straight strt17c h hi]
  have hi2 : i = 0 ∨ i = 1 := by change i < 2 at hi; omega
  rcases hi2 with rfl | rfl <;> decide +kernel
section
variable {h : Heap} {K : Value → Heap → Prop}
set_option maxHeartbeats 4000000 in
theorem known17_call (hk : K (vB true) h) : PCall prog 9 [] h K := by
  refine Pure.go (Pure.one (p := vB true) rfl fun h => ?_) hk
  refine call_known17 (by simp) ?_
  have hfa : frzV (h ++ [bx [.int .u8 7, .int .i64 0, .int .i64 1, .int .i64 0, .int .u8 7, .int .i64 2, .int .i64 1, .int .i64 0] 4]) 4 (.slice (some ⟨h.length, 0, none⟩) 2 0) = some (vM 4 vIns c17a, h ++ [.row ⟨c17a.flatMap vIns, 4, 0, false⟩]) := frzV_new (h := h) rfl rfl rfl
  have hfb : ∀ a b : Ob, frzV (h ++ [a, b, bx [.int .u8 7, .int .i64 0, .int .i64 1, .int .i64 0, .int .u8 13, .int .i64 0, .int .i64 0, .int .i64 0, .int .u8 7, .int .i64 2, .int .i64 1, .int .i64 0] 4]) 4 (.slice (some ⟨h.length + 2, 0, none⟩) 3 0) = some (vM 4 vIns c17b, h ++ [a, b, .row ⟨c17b.flatMap vIns, 4, 0, false⟩]) := fun a b => frz_at (h := h) (rs := [a, b, bx [.int .u8 7, .int .i64 0, .int .i64 1, .int .i64 0, .int .u8 13, .int .i64 0, .int .i64 0, .int .i64 0, .int .u8 7, .int .i64 2, .int .i64 1, .int .i64 0] 4]) (j := 2) (e := 4) (n := 3) (ver := 0) (off := 0) rfl (by decide) rfl
  have hfc : ∀ a b c d : Ob, frzV (h ++ [a, b, c, d, bx [.int .u8 7, .int .i64 0, .int .i64 1, .int .i64 0, .int .u8 0, .int .i64 0, .int .i64 0, .int .i64 0] 4]) 4 (.slice (some ⟨h.length + 4, 0, none⟩) 2 0) = some (vM 4 vIns c17c, h ++ [a, b, c, d, .row ⟨c17c.flatMap vIns, 4, 0, false⟩]) := fun a b c d => frz_at (h := h) (rs := [a, b, c, d, bx [.int .u8 7, .int .i64 0, .int .i64 1, .int .i64 0, .int .u8 0, .int .i64 0, .int .i64 0, .int .i64 0] 4]) (j := 4) (e := 4) (n := 2) (ver := 0) (off := 0) rfl (by decide) rfl
  simp [new_box, app_box, len_box, cell_box, cell_box0, cells_box, cells_box0, store_box, store_box0, cellB_bx, cellsB_bx, storeB_bx, BodyK, resVs, resV, retV, box_all, cast_lit, wrap_1, wrap_2, wrap_3, wrap_4, c_known17, hfa]
  refine dCode_call (code := c17a) (by decide) (by decide) fun oa fa ha => ?_
  obtain ⟨rfl, rfl⟩ := ha.eq strt17a (by decide)
  simp [new_box, app_box, len_box, cell_box, cell_box0, cells_box, cells_box0, store_box, store_box0, cellB_bx, cellsB_bx, storeB_bx, BodyK, resVs, resV, retV, box_all, cast_lit, wrap_1, wrap_2, wrap_3, wrap_4, callK_def, vEdit, hfb, hfc]
  refine dCode_call (code := c17b) (by decide) (by decide) fun oa fa ha => ?_
  obtain ⟨rfl, rfl⟩ := ha.eq strt17b (by decide)
  simp [new_box, app_box, len_box, cell_box, cell_box0, cells_box, cells_box0, store_box, store_box0, cellB_bx, cellsB_bx, storeB_bx, BodyK, resVs, resV, retV, box_all, cast_lit, wrap_1, wrap_2, wrap_3, wrap_4, callK_def, vEdit, hfb, hfc]
  refine dKnown_call (code := c17c) (by decide) (by decide) fun b hb => ?_
  obtain rfl := known17c hb
  have ea : outD c17a = [⟨7, 0, 1, 0⟩, ⟨2, 2, 0, 0⟩] := by decide +kernel
  have eb : outD c17b = [⟨7, 0, 1, 0⟩, ⟨13, 0, 0, 0⟩, ⟨7, 2, 1, 0⟩] := by decide +kernel
  simp [new_box, app_box, len_box, cell_box, cell_box0, cells_box, cells_box0, store_box, store_box0, cellB_bx, cellsB_bx, storeB_bx, BodyK, resVs, resV, retV, box_all, cast_lit, wrap_1, wrap_2, wrap_3, wrap_4, callK_def, ea, eb, vIns]
end
def kept17 (q : Nat) (a b : Int) : List Ins := [⟨7, 0, 0, 0⟩, ⟨q, a, b, 0⟩, ⟨7, 2, 0, 0⟩]
theorem kept17_strt {q : Nat} {a b : Int} (h1 : q ≠ 10) (h2 : q ≠ 11) : Strt (kept17 q a b) := by
  intro c hc
  simp only [kept17, List.mem_cons, List.not_mem_nil, or_false] at hc
  rcases hc with rfl | rfl | rfl
  · decide
  · exact ⟨h1, h2⟩
  · decide
def vbOf (q : Nat) : Int := if q = 8 then 3 else if q = 7 then 1 else 0
def third (q a : Nat) : Ins := ldIns ⟨7, 2, 0, 0⟩ (kn (kept17 q a (vbOf q)) 2)
def setsB (q a : Nat) : Bool := setsOf ⟨q, a, vbOf q, 0⟩ % 2 == 1
def keptB (q a : Nat) : Bool := acqOp q || (setsB q a && decide (q ≠ 8))
theorem third_is : ∀ q : Fin 28, ∀ a : Fin 2, (q.val ≠ 10 ∧ q.val ≠ 11) → if q.val = 8 ∧ a.val = 0 then third q.val a.val = ⟨2, 2, 3, 0⟩ else if keptB q.val a.val = true then third q.val a.val = ⟨7, 2, 0, 0⟩ else third q.val a.val = ⟨2, 2, 0, 0⟩ := by decide +kernel
theorem outD_kept {q a : Nat} : ∃ x y, outD (kept17 q a (vbOf q)) = [x, y, third q a] := ⟨_, _, rfl⟩
set_option maxHeartbeats 4000000 in
theorem LoadsKept_spec' (h : Heap) (op b : Nat) (hop : op ≤ 255) (hb : b ≤ 255) : PCall prog 3 [v8 op, v8 b] h fun r _ => r = .bool true := by
  refine call_LoadsKept (by simp) ?_
  obtain ⟨q, hq⟩ : ∃ q, q = op % 28 := ⟨_, rfl⟩
  have hq28 : q < 28 := by omega
  have e1 : (op : Int).tmod 28 = (q : Int) := by rw [Int.tmod_eq_emod_of_nonneg (by omega)]; omega
  have w1 : IntKind.u8.wrap (q : Int) = q := wrap_u8 (by omega) (by omega)
  simp [-pwp_seq, new_box, app_box, len_box, cell_box, cell_box0, cells_box, cells_box0, store_box, store_box0, cellB_bx, cellsB_bx, storeB_bx, BodyK, resVs, resV, retV, box_all, cast_lit, wrap_1, wrap_2, wrap_3, wrap_4, c_LoadsKept, e1, w1]
  rw [pwp_seq]
  simp [-pwp_seq, new_box, app_box, len_box, cell_box, cell_box0, cells_box, cells_box0, store_box, store_box0, cellB_bx, cellsB_bx, storeB_bx, BodyK, resVs, resV, retV, box_all, cast_lit, wrap_1, wrap_2, wrap_3, wrap_4]
  by_cases h10 : q = 10
  · have h10' : (q : Int) = 10 := by omega
    simp [new_box, app_box, len_box, cell_box, cell_box0, cells_box, cells_box0, store_box, store_box0, cellB_bx, cellsB_bx, storeB_bx, BodyK, resVs, resV, retV, box_all, cast_lit, wrap_1, wrap_2, wrap_3, wrap_4, h10, h10']
    refine known17_call ?_
    simp [new_box, app_box, len_box, cell_box, cell_box0, cells_box, cells_box0, store_box, store_box0, cellB_bx, cellsB_bx, storeB_bx, BodyK, resVs, resV, retV, box_all, cast_lit, wrap_1, wrap_2, wrap_3, wrap_4, callK_def]
  · by_cases h11 : q = 11
    · have h11' : (q : Int) = 11 := by omega
      simp [new_box, app_box, len_box, cell_box, cell_box0, cells_box, cells_box0, store_box, store_box0, cellB_bx, cellsB_bx, storeB_bx, BodyK, resVs, resV, retV, box_all, cast_lit, wrap_1, wrap_2, wrap_3, wrap_4, h10, h11, h11']
      refine known17_call ?_
      simp [new_box, app_box, len_box, cell_box, cell_box0, cells_box, cells_box0, store_box, store_box0, cellB_bx, cellsB_bx, storeB_bx, BodyK, resVs, resV, retV, box_all, cast_lit, wrap_1, wrap_2, wrap_3, wrap_4, callK_def]
    · have h10' : ¬ (q : Int) = 10 := by omega
      have h11' : ¬ (q : Int) = 11 := by omega
      obtain ⟨a1, ha1⟩ : ∃ a1, a1 = b % 2 := ⟨_, rfl⟩
      have f1 : (b : Int).tmod 2 = (a1 : Int) := by rw [Int.tmod_eq_emod_of_nonneg (by omega)]; omega
      have g1 : IntKind.u8.wrap (a1 : Int) = a1 := wrap_u8 (by omega) (by omega)
      have g4 : IntKind.i64.wrap (a1 : Int) = a1 := wrap_i64 (by omega) (by omega)
      simp [-pwp_seq, new_box, app_box, len_box, cell_box, cell_box0, cells_box, cells_box0, store_box, store_box0, cellB_bx, cellsB_bx, storeB_bx, BodyK, resVs, resV, retV, box_all, cast_lit, wrap_1, wrap_2, wrap_3, wrap_4, h10, h11, h10', h11']
      refine seq_l (σ := Nat) (fun _ => [(5, ptr h.length)]) (fun x => h ++ [bx (vIns ⟨q, x, vbOf q, 0⟩) 4]) (fun x => x < 2) ?_ ?_
      · by_cases h8 : q = 8
        · have h8' : (q : Int) = 8 := by omega
          simp [new_box, app_box, len_box, cell_box, cell_box0, cells_box, cells_box0, store_box, store_box0, cellB_bx, cellsB_bx, storeB_bx, BodyK, resVs, resV, retV, box_all, cast_lit, wrap_1, wrap_2, wrap_3, wrap_4, h8, h8', f1, g1, g4]
          exact .go a1 (by simp) (by subst h8; rfl) (by omega)
        · by_cases h7 : q = 7
          · have h7' : (q : Int) = 7 := by omega
            simp [new_box, app_box, len_box, cell_box, cell_box0, cells_box, cells_box0, store_box, store_box0, cellB_bx, cellsB_bx, storeB_bx, BodyK, resVs, resV, retV, box_all, cast_lit, wrap_1, wrap_2, wrap_3, wrap_4, h7, h8, h7', f1, g1, g4]
            exact .go a1 (by simp) (by subst h7; rfl) (by omega)
          · have h8' : ¬ (q : Int) = 8 := by omega
            have h7' : ¬ (q : Int) = 7 := by omega
            have hvb : vbOf q = 0 := by unfold vbOf; rw [if_neg h8, if_neg h7]
            simp [new_box, app_box, len_box, cell_box, cell_box0, cells_box, cells_box0, store_box, store_box0, cellB_bx, cellsB_bx, storeB_bx, BodyK, resVs, resV, retV, box_all, cast_lit, wrap_1, wrap_2, wrap_3, wrap_4, h7, h8, h8', h7']
            refine R2Sets_call (i := ⟨q, 0, 0, 0⟩) ?_
            obtain ⟨s, hs⟩ : ∃ s, s = setsOf ⟨q, 0, 0, 0⟩ := ⟨_, rfl⟩
            rw [← hs]
            by_cases hs0 : 0 < s
            · have hs0' : (0 : Int) < s := by omega
              simp [new_box, app_box, len_box, cell_box, cell_box0, cells_box, cells_box0, store_box, store_box0, cellB_bx, cellsB_bx, storeB_bx, BodyK, resVs, resV, retV, box_all, cast_lit, wrap_1, wrap_2, wrap_3, wrap_4, callK_def, hs0, hs0', f1, g1, g4]
              exact .go a1 (by simp) (by rw [hvb]; rfl) (by omega)
            · have hs0' : ¬ (0 : Int) < s := by omega
              simp [new_box, app_box, len_box, cell_box, cell_box0, cells_box, cells_box0, store_box, store_box0, cellB_bx, cellsB_bx, storeB_bx, BodyK, resVs, resV, retV, box_all, cast_lit, wrap_1, wrap_2, wrap_3, wrap_4, callK_def, hs0, hs0']
              exact .go 0 (by simp) (by rw [hvb]; rfl) (by omega)
      rintro va fr hva
      have hfz : frzV (h ++ [bx [v8 q, vI va, vI (vbOf q), vI 0] 4, bx [.int .u8 7, .int .i64 0, .int .i64 0, .int .i64 0, v8 q, vI va, vI (vbOf q), vI 0, .int .u8 7, .int .i64 2, .int .i64 0, .int .i64 0] 4]) 4 (.slice (some ⟨h.length + 1, 0, none⟩) 3 0) = some (vM 4 vIns (kept17 q va (vbOf q)), h ++ [bx [v8 q, vI va, vI (vbOf q), vI 0] 4, .row ⟨(kept17 q va (vbOf q)).flatMap vIns, 4, 0, false⟩]) := frz_at (h := h) (rs := [bx [v8 q, vI va, vI (vbOf q), vI 0] 4, bx [.int .u8 7, .int .i64 0, .int .i64 0, .int .i64 0, v8 q, vI va, vI (vbOf q), vI 0, .int .u8 7, .int .i64 2, .int .i64 0, .int .i64 0] 4]) (j := 1) (e := 4) (n := 3) (ver := 0) (off := 0) rfl (by simp [bx]) rfl
      simp [-pwp_seq, new_box, app_box, len_box, cell_box, cell_box0, cells_box, cells_box0, store_box, store_box0, cellB_bx, cellsB_bx, storeB_bx, BodyK, resVs, resV, retV, box_all, cast_lit, wrap_1, wrap_2, wrap_3, wrap_4, vIns, hfz]
      refine dCode_call (code := kept17 q va (vbOf q)) (fun c hc => by
        simp only [kept17, List.mem_cons, List.not_mem_nil, or_false] at hc
        rcases hc with rfl | rfl | rfl
        · decide
        · show q ≤ 255; omega
        · decide) (by show (3 : Nat) ≤ lim; decide) fun oa fa ha => ?_
      obtain ⟨rfl, rfl⟩ := ha.eq (kept17_strt h10 h11) (by show (3 : Nat) ≤ 60; decide)
      obtain ⟨x, y, hy⟩ := outD_kept (q := q) (a := va)
      have h3 := third_is ⟨q, hq28⟩ ⟨va, hva⟩ ⟨h10, h11⟩
      simp only at h3
      rw [hy]
      obtain ⟨z, hz⟩ : ∃ z, z = third q va := ⟨_, rfl⟩
      rw [← hz] at h3 ⊢
      have hv0 : (vIns z)[0]? = some (v8 z.op) := rfl
      have hg0 : ∀ hh, (vIns z)[0]'hh = v8 z.op := fun _ => rfl
      obtain ⟨s, hs⟩ : ∃ s, s = setsOf ⟨q, va, vbOf q, 0⟩ := ⟨_, rfl⟩
      obtain ⟨sm, hsm⟩ : ∃ sm, sm = s % 2 := ⟨_, rfl⟩
      have hsb : setsB q va = (sm == 1) := by unfold setsB; rw [hsm, hs]
      have e2 : (s : Int).tmod 2 = (sm : Int) := by rw [Int.tmod_eq_emod_of_nonneg (by omega)]; omega
      have w2 : IntKind.u64.wrap (sm : Int) = sm := wrap_u64 (by omega) (by omega)
      simp [-pwp_seq, new_box, app_box, len_box, cell_box, cell_box0, cells_box, cells_box0, store_box, store_box0, cellB_bx, cellsB_bx, storeB_bx, BodyK, resVs, resV, retV, box_all, cast_lit, wrap_1, wrap_2, wrap_3, wrap_4, callK_def, vEdit]
      rw [pwp_seq]
      simp [-pwp_seq, new_box, app_box, len_box, cell_box, cell_box0, cells_box, cells_box0, store_box, store_box0, cellB_bx, cellsB_bx, storeB_bx, BodyK, resVs, resV, retV, box_all, cast_lit, wrap_1, wrap_2, wrap_3, wrap_4]
      refine R2Sets_call (i := ⟨q, va, vbOf q, 0⟩) ?_
      rw [← hs]
      simp [-pwp_seq, new_box, app_box, len_box, cell_box, cell_box0, cells_box, cells_box0, store_box, store_box0, cellB_bx, cellsB_bx, storeB_bx, BodyK, resVs, resV, retV, box_all, cast_lit, wrap_1, wrap_2, wrap_3, wrap_4, callK_def, e2, w2]
      refine R2Acq_call (by omega) ?_
      have hz2 : ∀ (w : Ins) (n : Int), eqAV [0, 0, 0, 0] false (.agg (vIns w).toArray) (.agg #[.int .u8 2, .int .i64 2, .int .i64 n, .int .i64 0]) = some (.bool (decide (w = ⟨2, 2, n, 0⟩))) := fun w n => eqAV_I (y := ⟨2, 2, n, 0⟩)
      have hvv : ∀ w : Ins, (vIns w)[0]? = some (v8 w.op) := fun _ => rfl
      have hsm3 : (sm : Int) = 1 ↔ sm = 1 := by omega
      have hkb : keptB q va = (acqOp q || ((sm == 1) && decide (q ≠ 8))) := by unfold keptB; rw [hsb]
      by_cases h8a : q = 8 ∧ va = 0
      · rw [if_pos h8a] at h3
        obtain ⟨h8, hva0⟩ := h8a
        have h8' : (q : Int) = 8 := by omega
        have hva' : (va : Int) = 0 := by omega
        have hq8 : acqOp q = false := by rw [h8]; rfl
        rw [hq8]
        by_cases hsm1 : sm = 1
        · simp [new_box, app_box, len_box, cell_box, cell_box0, cells_box, cells_box0, store_box, store_box0, cellB_bx, cellsB_bx, storeB_bx, BodyK, resVs, resV, retV, box_all, cast_lit, wrap_1, wrap_2, wrap_3, wrap_4, callK_def, h8, h8', hva0, hva', hsm1, hsm3, -eqAV_agg, hz2, -cellsOf_agg, vIns_len, take_vIns, cellsOf_vIns, setAll_ins]
          refine known17_call ?_
          simp [new_box, app_box, len_box, cell_box, cell_box0, cells_box, cells_box0, store_box, store_box0, cellB_bx, cellsB_bx, storeB_bx, BodyK, resVs, resV, retV, box_all, cast_lit, wrap_1, wrap_2, wrap_3, wrap_4, callK_def, h3, -eqAV_agg, hz2, -cellsOf_agg, vIns_len, take_vIns, cellsOf_vIns, setAll_ins]
        · simp [new_box, app_box, len_box, cell_box, cell_box0, cells_box, cells_box0, store_box, store_box0, cellB_bx, cellsB_bx, storeB_bx, BodyK, resVs, resV, retV, box_all, cast_lit, wrap_1, wrap_2, wrap_3, wrap_4, callK_def, h8, h8', hva0, hva', hsm1, hsm3, -eqAV_agg, hz2, -cellsOf_agg, vIns_len, take_vIns, cellsOf_vIns, setAll_ins]
          refine known17_call ?_
          simp [new_box, app_box, len_box, cell_box, cell_box0, cells_box, cells_box0, store_box, store_box0, cellB_bx, cellsB_bx, storeB_bx, BodyK, resVs, resV, retV, box_all, cast_lit, wrap_1, wrap_2, wrap_3, wrap_4, callK_def, h3, -eqAV_agg, hz2, -cellsOf_agg, vIns_len, take_vIns, cellsOf_vIns, setAll_ins]
      · rw [if_neg h8a] at h3
        rw [hkb] at h3
        by_cases h8 : q = 8
        · have h8' : (q : Int) = 8 := by omega
          have hva0 : ¬ va = 0 := fun e => h8a ⟨h8, e⟩
          have hva' : ¬ (va : Int) = 0 := by omega
          have hq8 : acqOp q = false := by rw [h8]; rfl
          rw [hq8] at h3 ⊢
          have h3' : z = ⟨2, 2, 0, 0⟩ := by simpa [h8] using h3
          by_cases hsm1 : sm = 1
          · simp [new_box, app_box, len_box, cell_box, cell_box0, cells_box, cells_box0, store_box, store_box0, cellB_bx, cellsB_bx, storeB_bx, BodyK, resVs, resV, retV, box_all, cast_lit, wrap_1, wrap_2, wrap_3, wrap_4, callK_def, h8, h8', hva0, hva', hsm1, hsm3, -eqAV_agg, hz2, -cellsOf_agg, vIns_len, take_vIns, cellsOf_vIns, setAll_ins]
            refine known17_call ?_
            simp [new_box, app_box, len_box, cell_box, cell_box0, cells_box, cells_box0, store_box, store_box0, cellB_bx, cellsB_bx, storeB_bx, BodyK, resVs, resV, retV, box_all, cast_lit, wrap_1, wrap_2, wrap_3, wrap_4, callK_def, h3', hvv, -eqAV_agg, hz2, -cellsOf_agg, vIns_len, take_vIns, cellsOf_vIns, setAll_ins]
          · simp [new_box, app_box, len_box, cell_box, cell_box0, cells_box, cells_box0, store_box, store_box0, cellB_bx, cellsB_bx, storeB_bx, BodyK, resVs, resV, retV, box_all, cast_lit, wrap_1, wrap_2, wrap_3, wrap_4, callK_def, h8, h8', hva0, hva', hsm1, hsm3, -eqAV_agg, hz2, -cellsOf_agg, vIns_len, take_vIns, cellsOf_vIns, setAll_ins]
            refine known17_call ?_
            simp [new_box, app_box, len_box, cell_box, cell_box0, cells_box, cells_box0, store_box, store_box0, cellB_bx, cellsB_bx, storeB_bx, BodyK, resVs, resV, retV, box_all, cast_lit, wrap_1, wrap_2, wrap_3, wrap_4, callK_def, h3', hvv, -eqAV_agg, hz2, -cellsOf_agg, vIns_len, take_vIns, cellsOf_vIns, setAll_ins]
        · have h8' : ¬ (q : Int) = 8 := by omega
          cases hac : acqOp q with
          | true =>
            rw [hac] at h3
            have h3' : z = ⟨7, 2, 0, 0⟩ := by simpa using h3
            simp [new_box, app_box, len_box, cell_box, cell_box0, cells_box, cells_box0, store_box, store_box0, cellB_bx, cellsB_bx, storeB_bx, BodyK, resVs, resV, retV, box_all, cast_lit, wrap_1, wrap_2, wrap_3, wrap_4, callK_def, h8, h8', -eqAV_agg, hz2, -cellsOf_agg, vIns_len, take_vIns, cellsOf_vIns, setAll_ins]
            refine known17_call ?_
            simp [new_box, app_box, len_box, cell_box, cell_box0, cells_box, cells_box0, store_box, store_box0, cellB_bx, cellsB_bx, storeB_bx, BodyK, resVs, resV, retV, box_all, cast_lit, wrap_1, wrap_2, wrap_3, wrap_4, callK_def, h3', hvv, -eqAV_agg, hz2, -cellsOf_agg, vIns_len, take_vIns, cellsOf_vIns, setAll_ins]
          | false =>
            rw [hac] at h3
            by_cases hsm1 : sm = 1
            · have h3' : z = ⟨7, 2, 0, 0⟩ := by simpa [hsm1, h8] using h3
              simp [new_box, app_box, len_box, cell_box, cell_box0, cells_box, cells_box0, store_box, store_box0, cellB_bx, cellsB_bx, storeB_bx, BodyK, resVs, resV, retV, box_all, cast_lit, wrap_1, wrap_2, wrap_3, wrap_4, callK_def, h8, h8', hsm1, hsm3, -eqAV_agg, hz2, -cellsOf_agg, vIns_len, take_vIns, cellsOf_vIns, setAll_ins]
              refine known17_call ?_
              simp [new_box, app_box, len_box, cell_box, cell_box0, cells_box, cells_box0, store_box, store_box0, cellB_bx, cellsB_bx, storeB_bx, BodyK, resVs, resV, retV, box_all, cast_lit, wrap_1, wrap_2, wrap_3, wrap_4, callK_def, h3', hvv, -eqAV_agg, hz2, -cellsOf_agg, vIns_len, take_vIns, cellsOf_vIns, setAll_ins]
            · have h3' : z = ⟨2, 2, 0, 0⟩ := by simpa [hsm1, h8] using h3
              simp [new_box, app_box, len_box, cell_box, cell_box0, cells_box, cells_box0, store_box, store_box0, cellB_bx, cellsB_bx, storeB_bx, BodyK, resVs, resV, retV, box_all, cast_lit, wrap_1, wrap_2, wrap_3, wrap_4, callK_def, h8, h8', hsm1, hsm3, -eqAV_agg, hz2, -cellsOf_agg, vIns_len, take_vIns, cellsOf_vIns, setAll_ins]
              refine known17_call ?_
              simp [new_box, app_box, len_box, cell_box, cell_box0, cells_box, cells_box0, store_box, store_box0, cellB_bx, cellsB_bx, storeB_bx, BodyK, resVs, resV, retV, box_all, cast_lit, wrap_1, wrap_2, wrap_3, wrap_4, callK_def, h3', hvv, -eqAV_agg, hz2, -cellsOf_agg, vIns_len, take_vIns, cellsOf_vIns, setAll_ins]
theorem LoadsKept_spec (op b : Nat) (hop : op ≤ 255) (hb : b ≤ 255) : PCall prog 3 [v8 op, v8 b] [] fun r _ => r = .bool true := LoadsKept_spec' [] op b hop hb
end Pm
