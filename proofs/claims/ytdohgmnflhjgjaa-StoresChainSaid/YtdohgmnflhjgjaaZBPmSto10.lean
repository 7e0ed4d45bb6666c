/- Stores that none can read: what is needed, by the document, walked.
   No condition: plain lemmas. -/

import Derived.Test.YtdohgmnflhjgjaaZBPmSto4
import Derived.Test.YtdohgmnflhjgjaaZBPmLive6
import Derived.Test.YtdohgmnflhjgjaaZBPmMake2
namespace Pm
set_option linter.unusedSimpArgs false
set_option linter.unusedVariables false
open Go Am
open Go.Proofs.Try (prog)

def srchS (code : List Ins) (x : Nat) : Srch := ⟨code.length, fun i => match code[i]? with | some c => wants x c | none => false, fun i => match code[i]? with | some c => !lays x c | none => false, fun i => nexts (succs code) i⟩
theorem srchS_iff {code : List Ins} {x i : Nat} (hx : x < 8) : Fnd (srchS code x) i ↔ Nd code x i := by
  have ea : ∀ c : Ins, (askN c).testBit x = wants x c := fun c => by rw [askN_bit]; simp [hx]
  have ek : ∀ c : Ins, (killN c).testBit x = lays x c := fun c => killN_bit c x (by omega)
  constructor
  · intro h
    induction h with
    | @stop i hi h =>
      have hc : code[i]? = some (code[i]'hi) := List.getElem?_eq_getElem hi
      simp only [srchS, hc] at h
      exact .use hc (by rw [ea]; exact h)
    | @pass i j hi ht hj h ih =>
      have hc : code[i]? = some (code[i]'hi) := List.getElem?_eq_getElem hi
      simp only [srchS, hc] at ht hj
      rw [nexts_succs hc] at hj
      exact .pass hc (by rw [ek]; simpa using ht) hj ih
  · intro h
    induction h with
    | @use i c hc hu => exact .stop (List.getElem?_eq_some_iff.1 hc).1 (by simp only [srchS, hc]; rw [← ea]; exact hu)
    | @pass i j c hc hs hj h ih => exact .pass (List.getElem?_eq_some_iff.1 hc).1 (by rw [ek] at hs; simp only [srchS, hc, hs]; rfl) (by simp only [srchS]; rw [nexts_succs hc]; exact hj) ih
section
variable {h : Heap} {K : Value → Heap → Prop}
set_option maxHeartbeats 2000000 in
theorem r18need_call {code : List Ins} {r : Nat} {start : Int} (hl : code.length ≤ 60) (hoc : ∀ i ∈ code, i.op ≤ 255) (hr : r < 8) (hk : ∀ b : Bool, (b = true ↔ ∃ k : Nat, start = k ∧ Nd code r k) → K (vB b) h) :
    PCall prog 96 [vM 4 vIns code, vL (vL vI) (succs code), vI r, vI start] h K := by
  obtain ⟨b, hb⟩ : ∃ b : Bool, b = true ↔ ∃ k : Nat, start = k ∧ Nd code r k := by
    rcases Classical.em (∃ k : Nat, start = k ∧ Nd code r k) with h | h
    · exact ⟨true, by simp [h]⟩
    · exact ⟨false, by simp [h]⟩
  refine Pure.go (Pure.one (p := vB b) rfl fun h => ?_) (hk b hb)
  clear hk
  have hlim : lim = 1048576 := rfl
  refine call_r18need (by simp) ?_
  have hm := make_box (h := h) (n := code.length) (z := [.bool false]) (e := 1) (k := .i64) (k' := .i64) (by omega)
  simp [new_box, app_box, len_box, cell_box, cell_box0, cells_box, cells_box0, store_box, store_box0, cellB_bx, cellsB_bx, storeB_bx, BodyK, resVs, resV, retV, box_all, cast_lit, wrap_1, wrap_2, wrap_3, wrap_4, c_r18need, hm, bx_repB]
  obtain ⟨s, hs⟩ : ∃ s, s = srchS code r := ⟨_, rfl⟩
  have hsn : s.n = code.length := by rw [hs]; rfl
  have hsx : ∀ i, s.next i = nexts (succs code) i := fun i => by rw [hs]; rfl
  have hinit := SInv.init (s := s) (start := start)
  rw [hsn] at hinit
  refine loop_l (σ := List Bool × List Int × List Value × Nat) (fun x => [(0, vM 4 vIns code), (1, vL (vL vI) (succs code)), (2, vI r), (9, .slice (some ⟨h.length, 0, none⟩) code.length 0), (10, .slice (some ⟨h.length + 1, 0, none⟩) x.2.1.length x.2.2.2)]) (fun x => h ++ [bxL vB x.1, bxQ (x.2.1.map vI ++ x.2.2.1) x.2.2.2])
    (fun x => SInv s start x.1 x.2.1 ∧ swork s x.1 + x.2.1.length ≤ 1000) (fun x => swork s x.1 + x.2.1.length) (List.replicate code.length false, [start], [], 0) (by simp) (by simp [bx, bxQ]) ⟨hinit, ?_⟩ ?_
  · have := swork_le (s := s) (seen := List.replicate code.length false) (d := 2) (fun i => by rw [hsx]; exact nexts_two code i)
    rw [hsn] at this
    simp only [List.length_singleton]; omega
  rintro ⟨seen, left, junk, ver⟩ fr ⟨v, hw⟩
  simp only at v hw ⊢
  have hsl : seen.length = code.length := by rw [v.len, hsn]
  rcases List.eq_nil_or_concat left with rfl | ⟨l', x, rfl⟩
  · have hb0 : b = false := by
      cases b with
      | false => rfl
      | true =>
        obtain ⟨k, e1, e2⟩ := hb.1 rfl
        exact absurd ((srchS_iff hr).2 e2) (by rw [← hs]; exact v.end e1)
    subst hb0
    simp [new_box, app_box, len_box, cell_box, cell_box0, cells_box, cells_box0, store_box, store_box0, cellB_bx, cellsB_bx, storeB_bx, BodyK, resVs, resV, retV, box_all, cast_lit, wrap_1, wrap_2, wrap_3, wrap_4]
  · rw [List.concat_eq_append] at *
    have hlen : (l' ++ [x]).length = l'.length + 1 := by simp
    rw [hlen] at hw
    have h0 : (0 : Int) < (l'.length : Int) + 1 := by omega
    have h1 : (l'.length : Int) < (l'.length : Int) + 1 := by omega
    have hsw : swork s seen + l'.length + 1 ≤ 1000 := by omega
    have hwp : IntKind.i64.wrap (l'.length : Int) = (l'.length : Int) := wrap_i64 (by omega) (by omega)
    have hml : (l' ++ [x]).map vI ++ junk = l'.map vI ++ (vI x :: junk) := by simp
    have hcut := cut_at (h := h) (rs := [bxL vB seen, bxQ (l'.map vI ++ (vI x :: junk)) ver]) (j := 1) (ver := ver) (off := 0) (len := l'.length + 1) (e := 1) (lo := none) (hi := some (.int .i64 (l'.length : Int))) (a := 0) (b := l'.length) (r := ⟨l'.map vI ++ (vI x :: junk), 1, ver, true⟩) rowO_Q rfl (by simp) (by simp; omega) (by omega)
    have hcel : (h ++ [bxL vB seen, bxQ (l'.map vI ++ (vI x :: junk)) ver]).cell? (h.length + 1) l'.length ver = some (vI x) := by
      rw [cell_at]
      show (rowO (some (bxQ (l'.map vI ++ (vI x :: junk)) ver)) ver).bind _ = _
      rw [rowO_Q]; simp
    rw [hlen, hml]
    have go1 : (x < 0 ∨ (s.n : Int) ≤ x ∨ seen[x.toNat]? = some true) → ∀ fr : Fr, Slots [(0, vM 4 vIns code), (1, vL (vL vI) (succs code)), (2, vI r), (9, .slice (some ⟨h.length, 0, none⟩) code.length 0), (10, .slice (some ⟨h.length + 1, 0, none⟩) l'.length ver)] fr →
        NextL (fun x : List Bool × List Int × List Value × Nat => [(0, vM 4 vIns code), (1, vL (vL vI) (succs code)), (2, vI r), (9, .slice (some ⟨h.length, 0, none⟩) code.length 0), (10, .slice (some ⟨h.length + 1, 0, none⟩) x.2.1.length x.2.2.2)]) (fun x => h ++ [bxL vB x.1, bxQ (x.2.1.map vI ++ x.2.2.1) x.2.2.2])
          (fun x => SInv s start x.1 x.2.1 ∧ swork s x.1 + x.2.1.length ≤ 1000) (fun x => swork s x.1 + x.2.1.length) (seen, l' ++ [x], junk, ver) fr (h ++ [bxL vB seen, bxQ (l'.map vI ++ (vI x :: junk)) ver]) := fun hx fr hf =>
      .go (seen, l', vI x :: junk, ver) (by simp) hf rfl ⟨v.skip hx, by simp only []; omega⟩
    by_cases hx0 : x < 0
    · simp [new_box, app_box, len_box, cell_box, cell_box0, cells_box, cells_box0, store_box, store_box0, cellB_bx, cellsB_bx, storeB_bx, BodyK, resVs, resV, retV, box_all, cast_lit, wrap_1, wrap_2, wrap_3, wrap_4, h0, h1, hwp, hcel, pCut_own, hcut, hx0]
      exact go1 (.inl hx0) _ (by simp)
    · obtain ⟨i, rfl⟩ : ∃ i : Nat, x = i := ⟨x.toNat, by omega⟩
      have hi0 : ¬ (i : Int) < 0 := by omega
      by_cases hxn : code.length ≤ i
      · simp [new_box, app_box, len_box, cell_box, cell_box0, cells_box, cells_box0, store_box, store_box0, cellB_bx, cellsB_bx, storeB_bx, BodyK, resVs, resV, retV, box_all, cast_lit, wrap_1, wrap_2, wrap_3, wrap_4, h0, h1, hwp, hcel, pCut_own, hcut, hi0, hxn]
        exact go1 (.inr (.inl (by omega))) _ (by simp)
      · have hin : i < code.length := by omega
        obtain ⟨c, hc⟩ : ∃ c, code[i]? = some c := ⟨_, List.getElem?_eq_getElem hin⟩
        obtain ⟨t, ht⟩ : ∃ t, seen[i]? = some t := ⟨_, List.getElem?_eq_getElem (by omega)⟩
        have htg : seen[i]'(by omega) = t := (List.getElem?_eq_some_iff.1 ht).2
        have hcg : code[i]'(by omega) = c := (List.getElem?_eq_some_iff.1 hc).2
        cases t with
        | true =>
          simp [new_box, app_box, len_box, cell_box, cell_box0, cells_box, cells_box0, store_box, store_box0, cellB_bx, cellsB_bx, storeB_bx, BodyK, resVs, resV, retV, box_all, cast_lit, wrap_1, wrap_2, wrap_3, wrap_4, h0, h1, hwp, hcel, pCut_own, hcut, hi0, hxn, hin, hsl, cellB_bxL, htg]
          exact go1 (.inr (.inr (by simpa using ht))) _ (by simp)
        | false =>
          have hv0 : (vIns c)[0]? = some (v8 c.op) := rfl
          have hv1 : (vIns c)[1]? = some (vI c.a) := rfl
          have hv2 : (vIns c)[2]? = some (vI c.b) := rfl
          have hg0 : ∀ hh, (vIns c)[0]'hh = v8 c.op := fun _ => rfl
          have hg1 : ∀ hh, (vIns c)[1]'hh = vI c.a := fun _ => rfl
          have hg2 : ∀ hh, (vIns c)[2]'hh = vI c.b := fun _ => rfl
          have hco := hoc c (List.mem_of_getElem? hc)
          have hsi : (succs code)[i]? = some (nextsOf i c) := by rw [succs_at, hc]; rfl
          have hnx : s.next i = nextsOf i c := by rw [hsx, nexts_succs hc]
          have hst : s.stop i = wants r c := by rw [hs]; simp only [srchS, hc]
          have hth : s.thru i = !lays r c := by rw [hs]; simp only [srchS, hc]
          have hsw2 := swork_set (s := s) (seen := seen) (i := i) (by omega) (by omega) ht
          rw [hnx] at hsw2
          have found : wants r c = true → b = true := fun hu => by
            obtain ⟨k, e1, e2⟩ := v.found (i := i) (by omega) (by rw [hst, hu])
            exact hb.2 ⟨k, e1, (srchS_iff hr).1 (by rw [← hs]; exact e2)⟩
          have hpj := pushJ_at (h := h) (rs := [bxL vB (seen.set i true), bxQ (l'.map vI ++ vI (i : Int) :: junk) ver]) (j := 1) (v := vL vI (nextsOf i c)) (n := (nextsOf i c).length) (new := (nextsOf i c).map vI) (q := l'.map vI) (len := l'.length) (ver := ver) rfl (by simp) (by simp) (by omega)
          have v2 : wants r c = false → SInv s start (seen.set i true) (l' ++ if lays r c = true then [] else nextsOf i c) := fun hu => by
            have v2 := v.new (i := i) (by omega) (by rw [hst, hu])
            rw [hth, hnx] at v2
            cases hl : lays r c <;> simpa [hl] using v2
          simp [new_box, app_box, len_box, cell_box, cell_box0, cells_box, cells_box0, store_box, store_box0, cellB_bx, cellsB_bx, storeB_bx, BodyK, resVs, resV, retV, box_all, cast_lit, wrap_1, wrap_2, wrap_3, wrap_4, h0, h1, hwp, hcel, pCut_own, hcut, hi0, hxn, hin, hsl, cellB_bxL, htg, storeB_bxB, hcg, hv0, hg0, -cellsOf_agg, vIns_len, take_vIns, cellsOf_vIns, setAll_ins]
          refine R2Rel_call hco ?_
          cases hrel : relOp c.op with
          | true =>
            obtain rfl := found (by unfold wants; rw [hrel]; rfl)
            simp [new_box, app_box, len_box, cell_box, cell_box0, cells_box, cells_box0, store_box, store_box0, cellB_bx, cellsB_bx, storeB_bx, BodyK, resVs, resV, retV, box_all, cast_lit, wrap_1, wrap_2, wrap_3, wrap_4, callK_def]
          | false =>
            by_cases h7 : c.op = 7
            · have h7' : (c.op : Int) = 7 := by omega
              by_cases hbx : c.b = (r : Int)
              · obtain rfl := found (by unfold wants; rw [hrel]; simp [h7, hbx])
                simp [new_box, app_box, len_box, cell_box, cell_box0, cells_box, cells_box0, store_box, store_box0, cellB_bx, cellsB_bx, storeB_bx, BodyK, resVs, resV, retV, box_all, cast_lit, wrap_1, wrap_2, wrap_3, wrap_4, callK_def, hin, hcg, hv0, hg0, hv2, hg2, h7', hbx, -cellsOf_agg, vIns_len, take_vIns, cellsOf_vIns, setAll_ins]
              · have w0 : wants r c = false := by unfold wants; rw [hrel]; simp [hbx]
                have l0 : lays r c = false := by unfold lays; simp [h7]
                have v3 := v2 w0
                rw [l0] at v3
                have h8' : ¬ (c.op : Int) = 8 := by omega
                simp [new_box, app_box, len_box, cell_box, cell_box0, cells_box, cells_box0, store_box, store_box0, cellB_bx, cellsB_bx, storeB_bx, BodyK, resVs, resV, retV, box_all, cast_lit, wrap_1, wrap_2, wrap_3, wrap_4, callK_def, hin, hcg, hv0, hg0, hv2, hg2, h7', hbx, -cellsOf_agg, vIns_len, take_vIns, cellsOf_vIns, setAll_ins]
                simp [new_box, app_box, len_box, cell_box, cell_box0, cells_box, cells_box0, store_box, store_box0, cellB_bx, cellsB_bx, storeB_bx, BodyK, resVs, resV, retV, box_all, cast_lit, wrap_1, wrap_2, wrap_3, wrap_4, callK_def, hin, hcg, hv0, hg0, hv2, hg2, h8', hsi, -cellsOf_agg, vIns_len, take_vIns, cellsOf_vIns, setAll_ins]
                rw [eK_optK, hpj]
                simp [new_box, app_box, len_box, cell_box, cell_box0, cells_box, cells_box0, store_box, store_box0, cellB_bx, cellsB_bx, storeB_bx, BodyK, resVs, resV, retV, box_all, cast_lit, wrap_1, wrap_2, wrap_3, wrap_4]
                exact .go (seen.set i true, l' ++ nextsOf i c, [], ver + 1) (by simp only [List.length_append, List.length_singleton]; omega) (by simp) (by simp) ⟨by simpa using v3, by simp only [List.length_append]; omega⟩
            · have h7' : ¬ (c.op : Int) = 7 := by omega
              have w0 : wants r c = false := by unfold wants; rw [hrel]; simp [h7]
              have v3 := v2 w0
              by_cases h8 : c.op = 8
              · have h8' : (c.op : Int) = 8 := by omega
                by_cases hax : c.a = (r : Int)
                · have l1 : lays r c = true := by unfold lays; simp [h8, hax]
                  rw [l1] at v3
                  simp [new_box, app_box, len_box, cell_box, cell_box0, cells_box, cells_box0, store_box, store_box0, cellB_bx, cellsB_bx, storeB_bx, BodyK, resVs, resV, retV, box_all, cast_lit, wrap_1, wrap_2, wrap_3, wrap_4, callK_def, hin, hcg, hv0, hg0, h7', hv1, hg1, h8', hax, -cellsOf_agg, vIns_len, take_vIns, cellsOf_vIns, setAll_ins]
                  exact .go (seen.set i true, l', vI (i : Int) :: junk, ver) (by simp only [List.length_append, List.length_singleton]; omega) (by simp) rfl ⟨by simpa using v3, by simp only []; omega⟩
                · have l0 : lays r c = false := by unfold lays; simp [hax]
                  rw [l0] at v3
                  simp [new_box, app_box, len_box, cell_box, cell_box0, cells_box, cells_box0, store_box, store_box0, cellB_bx, cellsB_bx, storeB_bx, BodyK, resVs, resV, retV, box_all, cast_lit, wrap_1, wrap_2, wrap_3, wrap_4, callK_def, hin, hcg, hv0, hg0, h7', hv1, hg1, h8', hax, hsi, -cellsOf_agg, vIns_len, take_vIns, cellsOf_vIns, setAll_ins]
                  rw [eK_optK, hpj]
                  simp [new_box, app_box, len_box, cell_box, cell_box0, cells_box, cells_box0, store_box, store_box0, cellB_bx, cellsB_bx, storeB_bx, BodyK, resVs, resV, retV, box_all, cast_lit, wrap_1, wrap_2, wrap_3, wrap_4]
                  exact .go (seen.set i true, l' ++ nextsOf i c, [], ver + 1) (by simp only [List.length_append, List.length_singleton]; omega) (by simp) (by simp) ⟨by simpa using v3, by simp only [List.length_append]; omega⟩
              · have l0 : lays r c = false := by unfold lays; simp [h8]
                rw [l0] at v3
                have h8' : ¬ (c.op : Int) = 8 := by omega
                simp [new_box, app_box, len_box, cell_box, cell_box0, cells_box, cells_box0, store_box, store_box0, cellB_bx, cellsB_bx, storeB_bx, BodyK, resVs, resV, retV, box_all, cast_lit, wrap_1, wrap_2, wrap_3, wrap_4, callK_def, hin, hcg, hv0, hg0, h7', h8', hsi, -cellsOf_agg, vIns_len, take_vIns, cellsOf_vIns, setAll_ins]
                rw [eK_optK, hpj]
                simp [new_box, app_box, len_box, cell_box, cell_box0, cells_box, cells_box0, store_box, store_box0, cellB_bx, cellsB_bx, storeB_bx, BodyK, resVs, resV, retV, box_all, cast_lit, wrap_1, wrap_2, wrap_3, wrap_4]
                exact .go (seen.set i true, l' ++ nextsOf i c, [], ver + 1) (by simp only [List.length_append, List.length_singleton]; omega) (by simp) (by simp) ⟨by simpa using v3, by simp only [List.length_append]; omega⟩
end
end Pm

/- Stores that none can read: what is needed, by the document, of all places.
   No condition: plain lemmas. -/

namespace Pm
set_option linter.unusedSimpArgs false
set_option linter.unusedVariables false
open Go Am
open Go.Proofs.Try (prog)

section
variable {h : Heap} {K : Value → Heap → Prop}
def cur18 (code : List Ins) (i r t : Nat) : Prop := ∃ j : Nat, (j : Int) ∈ (nexts (succs code) i).take t ∧ Nd code r j
set_option maxHeartbeats 2000000 in
theorem r18Needed_call {code : List Ins} (hoc : ∀ i ∈ code, i.op ≤ 255) (hl : code.length ≤ lim) (hk : ∀ a, NeedsL code a → K (vL vU a) h) : PCall prog 76 [vM 4 vIns code] h K := by
  refine PCall.forget ?_
  refine call_r18Needed (by simp) ?_
  by_cases h60 : 60 < code.length
  · have h60' : (60 : Int) < code.length := by omega
    simp [new_box, app_box, len_box, cell_box, cell_box0, cells_box, cells_box0, store_box, store_box0, cellB_bx, cellsB_bx, storeB_bx, BodyK, resVs, resV, retV, box_all, cast_lit, wrap_1, wrap_2, wrap_3, wrap_4, c_r18Needed, h60']
    exact ⟨_, .nil, hk [] (by unfold NeedsL; rw [if_pos h60])⟩
  · have h60' : ¬ (60 : Int) < code.length := by omega
    have hlim : lim = 1048576 := rfl
    have hll : code.length ≤ lim := by omega
    obtain ⟨P, hP⟩ : ∃ P : Nat → Nat → Prop, P = fun i r => ∃ j : Nat, (j : Int) ∈ nexts (succs code) i ∧ Nd code r j := ⟨_, rfl⟩
    simp [-pwp_seq, new_box, app_box, len_box, cell_box, cell_box0, cells_box, cells_box0, store_box, store_box0, cellB_bx, cellsB_bx, storeB_bx, BodyK, resVs, resV, retV, box_all, cast_lit, wrap_1, wrap_2, wrap_3, wrap_4, c_r18Needed]
    rw [pwp_seq]
    simp [-pwp_seq, new_box, app_box, len_box, cell_box, cell_box0, cells_box, cells_box0, store_box, store_box0, cellB_bx, cellsB_bx, storeB_bx, BodyK, resVs, resV, retV, box_all, cast_lit, wrap_1, wrap_2, wrap_3, wrap_4, h60']
    refine RSuccs_call (by omega) ?_
    simp [-pwp_seq, new_box, app_box, len_box, cell_box, cell_box0, cells_box, cells_box0, store_box, store_box0, cellB_bx, cellsB_bx, storeB_bx, BodyK, resVs, resV, retV, box_all, cast_lit, wrap_1, wrap_2, wrap_3, wrap_4, callK_def, make_box hll, bx_repU]
    rw [pwp_seq]
    simp [-pwp_seq, new_box, app_box, len_box, cell_box, cell_box0, cells_box, cells_box0, store_box, store_box0, cellB_bx, cellsB_bx, storeB_bx, BodyK, resVs, resV, retV, box_all, cast_lit, wrap_1, wrap_2, wrap_3, wrap_4]
    refine loop_l (σ := Nat × List Nat × List Ob) (fun x => [(0, vM 4 vIns code), (3, vL (vL vI) (succs code)), (4, .slice (some ⟨h.length, 0, none⟩) code.length 0), (5, vI x.1)]) (fun x => h ++ (bxL vU x.2.1 :: x.2.2))
      (fun x => x.1 ≤ code.length ∧ TabJ P code.length x.1 0 False x.2.1) (fun x => code.length - x.1) (0, List.replicate code.length 0, []) (by simp) rfl ⟨by simp, .init⟩ ?_
    rintro ⟨i, out, rest⟩ fr ⟨hi, v⟩
    simp only at hi v ⊢
    by_cases hlt : i < code.length
    · obtain ⟨i1, hi1, wi⟩ := wrap_next (show i < lim by omega)
      have hif : (i : Int) < code.length := by omega
      obtain ⟨l, hls⟩ : ∃ l, (succs code)[i]? = some l := ⟨_, List.getElem?_eq_getElem (by rw [succs_len]; exact hlt)⟩
      have hln : nexts (succs code) i = l := nexts_of hls
      have hl2 : l.length ≤ 2 := by rw [← hln]; exact nexts_two code i
      rw [pwp_seq]
      simp [-pwp_seq, new_box, app_box, len_box, cell_box, cell_box0, cells_box, cells_box0, store_box, store_box0, cellB_bx, cellsB_bx, storeB_bx, BodyK, resVs, resV, retV, box_all, cast_lit, wrap_1, wrap_2, wrap_3, wrap_4, hif]
      rw [pwp_seq]
      simp [-pwp_seq, new_box, app_box, len_box, cell_box, cell_box0, cells_box, cells_box0, store_box, store_box0, cellB_bx, cellsB_bx, storeB_bx, BodyK, resVs, resV, retV, box_all, cast_lit, wrap_1, wrap_2, wrap_3, wrap_4]
      refine loop_l (σ := Nat × List Nat × List Ob) (fun x => [(0, vM 4 vIns code), (3, vL (vL vI) (succs code)), (4, .slice (some ⟨h.length, 0, none⟩) code.length 0), (5, vI i), (6, vI x.1)]) (fun x => h ++ (bxL vU x.2.1 :: x.2.2))
        (fun x => x.1 ≤ 8 ∧ TabJ P code.length i x.1 False x.2.1) (fun x => 8 - x.1) (0, out, rest) (by simp) rfl ⟨by simp, v⟩ ?_
      clear v
      rintro ⟨r, out, rest⟩ fr ⟨hr, v⟩
      simp only at hr v ⊢
      by_cases hr6 : r < 8
      · obtain ⟨r1, hr1, wr⟩ := wrap_next (show r < lim by omega)
        have hrf : (r : Int) < 8 := by omega
        rw [pwp_seq]
        simp [-pwp_seq, new_box, app_box, len_box, cell_box, cell_box0, cells_box, cells_box0, store_box, store_box0, cellB_bx, cellsB_bx, storeB_bx, BodyK, resVs, resV, retV, box_all, cast_lit, wrap_1, wrap_2, wrap_3, wrap_4, hrf]
        rw [pwp_seq]
        simp [-pwp_seq, new_box, app_box, len_box, cell_box, cell_box0, cells_box, cells_box0, store_box, store_box0, cellB_bx, cellsB_bx, storeB_bx, BodyK, resVs, resV, retV, box_all, cast_lit, wrap_1, wrap_2, wrap_3, wrap_4]
        refine loop_l (σ := Nat × List Nat × List Ob) (fun x => [(0, vM 4 vIns code), (3, vL (vL vI) (succs code)), (4, .slice (some ⟨h.length, 0, none⟩) code.length 0), (5, vI i), (6, vI r), (7, vI x.1)]) (fun x => h ++ (bxL vU x.2.1 :: x.2.2))
          (fun x => x.1 ≤ l.length ∧ TabJ P code.length i r (cur18 code i r x.1) x.2.1) (fun x => l.length - x.1) (0, out, rest) (by simp) rfl ⟨by simp, v.same (by simp [cur18])⟩ ?_
        clear v
        rintro ⟨t, out, rest⟩ fr ⟨ht, v⟩
        simp only at ht v ⊢
        by_cases htl : t < l.length
        · obtain ⟨t1, ht1, wt⟩ := wrap_next (show t < lim by omega)
          have htf : (t : Int) < l.length := by omega
          obtain ⟨x, hx⟩ : ∃ x, l[t]? = some x := ⟨_, List.getElem?_eq_getElem htl⟩
          rw [pwp_seq]
          simp [-pwp_seq, new_box, app_box, len_box, cell_box, cell_box0, cells_box, cells_box0, store_box, store_box0, cellB_bx, cellsB_bx, storeB_bx, BodyK, resVs, resV, retV, box_all, cast_lit, wrap_1, wrap_2, wrap_3, wrap_4, htf, hls]
          rw [pwp_seq]
          simp [-pwp_seq, new_box, app_box, len_box, cell_box, cell_box0, cells_box, cells_box0, store_box, store_box0, cellB_bx, cellsB_bx, storeB_bx, BodyK, resVs, resV, retV, box_all, cast_lit, wrap_1, wrap_2, wrap_3, wrap_4, hls, hx]
          refine r18need_call (by omega) hoc hr6 fun b hb => ?_
          have hbl : cur18 code i r t1 ↔ cur18 code i r t ∨ b = true := by
            unfold cur18
            rw [hln, take_snoc' hx ht1, hb]
            constructor
            · rintro ⟨j, hj, h⟩
              rcases List.mem_append.1 hj with hj | hj
              · exact .inl ⟨j, hj, h⟩
              · exact .inr ⟨j, (List.mem_singleton.1 hj).symm, h⟩
            · rintro (⟨j, hj, h⟩ | ⟨j, hj, h⟩)
              · exact ⟨j, by simp [hj], h⟩
              · exact ⟨j, by simp [hj], h⟩
          cases b with
          | true =>
            have hoi := gN_at (l := out) (i := i) (by rw [v.len]; exact hlt)
            have hog : out[i]'(by rw [v.len]; exact hlt) = gN out i := (List.getElem?_eq_some_iff.1 hoi).2
            have v3 := (v.hit hlt (by omega)).same (c' := cur18 code i r t1) (by simp [hbl])
            have hol := v.len
            have hfz := frz_one (h := h) (L := bxL vU out :: (rest ++ [bx [vI (r : Int)] 1])) (r := (r : Int)) (k := rest.length + 1) (by simp)
            simp [new_box, app_box, len_box, cell_box, cell_box0, cells_box, cells_box0, store_box, store_box0, cellB_bx, cellsB_bx, storeB_bx, BodyK, resVs, resV, retV, box_all, cast_lit, wrap_1, wrap_2, wrap_3, wrap_4, callK_def, hlt, hol, cellB_bxL, hog, hfz]
            refine RWith_call (v.lt i) (by simp [lim]) ?_
            obtain ⟨y, hy⟩ : ∃ y, y = withN (gN out i) [(r : Int)] := ⟨_, rfl⟩
            rw [← hy] at v3 ⊢
            simp [new_box, app_box, len_box, cell_box, cell_box0, cells_box, cells_box0, store_box, store_box0, cellB_bx, cellsB_bx, storeB_bx, BodyK, resVs, resV, retV, box_all, cast_lit, wrap_1, wrap_2, wrap_3, wrap_4, callK_def, hlt, hol, storeB_U, wt]
            exact .go (t1, out.set i y, _) (by simp only []; omega) (by simp) rfl ⟨by simp only []; omega, v3⟩
          | false =>
            have v3 := v.same (c' := cur18 code i r t1) (by simp [hbl])
            simp [new_box, app_box, len_box, cell_box, cell_box0, cells_box, cells_box0, store_box, store_box0, cellB_bx, cellsB_bx, storeB_bx, BodyK, resVs, resV, retV, box_all, cast_lit, wrap_1, wrap_2, wrap_3, wrap_4, callK_def, wt]
            exact .go (t1, out, rest) (by simp only []; omega) (by simp) rfl ⟨by simp only []; omega, v3⟩
        · have htf : ¬ (t : Int) < l.length := by omega
          have v2 := v.next (by
            rw [hP]; unfold cur18
            rw [List.take_of_length_le (by rw [hln]; omega)])
          rw [← hr1] at v2
          rw [pwp_seq]
          simp [new_box, app_box, len_box, cell_box, cell_box0, cells_box, cells_box0, store_box, store_box0, cellB_bx, cellsB_bx, storeB_bx, BodyK, resVs, resV, retV, box_all, cast_lit, wrap_1, wrap_2, wrap_3, wrap_4, htf, hls, wr]
          exact .go (r1, out, rest) (by simp only []; omega) (by simp) rfl ⟨by simp only []; omega, v2⟩
      · obtain rfl : r = 8 := by omega
        have v2 := v.row fun k hk => by
          rw [hP] at hk
          obtain ⟨j, _, h⟩ := hk
          exact h.low8
        rw [← hi1] at v2
        rw [pwp_seq]
        simp [new_box, app_box, len_box, cell_box, cell_box0, cells_box, cells_box0, store_box, store_box0, cellB_bx, cellsB_bx, storeB_bx, BodyK, resVs, resV, retV, box_all, cast_lit, wrap_1, wrap_2, wrap_3, wrap_4, wi]
        exact .go (i1, out, rest) (by simp only []; omega) (by simp) rfl ⟨by simp only []; omega, v2⟩
    · obtain rfl : i = code.length := by omega
      have hif : ¬ (code.length : Int) < code.length := by omega
      rw [pwp_seq]
      simp [new_box, app_box, len_box, cell_box, cell_box0, cells_box, cells_box0, store_box, store_box0, cellB_bx, cellsB_bx, storeB_bx, BodyK, resVs, resV, retV, box_all, cast_lit, wrap_1, wrap_2, wrap_3, wrap_4, hif]
      refine ⟨_, row_inl (j := 0) (l := out) rfl (fun _ => rfl) v.len.symm, hk out ?_⟩
      unfold NeedsL
      rw [if_neg h60]
      refine ⟨v.len, v.lt, fun j k => ?_⟩
      rw [v.end, hP]
end
end Pm

/- Stores that none can read: the code that is left, by the document, walked.
   No condition: plain lemmas. -/

namespace Pm
set_option linter.unusedSimpArgs false
set_option linter.unusedVariables false
open Go Am
open Go.Proofs.Try (prog)

theorem pElems_lit4 {h : Heap} {L : List Ob} {m : Nat} {cs : List Value} (hj : L[m]? = some (bx cs 4)) (hl : cs.length = 4) : pElems (h ++ L) 4 (.slice (some ⟨h.length + m, 0, none⟩) 1 0) = some (1, cs) := by
  rw [pElems_own, cells_at, hj, rowO_bx]
  simp [hl, List.take_of_length_le]
theorem AccM.cell {α : Type} {F : α → List Value} {e b : Nat} {H : Heap} {v : Value} {l : List α} (ha : AccM e F b H v l) : cellsOf v = some [v] := by
  rcases ha with ⟨e, _⟩ | ⟨id, ver, e, _⟩ <;> rw [e] <;> rfl
theorem cells_nop : cellsOf (.agg #[.int .u8 0, .int .i64 0, .int .i64 0, .int .i64 0]) = some (vIns nopI) := rfl
section
variable {h : Heap} {K : Value → Heap → Prop}
theorem r16Own_call {n : Nat} (hn : n ≤ lim) (hk : K (vL vI (ownL n)) h) : PCall prog 95 [vI n] h K := by
  refine Pure.go (Pure.of fun h => ?_) hk
  refine call_r16Own (by simp) ?_
  simp [-pwp_seq, new_box, app_box, len_box, cell_box, cell_box0, cells_box, cells_box0, store_box, store_box0, cellB_bx, cellsB_bx, storeB_bx, BodyK, resVs, resV, retV, box_all, cast_lit, wrap_1, wrap_2, wrap_3, wrap_4, c_r16Own]
  rw [pwp_seq]
  simp [-pwp_seq, new_box, app_box, len_box, cell_box, cell_box0, cells_box, cells_box0, store_box, store_box0, cellB_bx, cellsB_bx, storeB_bx, BodyK, resVs, resV, retV, box_all, cast_lit, wrap_1, wrap_2, wrap_3, wrap_4]
  refine loop_l (σ := Nat × Value × Heap) (fun x => [(0, vI n), (3, x.2.1), (4, vI x.1)]) (fun x => x.2.2) (fun x => x.1 ≤ n ∧ AccL vI h.length x.2.2 x.2.1 (ownL x.1) ∧ Keeps h.length h x.2.2) (fun x => n - x.1) (0, nilS, h) (by simp) rfl ⟨by simp, .nil, .refl _ _⟩ ?_
  rintro ⟨k, v, H⟩ fr ⟨hk0, ha, hkp⟩
  simp only at hk0 ha hkp ⊢
  have hlim : lim = 1048576 := rfl
  by_cases hlt : k < n
  · obtain ⟨k1, hk1, wk⟩ := wrap_next (show k < lim by omega)
    have hkf : (k : Int) < n := by omega
    rw [pwp_seq]
    simp [-pwp_seq, new_box, app_box, len_box, cell_box, cell_box0, cells_box, cells_box0, store_box, store_box0, cellB_bx, cellsB_bx, storeB_bx, BodyK, resVs, resV, retV, box_all, cast_lit, wrap_1, wrap_2, wrap_3, wrap_4, hkf]
    rw [pwp_seq]
    simp [-pwp_seq, new_box, app_box, len_box, cell_box, cell_box0, cells_box, cells_box0, store_box, store_box0, cellB_bx, cellsB_bx, storeB_bx, BodyK, resVs, resV, retV, box_all, cast_lit, wrap_1, wrap_2, wrap_3, wrap_4]
    refine AccL.push ha hkp.1 (by rw [ownL_len]; omega) (x := (k : Int)) fun v1 H1 a1 a2 _ _ => ?_
    rw [← ownL_succ, ← hk1] at a1
    simp [new_box, app_box, len_box, cell_box, cell_box0, cells_box, cells_box0, store_box, store_box0, cellB_bx, cellsB_bx, storeB_bx, BodyK, resVs, resV, retV, box_all, cast_lit, wrap_1, wrap_2, wrap_3, wrap_4, wk]
    exact .go (k1, v1, H1) (by simp only []; omega) (by simp) rfl ⟨by simp only []; omega, a1, hkp.trans a2⟩
  · obtain rfl : k = n := by omega
    have hkf : ¬ (k : Int) < k := by omega
    rw [pwp_seq]
    simp [new_box, app_box, len_box, cell_box, cell_box0, cells_box, cells_box0, store_box, store_box0, cellB_bx, cellsB_bx, storeB_bx, BodyK, resVs, resV, retV, box_all, cast_lit, wrap_1, wrap_2, wrap_3, wrap_4, hkf]
    exact ⟨hkp.ext, ha.inl fun _ => rfl⟩
/-- What was put out, so far. -/
structure RC (code : List Ins) (k : Nat) (out : List Ins) : Prop where
  len : out.length = k
  gone : ∀ i c, i < k → code[i]? = some c → Gone code i c → out[i]? = some nopI
  stay : ∀ i c, i < k → code[i]? = some c → ¬ Gone code i c → out[i]? = some c
theorem RC.next {code : List Ins} {k : Nat} {out : List Ins} {c d : Ins} (v : RC code k out) (hc : code[k]? = some c) (h1 : Gone code k c → d = nopI) (h2 : ¬ Gone code k c → d = c) : RC code (k + 1) (out ++ [d]) := by
  have hl := v.len
  refine ⟨by simp [v.len], fun i e hi he hg => ?_, fun i e hi he hg => ?_⟩
  · by_cases hik : i = k
    · subst hik; rw [hc] at he; cases he
      rw [List.getElem?_append_right (by omega), hl, Nat.sub_self, h1 hg]; rfl
    · rw [List.getElem?_append_left (by omega)]; exact v.gone i e (by omega) he hg
  · by_cases hik : i = k
    · subst hik; rw [hc] at he; cases he
      rw [List.getElem?_append_right (by omega), hl, Nat.sub_self, h2 hg]; rfl
    · rw [List.getElem?_append_left (by omega)]; exact v.stay i e (by omega) he hg
set_option maxHeartbeats 4000000 in
theorem r18Code_call {code : List Ins} (ho : ∀ i ∈ code, i.op ≤ 255) (hl : code.length ≤ lim) (hk : ∀ out fm, StoredL code out fm → K (vEdit out fm) h) : PCall prog 75 [vM 4 vIns code] h K := by
  refine PCall.forget ?_
  refine call_r18Code (by simp) ?_
  have hlim : lim = 1048576 := rfl
  by_cases h60 : 60 < code.length
  · have h60' : (60 : Int) < code.length := by omega
    simp [new_box, app_box, len_box, cell_box, cell_box0, cells_box, cells_box0, store_box, store_box0, cellB_bx, cellsB_bx, storeB_bx, BodyK, resVs, resV, retV, box_all, cast_lit, wrap_1, wrap_2, wrap_3, wrap_4, c_r18Code, h60']
    exact ⟨_, Inls.agg (xs := [_, _]) (ys := [_, _]) ⟨.nil, .nil, trivial⟩, hk [] [] (by unfold StoredL; rw [if_pos h60]; exact ⟨rfl, rfl⟩)⟩
  · have h60' : ¬ (60 : Int) < code.length := by omega
    simp [-pwp_seq, new_box, app_box, len_box, cell_box, cell_box0, cells_box, cells_box0, store_box, store_box0, cellB_bx, cellsB_bx, storeB_bx, BodyK, resVs, resV, retV, box_all, cast_lit, wrap_1, wrap_2, wrap_3, wrap_4, c_r18Code]
    rw [pwp_seq]
    simp [-pwp_seq, new_box, app_box, len_box, cell_box, cell_box0, cells_box, cells_box0, store_box, store_box0, cellB_bx, cellsB_bx, storeB_bx, BodyK, resVs, resV, retV, box_all, cast_lit, wrap_1, wrap_2, wrap_3, wrap_4, h60']
    refine r18Needed_call ho hl fun b hb => ?_
    have hA : Asked askN killN code b := by unfold NeedsL at hb; rwa [if_neg h60] at hb
    have hbl := hA.len
    simp [-pwp_seq, new_box, app_box, len_box, cell_box, cell_box0, cells_box, cells_box0, store_box, store_box0, cellB_bx, cellsB_bx, storeB_bx, BodyK, resVs, resV, retV, box_all, cast_lit, wrap_1, wrap_2, wrap_3, wrap_4, callK_def]
    refine RSuccs_call (by omega) ?_
    simp [-pwp_seq, new_box, app_box, len_box, cell_box, cell_box0, cells_box, cells_box0, store_box, store_box0, cellB_bx, cellsB_bx, storeB_bx, BodyK, resVs, resV, retV, box_all, cast_lit, wrap_1, wrap_2, wrap_3, wrap_4, callK_def]
    refine RReach_call (s := succs code) (by rw [succs_len]; omega) (fun l hl => by have := succs_short code l hl; omega) fun seen hs1 hs2 => ?_
    rw [succs_len] at hs1
    simp [-pwp_seq, new_box, app_box, len_box, cell_box, cell_box0, cells_box, cells_box0, store_box, store_box0, cellB_bx, cellsB_bx, storeB_bx, BodyK, resVs, resV, retV, box_all, cast_lit, wrap_1, wrap_2, wrap_3, wrap_4, callK_def]
    rw [pwp_seq]
    simp [-pwp_seq, new_box, app_box, len_box, cell_box, cell_box0, cells_box, cells_box0, store_box, store_box0, cellB_bx, cellsB_bx, storeB_bx, BodyK, resVs, resV, retV, box_all, cast_lit, wrap_1, wrap_2, wrap_3, wrap_4]
    refine loop_l (σ := Nat × Value × List Ins × Heap) (fun x => [(0, vM 4 vIns code), (2, ptr h.length), (3, vL vU b), (4, vL vB seen), (5, x.2.1), (6, vI x.1)]) (fun x => x.2.2.2)
      (fun x => x.1 ≤ code.length ∧ AccM 4 vIns (h.length + 1) x.2.2.2 x.2.1 x.2.2.1 ∧ RC code x.1 x.2.2.1 ∧ RowV x.2.2.2 h.length 0 2 [nilS, nilS] ∧ Keeps h.length h x.2.2.2) (fun x => code.length - x.1)
      (0, nilS, [], h ++ [bx [nilS, nilS] 2]) (by simp) rfl ⟨by simp, .nil, ⟨rfl, fun i c hi => by omega, fun i c hi => by omega⟩, by simp [RowV, bx], Keeps.app⟩ ?_
    rintro ⟨k, ov, out, H⟩ fr ⟨hk0, ha, v, hr, hkp⟩
    simp only at hk0 ha v hr hkp ⊢
    by_cases hlt : k < code.length
    · obtain ⟨k1, hk1, wk⟩ := wrap_next (show k < lim by omega)
      obtain ⟨c, hc⟩ : ∃ c, code[k]? = some c := ⟨_, List.getElem?_eq_getElem hlt⟩
      have hcg : code[k]'hlt = c := (List.getElem?_eq_some_iff.1 hc).2
      have hkf : (k : Int) < code.length := by omega
      have hco := ho c (List.mem_of_getElem? hc)
      obtain ⟨sk, hsk⟩ : ∃ sk, seen[k]? = some sk := ⟨_, List.getElem?_eq_getElem (by omega)⟩
      have hbk := gN_at (l := b) (i := k) (by omega)
      have hg0 : ∀ hh, (vIns c)[0]'hh = v8 c.op := fun _ => rfl
      have hg1 : ∀ hh, (vIns c)[1]'hh = vI c.a := fun _ => rfl
      have hv0 : (vIns c)[0]? = some (v8 c.op) := rfl
      have hv1 : (vIns c)[1]? = some (vI c.a) := rfl
      rw [pwp_seq]
      simp [-pwp_seq, new_box, app_box, len_box, cell_box, cell_box0, cells_box, cells_box0, store_box, store_box0, cellB_bx, cellsB_bx, storeB_bx, BodyK, resVs, resV, retV, box_all, cast_lit, wrap_1, wrap_2, wrap_3, wrap_4, hkf]
      rw [pwp_seq]
      simp [-pwp_seq, new_box, app_box, len_box, cell_box, cell_box0, cells_box, cells_box0, store_box, store_box0, cellB_bx, cellsB_bx, storeB_bx, BodyK, resVs, resV, retV, box_all, cast_lit, wrap_1, wrap_2, wrap_3, wrap_4, hc, -cellsOf_agg, vIns_len, take_vIns, cellsOf_vIns, setAll_ins]
      refine seq_l (σ := Ins) (fun _ => [(0, vM 4 vIns code), (2, ptr h.length), (3, vL vU b), (4, vL vB seen), (5, ov), (6, vI k), (7, ptr H.length)]) (fun d => H ++ [bx (vIns d) 4]) (fun d => (Gone code k c → d = nopI) ∧ (¬ Gone code k c → d = c)) ?_ ?_
      · by_cases h8 : c.op = 8
        · have h8' : (c.op : Int) = 8 := by omega
          by_cases ha0 : 0 ≤ c.a
          · obtain ⟨x, hx⟩ : ∃ x : Nat, c.a = (x : Int) := ⟨c.a.toNat, by omega⟩
            have hx0 : (0 : Int) ≤ (x : Int) := by omega
            by_cases hx8 : x < 8
            · have hx8' : (x : Int) < 8 := by omega
              cases sk with
              | true =>
                have hcome : Come (succs code) k := (hs2 k).1 hsk
                simp [new_box, app_box, len_box, cell_box, cell_box0, cells_box, cells_box0, store_box, store_box0, cellB_bx, cellsB_bx, storeB_bx, BodyK, resVs, resV, retV, box_all, cast_lit, wrap_1, wrap_2, wrap_3, wrap_4, h8', hx, hx0, hx8', hsk, hbk, hv0, hg0, hv1, hg1, -cellsOf_agg, vIns_len, take_vIns, cellsOf_vIns, setAll_ins]
                refine RHas_call (hA.lt k) ?_
                rw [hasB_nat (by omega)]
                cases hn : (gN b k).testBit x with
                | true =>
                  have hng : ¬ Gone code k c := by
                    rintro ⟨_, y, hy1, hy2, _, hy3⟩
                    obtain rfl : x = y := by omega
                    have := (hA.bit k x).1 hn
                    rw [nexts_succs hc] at this
                    exact hy3 this.2
                  simp [new_box, app_box, len_box, cell_box, cell_box0, cells_box, cells_box0, store_box, store_box0, cellB_bx, cellsB_bx, storeB_bx, BodyK, resVs, resV, retV, box_all, cast_lit, wrap_1, wrap_2, wrap_3, wrap_4, callK_def, -cellsOf_agg, vIns_len, take_vIns, cellsOf_vIns, setAll_ins]
                  exact .go c (by simp) rfl ⟨fun h => absurd h hng, fun _ => rfl⟩
                | false =>
                  have hgn : Gone code k c := ⟨h8, x, hx8, hx, hcome, fun hj => by
                    have := (hA.bit k x).2 ⟨hlt, by rw [nexts_succs hc]; exact hj⟩
                    rw [hn] at this; cases this⟩
                  simp [new_box, app_box, len_box, cell_box, cell_box0, cells_box, cells_box0, store_box, store_box0, cellB_bx, cellsB_bx, storeB_bx, BodyK, resVs, resV, retV, box_all, cast_lit, wrap_1, wrap_2, wrap_3, wrap_4, callK_def, cells_nop, -cellsOf_agg, vIns_len, take_vIns, cellsOf_vIns, setAll_ins]
                  exact .go nopI (by simp) rfl ⟨fun _ => rfl, fun h => absurd hgn h⟩
              | false =>
                have hng : ¬ Gone code k c := fun ⟨_, y, _, _, hy, _⟩ => by rw [← hs2 k, hsk] at hy; cases hy
                simp [new_box, app_box, len_box, cell_box, cell_box0, cells_box, cells_box0, store_box, store_box0, cellB_bx, cellsB_bx, storeB_bx, BodyK, resVs, resV, retV, box_all, cast_lit, wrap_1, wrap_2, wrap_3, wrap_4, h8', hx, hx0, hx8', hsk, hv0, hg0, hv1, hg1, -cellsOf_agg, vIns_len, take_vIns, cellsOf_vIns, setAll_ins]
                exact .go c (by simp) rfl ⟨fun h => absurd h hng, fun _ => rfl⟩
            · have hx8' : ¬ (x : Int) < 8 := by omega
              have hng : ¬ Gone code k c := fun ⟨_, y, hy, hy2, _⟩ => by omega
              simp [new_box, app_box, len_box, cell_box, cell_box0, cells_box, cells_box0, store_box, store_box0, cellB_bx, cellsB_bx, storeB_bx, BodyK, resVs, resV, retV, box_all, cast_lit, wrap_1, wrap_2, wrap_3, wrap_4, h8', hx, hx0, hx8', hv0, hg0, hv1, hg1, -cellsOf_agg, vIns_len, take_vIns, cellsOf_vIns, setAll_ins]
              exact .go c (by simp) rfl ⟨fun h => absurd h hng, fun _ => rfl⟩
          · have hng : ¬ Gone code k c := fun ⟨_, y, hy, hy2, _⟩ => by omega
            simp [new_box, app_box, len_box, cell_box, cell_box0, cells_box, cells_box0, store_box, store_box0, cellB_bx, cellsB_bx, storeB_bx, BodyK, resVs, resV, retV, box_all, cast_lit, wrap_1, wrap_2, wrap_3, wrap_4, h8', ha0, hv0, hg0, hv1, hg1, -cellsOf_agg, vIns_len, take_vIns, cellsOf_vIns, setAll_ins]
            exact .go c (by simp) rfl ⟨fun h => absurd h hng, fun _ => rfl⟩
        · have h8' : ¬ (c.op : Int) = 8 := by omega
          have hng : ¬ Gone code k c := fun hg => h8 hg.1
          simp [new_box, app_box, len_box, cell_box, cell_box0, cells_box, cells_box0, store_box, store_box0, cellB_bx, cellsB_bx, storeB_bx, BodyK, resVs, resV, retV, box_all, cast_lit, wrap_1, wrap_2, wrap_3, wrap_4, h8', hv0, hg0, -cellsOf_agg, vIns_len, take_vIns, cellsOf_vIns, setAll_ins]
          exact .go c (by simp) rfl ⟨fun h => absurd h hng, fun _ => rfl⟩
      rintro d fr ⟨d1, d2⟩
      have v2 := v.next hc d1 d2
      rw [← hk1] at v2
      have hrl := hr.lt
      simp [new_box, app_box, len_box, cell_box, cell_box0, cells_box, cells_box0, store_box, store_box0, cellB_bx, cellsB_bx, storeB_bx, BodyK, resVs, resV, retV, box_all, cast_lit, wrap_1, wrap_2, wrap_3, wrap_4, -cellsOf_agg, vIns_len, take_vIns, cellsOf_vIns, setAll_ins]
      refine AccM.apps (ha.ext Keeps.app) (by simp; omega) (m := [d]) (pElems_lit4 (m := 1) (cs := vIns d) rfl rfl) (by rw [v.len]; simp; omega) fun v1 H1 a1 a2 a3 a4 => ?_
      have kp2 : Keeps h.length H H1 := ⟨by have := a2.1; simp at this; omega, fun i hi => by
        have e := a2.2 i (by omega)
        rw [List.getElem?_append_left (by omega)] at e
        exact e⟩
      simp [new_box, app_box, len_box, cell_box, cell_box0, cells_box, cells_box0, store_box, store_box0, cellB_bx, cellsB_bx, storeB_bx, BodyK, resVs, resV, retV, box_all, cast_lit, wrap_1, wrap_2, wrap_3, wrap_4, wk]
      exact .go (k1, v1, out ++ [d], H1) (by simp only []; omega) (by simp) rfl ⟨by simp only []; omega, a1, v2, hr.keep (by rw [a2.2 _ (by omega), List.getElem?_append_left (by omega)]), hkp.trans kp2⟩
    · obtain rfl : k = code.length := by omega
      have hkf : ¬ (code.length : Int) < code.length := by omega
      have hoc : cellsOf ov = some [ov] := ha.cell
      obtain ⟨H2, s1, s2, s3⟩ := hr.store (n := 2) (cs := [ov, vL vI (ownL code.length)]) rfl rfl (by
          have hq := ha
          rcases hq with ⟨e, _⟩ | ⟨id, ver, e, _⟩ <;> rw [e] <;> rfl)
      have s1' : storeV H 2 (ptr h.length) (.agg #[ov, vL vI (ownL code.length)]) = some H2 := s1
      have ce2 : H2.cells? h.length 0 0 2 = some [ov, vL vI (ownL code.length)] := s2.cells rfl
      rw [pwp_seq]
      simp [new_box, app_box, len_box, cell_box, cell_box0, cells_box, cells_box0, store_box, store_box0, cellB_bx, cellsB_bx, storeB_bx, BodyK, resVs, resV, retV, box_all, cast_lit, wrap_1, wrap_2, wrap_3, wrap_4, hkf]
      refine r16Own_call (by omega) ?_
      simp [new_box, app_box, len_box, cell_box, cell_box0, cells_box, cells_box0, store_box, store_box0, cellB_bx, cellsB_bx, storeB_bx, BodyK, resVs, resV, retV, box_all, cast_lit, wrap_1, wrap_2, wrap_3, wrap_4, callK_def, hoc, s1', ce2]
      obtain ⟨g, hg⟩ := (hkp.trans ⟨by rw [s3.2]; exact Nat.le_refl _, fun i hi => s3.1 i (by omega)⟩ : Keeps h.length h H2).ext
      have i1 : Inl h.length H2 ov (vM 4 vIns out) := by
        have f3 : AccM 4 vIns h.length H2 ov out := by
          rcases ha with ⟨e1, e2, e3⟩ | ⟨id, ver, e1, e2, e3, e4⟩
          · exact Or.inl ⟨e1, e2, e3⟩
          · exact Or.inr ⟨id, ver, e1, by omega, by rw [s3.1 id (by omega)]; exact e3, e4⟩
        exact AccM.inl f3 fun _ => rfl
      refine ⟨⟨g, hg⟩, _, Inls.agg (xs := [ov, vL vI (ownL code.length)]) (ys := [vM 4 vIns out, vL vI (ownL code.length)]) ⟨i1, .cell rfl, trivial⟩, hk out (ownL code.length) ?_⟩
      unfold StoredL
      rw [if_neg h60]
      exact ⟨⟨v.len, fun i c hc => v.gone i c (List.getElem?_eq_some_iff.1 hc).1 hc, fun i c hc => v.stay i c (List.getElem?_eq_some_iff.1 hc).1 hc⟩, rfl⟩
end
end Pm

/- Stores that none can read: of straight code; small walks.
   No condition: plain lemmas. -/

namespace Pm
set_option linter.unusedSimpArgs false
set_option linter.unusedVariables false
open Go Am
open Go.Proofs.Try (prog)

/-- No jump stands in it. -/
def Strt (code : List Ins) : Prop := ∀ c ∈ code, c.op ≠ 10 ∧ c.op ≠ 11
theorem nextsOf_plain {i : Nat} {c : Ins} (h : c.op ≠ 10 ∧ c.op ≠ 11) : nextsOf i c = [((i + 1 : Nat) : Int)] := by
  unfold nextsOf
  rw [if_neg h.1, if_neg h.2]
  rfl
def ndS (x : Nat) : List Ins → Bool
  | [] => false
  | c :: l => wants x c || (!lays x c && ndS x l)
theorem nd_straight {code : List Ins} (hs : Strt code) {x : Nat} (hx : x < 8) (n : Nat) : ∀ i, code.length - i ≤ n → (Nd code x i ↔ ndS x (code.drop i) = true) := by
  induction n with
  | zero =>
    intro i hi
    rw [List.drop_eq_nil_of_le (by omega)]
    constructor
    · intro h; have := h.lt; omega
    · intro h; cases h
  | succ n ih =>
    intro i hi
    by_cases hlt : i < code.length
    · have hc : code[i]? = some code[i] := List.getElem?_eq_getElem hlt
      rw [nd_step hx hc, List.drop_eq_getElem_cons hlt, nextsOf_plain (hs _ (List.getElem_mem hlt))]
      simp only [ndS, Bool.or_eq_true, Bool.and_eq_true, Bool.not_eq_true', List.mem_singleton]
      rw [← ih (i + 1) (by omega)]
      constructor
      · rintro (h | ⟨h1, j, hj, h2⟩)
        · exact .inl h
        · obtain rfl : j = i + 1 := by omega
          exact .inr ⟨h1, h2⟩
      · rintro (h | ⟨h1, h2⟩)
        · exact .inl h
        · exact .inr ⟨h1, i + 1, rfl, h2⟩
    · rw [List.drop_eq_nil_of_le (by omega)]
      constructor
      · intro h; have := h.lt; omega
      · intro h; cases h
theorem come_straight {code : List Ins} (hs : Strt code) : ∀ i, i < code.length → Come (succs code) i
  | 0, h => .start (by rw [succs_len]; exact h)
  | i + 1, h => by
    have hi : i < code.length := by omega
    refine .step (come_straight hs i hi) (l := nextsOf i code[i]) (by rw [succs_at, List.getElem?_eq_getElem hi]; rfl) ?_ (by rw [succs_len]; exact h)
    rw [nextsOf_plain (hs _ (List.getElem_mem hi))]
    exact List.mem_singleton.2 rfl
def goneS (l : List Ins) (c : Ins) : Bool := decide (c.op = 8) && (decide (0 ≤ c.a) && (decide (c.a < 8) && !ndS c.a.toNat l))
theorem gone_straight {code : List Ins} (hs : Strt code) {i : Nat} {c : Ins} (hc : code[i]? = some c) : Gone code i c ↔ goneS (code.drop (i + 1)) c = true := by
  have hlt := (List.getElem?_eq_some_iff.1 hc).1
  have hp := nextsOf_plain (i := i) (hs c (List.mem_of_getElem? hc))
  simp only [goneS, Bool.and_eq_true, decide_eq_true_eq, Bool.not_eq_true']
  constructor
  · rintro ⟨h8, x, hx, ha, _, hn⟩
    have e : c.a.toNat = x := by omega
    refine ⟨h8, by omega, by omega, ?_⟩
    rw [e]
    cases hd : ndS x (code.drop (i + 1)) with
    | false => rfl
    | true => exact absurd ⟨i + 1, by rw [hp]; exact List.mem_singleton.2 rfl, (nd_straight hs hx _ _ (Nat.le_refl _)).2 hd⟩ hn
  · rintro ⟨h8, h0, h1, hd⟩
    refine ⟨h8, c.a.toNat, by omega, by omega, come_straight hs i hlt, ?_⟩
    rintro ⟨j, hj, h⟩
    rw [hp, List.mem_singleton] at hj
    obtain rfl : j = i + 1 := by omega
    rw [(nd_straight hs (by omega) _ _ (Nat.le_refl _)).1 h] at hd
    cases hd
def outS : List Ins → List Ins
  | [] => []
  | c :: l => (if goneS l c = true then nopI else c) :: outS l
theorem outS_at : ∀ (code : List Ins) (i : Nat), (outS code)[i]? = (code[i]?).map fun c => if goneS (code.drop (i + 1)) c = true then nopI else c
  | [], i => by simp [outS]
  | c :: l, 0 => by simp [outS]
  | c :: l, i + 1 => by simp [outS, outS_at l i]
theorem stored_straight {code : List Ins} (hs : Strt code) : Stored code (outS code) := by
  refine ⟨?_, fun i c hc hg => ?_, fun i c hc hg => ?_⟩
  · induction code with
    | nil => rfl
    | cons c l ih => simp [outS, ih fun d hd => hs d (List.mem_cons_of_mem _ hd)]
  · rw [outS_at, hc]
    rw [gone_straight hs hc] at hg
    simp [hg]
  · rw [outS_at, hc]
    rw [gone_straight hs hc] at hg
    simp [hg]
theorem StoredL.eq {code out : List Ins} {fm : List Int} (h : StoredL code out fm) (hs : Strt code) (hl : code.length ≤ 60) : out = outS code ∧ fm = ownL code.length := by
  unfold StoredL at h
  rw [if_neg (by omega)] at h
  exact ⟨h.1.unique (stored_straight hs), h.2⟩
theorem StoredL.unique {code o1 o2 : List Ins} {f1 f2 : List Int} (h : StoredL code o1 f1) (k : StoredL code o2 f2) : o2 = o1 ∧ f2 = f1 := by
  unfold StoredL at h k
  split at h
  · rw [if_pos (by assumption)] at k; rw [h.1, h.2, k.1, k.2]; exact ⟨rfl, rfl⟩
  · rw [if_neg (by assumption)] at k; rw [h.2, k.2]; exact ⟨k.1.unique h.1, rfl⟩
theorem NeedsL.unique {code : List Ins} {a b : List Nat} (h : NeedsL code a) (k : NeedsL code b) : b = a := by
  unfold NeedsL at h k
  split at h
  · rw [if_pos (by assumption)] at k; rw [h, k]
  · rw [if_neg (by assumption)] at k; exact k.unique h
theorem NeedsL.short {code : List Ins} {a : List Nat} (h : NeedsL code a) : a.length < lim := by
  unfold NeedsL at h
  split at h
  · rw [h]; decide
  · rw [h.len]; unfold lim; omega
theorem StoredL.short {code out : List Ins} {f : List Int} (h : StoredL code out f) : out.length < lim ∧ f.length < lim := by
  unfold StoredL at h
  split at h
  · rw [h.1, h.2]; decide
  · rw [h.1.len, h.2, ownL_len]; unfold lim; omega
theorem eqAV_I {x y : Ins} {g : Bool} : eqAV [0, 0, 0, 0] g (.agg (vIns x).toArray) (.agg (vIns y).toArray) = some (.bool (if g then !decide (x = y) else decide (x = y))) := by
  have e : (x = y) ↔ (x.op : Int) = y.op ∧ x.a = y.a ∧ x.b = y.b ∧ x.c = y.c := by
    constructor
    · rintro rfl; simp
    · rintro ⟨h1, h2, h3, h4⟩
      obtain ⟨_, _, _, _⟩ := x
      obtain ⟨_, _, _, _⟩ := y
      simp only at h1 h2 h3 h4
      subst h2 h3 h4
      simp only [Ins.mk.injEq, and_true]
      omega
  have k : eqCs [0, 0, 0, 0] (vIns x) (vIns y) = some (decide (x = y)) := by
    simp only [vIns, eqCs_int, eqCs_nil, e]
    by_cases h1 : (x.op : Int) = y.op <;> by_cases h2 : x.a = y.a <;> by_cases h3 : x.b = y.b <;> by_cases h4 : x.c = y.c <;> simp only [h1, h2, h3, h4, if_true, if_false, and_true, true_and, and_false, false_and, decide_true, decide_false]
  rw [eqAV_agg, k]
  rfl
section
variable {h : Heap} {K : Value → Heap → Prop}
theorem R2SameCode_call {a : List Ins} (hl : a.length < lim) (hk : K (vB true) h) : PCall prog 77 [vM 4 vIns a, vM 4 vIns a] h K := by
  refine call_R2SameCode (by simp) ?_
  simp [-pwp_seq, new_box, app_box, len_box, cell_box, cell_box0, cells_box, cells_box0, store_box, store_box0, cellB_bx, cellsB_bx, storeB_bx, BodyK, resVs, resV, retV, box_all, cast_lit, wrap_1, wrap_2, wrap_3, wrap_4, c_R2SameCode]
  rw [pwp_seq]
  simp [-pwp_seq, new_box, app_box, len_box, cell_box, cell_box0, cells_box, cells_box0, store_box, store_box0, cellB_bx, cellsB_bx, storeB_bx, BodyK, resVs, resV, retV, box_all, cast_lit, wrap_1, wrap_2, wrap_3, wrap_4]
  rw [pwp_seq]
  simp [-pwp_seq, new_box, app_box, len_box, cell_box, cell_box0, cells_box, cells_box0, store_box, store_box0, cellB_bx, cellsB_bx, storeB_bx, BodyK, resVs, resV, retV, box_all, cast_lit, wrap_1, wrap_2, wrap_3, wrap_4]
  refine loop_l (σ := Nat) (fun i => [(0, vM 4 vIns a), (1, vM 4 vIns a), (5, vI i)]) (fun _ => h) (fun i => i ≤ a.length) (fun i => a.length - i) 0 (by simp) rfl (by simp) ?_
  intro i fr hi
  by_cases hlt : i < a.length
  · obtain ⟨i1, hi1, wi⟩ := wrap_next (show i < lim by omega)
    obtain ⟨x, hx⟩ : ∃ x, a[i]? = some x := ⟨_, List.getElem?_eq_getElem hlt⟩
    have hif : (i : Int) < a.length := by omega
    rw [pwp_seq]
    simp [new_box, app_box, len_box, cell_box, cell_box0, cells_box, cells_box0, store_box, store_box0, cellB_bx, cellsB_bx, storeB_bx, BodyK, resVs, resV, retV, box_all, cast_lit, wrap_1, wrap_2, wrap_3, wrap_4, hif, hx, wi, -eqAV_agg, eqAV_I, -cellsOf_agg, vIns_len, take_vIns, cellsOf_vIns, setAll_ins]
    exact .go i1 (by omega) (by simp) rfl (by omega)
  · have hif : ¬ (i : Int) < a.length := by omega
    rw [pwp_seq]
    simp [new_box, app_box, len_box, cell_box, cell_box0, cells_box, cells_box0, store_box, store_box0, cellB_bx, cellsB_bx, storeB_bx, BodyK, resVs, resV, retV, box_all, cast_lit, wrap_1, wrap_2, wrap_3, wrap_4, hif]
    exact hk
end
end Pm

/- Stores that none can read: the chapter's example, and the program tells what the document tells, walked.
   No condition: plain lemmas. -/

namespace Pm
set_option linter.unusedSimpArgs false
set_option linter.unusedVariables false
open Go Am
open Go.Proofs.Try (prog)

def c18a : List Ins := [⟨8, 0, 1, 0⟩, ⟨8, 0, 2, 0⟩, ⟨14, 0, 0, 0⟩]
def c18b : List Ins := [⟨8, 0, 1, 0⟩, ⟨14, 0, 0, 0⟩, ⟨8, 0, 2, 0⟩]
def c18c : List Ins := [⟨0, 0, 0, 0⟩, ⟨7, 0, 1, 0⟩]
theorem asked_straight {code : List Ins} (hs : Strt code) {b : List Nat} (hb : Asked askN killN code b) {i : Nat} (hi : i < code.length) (r : Nat) : (gN b i).testBit r = (decide (r < 8) && ndS r (code.drop (i + 1))) := by
  have hc : code[i]? = some code[i] := List.getElem?_eq_getElem hi
  have hp := nextsOf_plain (i := i) (hs _ (List.getElem_mem hi))
  rw [Bool.eq_iff_iff, hb.bit, nexts_succs hc, hp, Bool.and_eq_true, decide_eq_true_eq]
  constructor
  · rintro ⟨_, j, hj, h⟩
    rw [List.mem_singleton] at hj
    obtain rfl : j = i + 1 := by omega
    exact ⟨Nd.low8 h, (nd_straight hs (Nd.low8 h) _ _ (Nat.le_refl _)).1 h⟩
  · rintro ⟨h1, h2⟩
    exact ⟨hi, i + 1, List.mem_singleton.2 rfl, (nd_straight hs h1 _ _ (Nat.le_refl _)).2 h2⟩
theorem strt18a : Strt c18a := by unfold Strt c18a; decide
theorem strt18b : Strt c18b := by unfold Strt c18b; decide
theorem strt18c : Strt c18c := by unfold Strt c18c; decide
theorem needs18 {b : List Nat} (h : NeedsL c18c b) : b = [2, 0] := by
  unfold NeedsL at h
  rw [if_neg (by decide)] at h
  refine ext_gN (by rw [h.len]; rfl) fun i hi => ?_
  rw [h.len] at hi
  refine Nat.eq_of_testBit_eq fun r => ?_
  rw [asked_straight strt18c h hi]
  have hi2 : i = 0 ∨ i = 1 := by change i < 2 at hi; omega
  rcases hi2 with rfl | rfl
  · show (decide (r < 8) && ndS r [⟨7, 0, 1, 0⟩]) = (2 ^ 1).testBit r
    rw [Nat.testBit_two_pow]
    by_cases e : r = 1
    · subst e; rfl
    · have e1 : ¬ (1 : Int) = (r : Int) := by omega
      have e2 : ¬ 1 = r := fun h => e h.symm
      simp [ndS, wants, e1, e2, show relOp 7 = false from rfl]
  · show (decide (r < 8) && false) = (0 : Nat).testBit r
    simp
section
variable {h : Heap} {K : Value → Heap → Prop}
set_option maxHeartbeats 4000000 in
theorem known18_call (hk : K (vB true) h) : PCall prog 37 [] h K := by
  refine Pure.go (Pure.one (p := vB true) rfl fun h => ?_) hk
  refine call_known18 (by simp) ?_
  have hfa : frzV (h ++ [bx [.int .u8 8, .int .i64 0, .int .i64 1, .int .i64 0, .int .u8 8, .int .i64 0, .int .i64 2, .int .i64 0, .int .u8 14, .int .i64 0, .int .i64 0, .int .i64 0] 4]) 4 (.slice (some ⟨h.length, 0, none⟩) 3 0) = some (vM 4 vIns c18a, h ++ [.row ⟨c18a.flatMap vIns, 4, 0, false⟩]) := frzV_new (h := h) rfl rfl rfl
  have hfb : ∀ a b : Ob, frzV (h ++ [a, b, bx [.int .u8 8, .int .i64 0, .int .i64 1, .int .i64 0, .int .u8 14, .int .i64 0, .int .i64 0, .int .i64 0, .int .u8 8, .int .i64 0, .int .i64 2, .int .i64 0] 4]) 4 (.slice (some ⟨h.length + 2, 0, none⟩) 3 0) = some (vM 4 vIns c18b, h ++ [a, b, .row ⟨c18b.flatMap vIns, 4, 0, false⟩]) := fun a b => frz_at (h := h) (rs := [a, b, bx [.int .u8 8, .int .i64 0, .int .i64 1, .int .i64 0, .int .u8 14, .int .i64 0, .int .i64 0, .int .i64 0, .int .u8 8, .int .i64 0, .int .i64 2, .int .i64 0] 4]) (j := 2) (off := 0) (ver := 0) (r := ⟨[.int .u8 8, .int .i64 0, .int .i64 1, .int .i64 0, .int .u8 14, .int .i64 0, .int .i64 0, .int .i64 0, .int .u8 8, .int .i64 0, .int .i64 2, .int .i64 0], 4, 0, true⟩) rfl (by simp) rfl
  have hfc : ∀ a b c d : Ob, frzV (h ++ [a, b, c, d, bx [.int .u8 0, .int .i64 0, .int .i64 0, .int .i64 0, .int .u8 7, .int .i64 0, .int .i64 1, .int .i64 0] 4]) 4 (.slice (some ⟨h.length + 4, 0, none⟩) 2 0) = some (vM 4 vIns c18c, h ++ [a, b, c, d, .row ⟨c18c.flatMap vIns, 4, 0, false⟩]) := fun a b c d => frz_at (h := h) (rs := [a, b, c, d, bx [.int .u8 0, .int .i64 0, .int .i64 0, .int .i64 0, .int .u8 7, .int .i64 0, .int .i64 1, .int .i64 0] 4]) (j := 4) (off := 0) (ver := 0) (r := ⟨[.int .u8 0, .int .i64 0, .int .i64 0, .int .i64 0, .int .u8 7, .int .i64 0, .int .i64 1, .int .i64 0], 4, 0, true⟩) rfl (by simp) rfl
  simp [new_box, app_box, len_box, cell_box, cell_box0, cells_box, cells_box0, store_box, store_box0, cellB_bx, cellsB_bx, storeB_bx, BodyK, resVs, resV, retV, box_all, cast_lit, wrap_1, wrap_2, wrap_3, wrap_4, c_known18, hfa]
  refine sCode_call (code := c18a) (by decide) (by decide) fun oa fa ha => ?_
  obtain ⟨rfl, rfl⟩ := ha.eq strt18a (by decide)
  simp [new_box, app_box, len_box, cell_box, cell_box0, cells_box, cells_box0, store_box, store_box0, cellB_bx, cellsB_bx, storeB_bx, BodyK, resVs, resV, retV, box_all, cast_lit, wrap_1, wrap_2, wrap_3, wrap_4, callK_def, vEdit, hfb, hfc]
  refine sCode_call (code := c18b) (by decide) (by decide) fun oa fa ha => ?_
  obtain ⟨rfl, rfl⟩ := ha.eq strt18b (by decide)
  simp [new_box, app_box, len_box, cell_box, cell_box0, cells_box, cells_box0, store_box, store_box0, cellB_bx, cellsB_bx, storeB_bx, BodyK, resVs, resV, retV, box_all, cast_lit, wrap_1, wrap_2, wrap_3, wrap_4, callK_def, vEdit, hfb, hfc]
  refine sNeeded_call (code := c18c) (by decide) (by decide) fun b hb => ?_
  obtain rfl := needs18 hb
  have ea : outS c18a = [⟨0, 0, 0, 0⟩, ⟨8, 0, 2, 0⟩, ⟨14, 0, 0, 0⟩] := by decide
  have eb : outS c18b = [⟨8, 0, 1, 0⟩, ⟨14, 0, 0, 0⟩, ⟨0, 0, 0, 0⟩] := by decide
  simp [new_box, app_box, len_box, cell_box, cell_box0, cells_box, cells_box0, store_box, store_box0, cellB_bx, cellsB_bx, storeB_bx, BodyK, resVs, resV, retV, box_all, cast_lit, wrap_1, wrap_2, wrap_3, wrap_4, callK_def, ea, eb, vIns]
set_option maxHeartbeats 4000000 in
theorem tells18_call {code : List Ins} (ho : ∀ i ∈ code, i.op ≤ 255) (hl : code.length ≤ lim) (hk : K (vB true) h) : PCall prog 40 [vM 4 vIns code] h K := by
  refine Pure.go (Pure.one (p := vB true) rfl fun h => ?_) hk
  refine call_tells18 (by simp) ?_
  simp [-pwp_seq, new_box, app_box, len_box, cell_box, cell_box0, cells_box, cells_box0, store_box, store_box0, cellB_bx, cellsB_bx, storeB_bx, BodyK, resVs, resV, retV, box_all, cast_lit, wrap_1, wrap_2, wrap_3, wrap_4, c_tells18]
  refine sCode_call ho hl fun o1 f1 h1 => ?_
  simp [-pwp_seq, new_box, app_box, len_box, cell_box, cell_box0, cells_box, cells_box0, store_box, store_box0, cellB_bx, cellsB_bx, storeB_bx, BodyK, resVs, resV, retV, box_all, cast_lit, wrap_1, wrap_2, wrap_3, wrap_4, callK_def, vEdit]
  refine r18Code_call ho hl fun o2 f2 h2 => ?_
  obtain ⟨rfl, rfl⟩ := h1.unique h2
  simp [-pwp_seq, new_box, app_box, len_box, cell_box, cell_box0, cells_box, cells_box0, store_box, store_box0, cellB_bx, cellsB_bx, storeB_bx, BodyK, resVs, resV, retV, box_all, cast_lit, wrap_1, wrap_2, wrap_3, wrap_4, callK_def, vEdit]
  refine sNeeded_call ho hl fun b1 k1 => ?_
  simp [-pwp_seq, new_box, app_box, len_box, cell_box, cell_box0, cells_box, cells_box0, store_box, store_box0, cellB_bx, cellsB_bx, storeB_bx, BodyK, resVs, resV, retV, box_all, cast_lit, wrap_1, wrap_2, wrap_3, wrap_4, callK_def, vEdit]
  refine r18Needed_call ho hl fun b2 k2 => ?_
  obtain rfl := k1.unique k2
  simp [-pwp_seq, new_box, app_box, len_box, cell_box, cell_box0, cells_box, cells_box0, store_box, store_box0, cellB_bx, cellsB_bx, storeB_bx, BodyK, resVs, resV, retV, box_all, cast_lit, wrap_1, wrap_2, wrap_3, wrap_4, callK_def, vEdit]
  rw [pwp_seq]
  simp [-pwp_seq, new_box, app_box, len_box, cell_box, cell_box0, cells_box, cells_box0, store_box, store_box0, cellB_bx, cellsB_bx, storeB_bx, BodyK, resVs, resV, retV, box_all, cast_lit, wrap_1, wrap_2, wrap_3, wrap_4]
  refine R2SameCode_call h1.short.1 ?_
  simp [-pwp_seq, new_box, app_box, len_box, cell_box, cell_box0, cells_box, cells_box0, store_box, store_box0, cellB_bx, cellsB_bx, storeB_bx, BodyK, resVs, resV, retV, box_all, cast_lit, wrap_1, wrap_2, wrap_3, wrap_4, callK_def]
  refine RSame01_call h1.short.2 ?_
  simp [-pwp_seq, new_box, app_box, len_box, cell_box, cell_box0, cells_box, cells_box0, store_box, store_box0, cellB_bx, cellsB_bx, storeB_bx, BodyK, resVs, resV, retV, box_all, cast_lit, wrap_1, wrap_2, wrap_3, wrap_4, callK_def]
  rw [pwp_seq]
  simp [-pwp_seq, new_box, app_box, len_box, cell_box, cell_box0, cells_box, cells_box0, store_box, store_box0, cellB_bx, cellsB_bx, storeB_bx, BodyK, resVs, resV, retV, box_all, cast_lit, wrap_1, wrap_2, wrap_3, wrap_4]
  have hb := k1.short
  refine loop_l (σ := Nat) (fun i => [(5, vL vU b2), (6, vL vU b2), (7, vI i)]) (fun _ => h ++ [bx [vM 4 vIns o2, vL vI f2] 2, bx [vM 4 vIns o2, vL vI f2] 2]) (fun i => i ≤ b2.length) (fun i => b2.length - i) 0 (by simp) rfl (by simp) ?_
  intro i fr hi
  by_cases hlt : i < b2.length
  · obtain ⟨i1, hi1, wi⟩ := wrap_next (show i < lim by omega)
    obtain ⟨x, hx⟩ : ∃ x, b2[i]? = some x := ⟨_, List.getElem?_eq_getElem hlt⟩
    have hif : (i : Int) < b2.length := by omega
    rw [pwp_seq]
    simp [new_box, app_box, len_box, cell_box, cell_box0, cells_box, cells_box0, store_box, store_box0, cellB_bx, cellsB_bx, storeB_bx, BodyK, resVs, resV, retV, box_all, cast_lit, wrap_1, wrap_2, wrap_3, wrap_4, hif, hx, wi]
    exact .go i1 (by omega) (by simp) rfl (by omega)
  · have hif : ¬ (i : Int) < b2.length := by omega
    rw [pwp_seq]
    simp [new_box, app_box, len_box, cell_box, cell_box0, cells_box, cells_box0, store_box, store_box0, cellB_bx, cellsB_bx, storeB_bx, BodyK, resVs, resV, retV, box_all, cast_lit, wrap_1, wrap_2, wrap_3, wrap_4, hif]
end
end Pm

/- Stores that none can read: two of the laws, walked.
   No condition: plain lemmas. -/

namespace Pm
set_option linter.unusedSimpArgs false
set_option linter.unusedVariables false
open Go Am
open Go.Proofs.Try (prog)

set_option maxHeartbeats 2000000 in
theorem StoresCode_spec' (h : Heap) (code : List Ins) (l : List (List Nat)) (k : Nat) (hcode : Short code ∧ ∀ i ∈ code, i.In) (hl : Short l ∧ ∀ c ∈ l, Bytes c) (hk : k ≤ 255) : PCall prog 10 [vM 4 vIns code, vL (vL v8) l, v8 k] h fun r _ => r = .bool true := by
  refine call_StoresCode (by simp) ?_
  have hlim : lim = 1048576 := rfl
  have hsh : code.length < 9223372036854775808 := hcode.1
  by_cases h65 : 65 < code.length
  · have h65' : (65 : Int) < code.length := by omega
    simp [new_box, app_box, len_box, cell_box, cell_box0, cells_box, cells_box0, store_box, store_box0, cellB_bx, cellsB_bx, storeB_bx, BodyK, resVs, resV, retV, box_all, cast_lit, wrap_1, wrap_2, wrap_3, wrap_4, c_StoresCode, h65']
    refine known18_call ?_
    simp [new_box, app_box, len_box, cell_box, cell_box0, cells_box, cells_box0, store_box, store_box0, cellB_bx, cellsB_bx, storeB_bx, BodyK, resVs, resV, retV, box_all, cast_lit, wrap_1, wrap_2, wrap_3, wrap_4, callK_def]
  · have h65' : ¬ (65 : Int) < code.length := by omega
    have hco : ∀ i ∈ code, i.op ≤ 255 := fun i hi => (hcode.2 i hi).op
    simp [-pwp_seq, new_box, app_box, len_box, cell_box, cell_box0, cells_box, cells_box0, store_box, store_box0, cellB_bx, cellsB_bx, storeB_bx, BodyK, resVs, resV, retV, box_all, cast_lit, wrap_1, wrap_2, wrap_3, wrap_4, c_StoresCode]
    rw [pwp_seq]
    simp [-pwp_seq, new_box, app_box, len_box, cell_box, cell_box0, cells_box, cells_box0, store_box, store_box0, cellB_bx, cellsB_bx, storeB_bx, BodyK, resVs, resV, retV, box_all, cast_lit, wrap_1, wrap_2, wrap_3, wrap_4, h65']
    refine known18_call ?_
    simp [-pwp_seq, new_box, app_box, len_box, cell_box, cell_box0, cells_box, cells_box0, store_box, store_box0, cellB_bx, cellsB_bx, storeB_bx, BodyK, resVs, resV, retV, box_all, cast_lit, wrap_1, wrap_2, wrap_3, wrap_4, callK_def]
    refine Make_ok hl ?_
    obtain ⟨n, hn⟩ : ∃ n, n = nThr l := ⟨_, rfl⟩
    have hn1 := nThr_le l
    have htl : (makeP l).threads.length = n := by rw [threads_len, hn]
    obtain ⟨km, hkm⟩ : ∃ km, km = k % n := ⟨_, rfl⟩
    have hkn : km < n := by rw [hkm]; exact Nat.mod_lt _ (by omega)
    obtain ⟨x, hx⟩ : ∃ x, (makeP l).threads[km]? = some x := ⟨_, List.getElem?_eq_getElem (by omega)⟩
    have hxl := threads_at hx
    have hxo : ∀ c ∈ x, c.op ≤ 255 := fun c hc => by
      rw [hxl.1] at hc
      have := codeOf_op hc
      omega
    have e1 : (k : Int).tmod (n : Int) = (km : Int) := by rw [Int.tmod_eq_emod_of_nonneg (by omega), hkm]; rfl
    have hn0 : ¬ n = 0 := by omega
    have wd : IntKind.i64.wrap (km : Int) = km := wrap_i64 (by omega) (by omega)
    have wk : IntKind.i64.wrap (k : Int) = k := wrap_i64 (by omega) (by omega)
    simp [-pwp_seq, new_box, app_box, len_box, cell_box, cell_box0, cells_box, cells_box0, store_box, store_box0, cellB_bx, cellsB_bx, storeB_bx, BodyK, resVs, resV, retV, box_all, cast_lit, wrap_1, wrap_2, wrap_3, wrap_4, callK_def, vProg, htl, e1, hn0, wd, hx, wk]
    refine tells18_call hco (by omega) ?_
    simp [-pwp_seq, new_box, app_box, len_box, cell_box, cell_box0, cells_box, cells_box0, store_box, store_box0, cellB_bx, cellsB_bx, storeB_bx, BodyK, resVs, resV, retV, box_all, cast_lit, wrap_1, wrap_2, wrap_3, wrap_4, callK_def, vProg, htl, e1, hn0, wd, hx, wk]
    refine tells18_call hxo (by omega) ?_
    simp [-pwp_seq, new_box, app_box, len_box, cell_box, cell_box0, cells_box, cells_box0, store_box, store_box0, cellB_bx, cellsB_bx, storeB_bx, BodyK, resVs, resV, retV, box_all, cast_lit, wrap_1, wrap_2, wrap_3, wrap_4, callK_def]
theorem StoresCode_spec (code : List Ins) (l : List (List Nat)) (k : Nat) (hcode : Short code ∧ ∀ i ∈ code, i.In) (hl : Short l ∧ ∀ c ∈ l, Bytes c) (hk : k ≤ 255) : PCall prog 10 [vM 4 vIns code, vL (vL v8) l, v8 k] [] fun r _ => r = .bool true := StoresCode_spec' [] code l k hcode hl hk

def kept18 (q : Nat) (a b : Int) : List Ins := [⟨8, 0, 0, 0⟩, ⟨q, a, b, 0⟩, ⟨8, 0, 1, 0⟩, ⟨14, 0, 0, 0⟩]
theorem kept_strt {q : Nat} {a b : Int} (h1 : q ≠ 10) (h2 : q ≠ 11) : Strt (kept18 q a b) := by
  intro c hc
  simp only [kept18, List.mem_cons, List.not_mem_nil, or_false] at hc
  rcases hc with rfl | rfl | rfl | rfl
  · decide
  · exact ⟨h1, h2⟩
  · decide
  · decide
theorem kept_out {q : Nat} {a b : Int} : ∃ z y, outS (kept18 q a b) = [z, y, ⟨8, 0, 1, 0⟩, ⟨14, 0, 0, 0⟩] ∧ z = if (relOp q || (decide (q = 7) && decide (b = 0))) = true then ⟨8, 0, 0, 0⟩ else nopI := by
  have e0 : ndS 0 [⟨8, 0, 1, 0⟩, ⟨14, 0, 0, 0⟩] = false := by decide
  have e1 : goneS [⟨14, 0, 0, 0⟩] ⟨8, 0, 1, 0⟩ = false := by decide
  have e2 : goneS [] ⟨14, 0, 0, 0⟩ = false := by decide
  have e3 : goneS [⟨q, a, b, 0⟩, ⟨8, 0, 1, 0⟩, ⟨14, 0, 0, 0⟩] ⟨8, 0, 0, 0⟩ = !(relOp q || (decide (q = 7) && decide (b = 0))) := by
    show (true && (true && (true && !(wants 0 ⟨q, a, b, 0⟩ || (!lays 0 ⟨q, a, b, 0⟩ && ndS 0 [⟨8, 0, 1, 0⟩, ⟨14, 0, 0, 0⟩]))))) = _
    rw [e0]
    simp [wants]
  refine ⟨_, if goneS [⟨8, 0, 1, 0⟩, ⟨14, 0, 0, 0⟩] ⟨q, a, b, 0⟩ = true then nopI else ⟨q, a, b, 0⟩, ?_, rfl⟩
  simp only [kept18, outS, e1, e2, e3]
  cases (relOp q || (decide (q = 7) && decide (b = 0))) <;> rfl
set_option maxHeartbeats 4000000 in
theorem StoresKept_spec' (h : Heap) (op b : Nat) (hop : op ≤ 255) (hb : b ≤ 255) : PCall prog 9 [v8 op, v8 b] h fun r _ => r = .bool true := by
  refine call_StoresKept (by simp) ?_
  obtain ⟨q, hq⟩ : ∃ q, q = op % 28 := ⟨_, rfl⟩
  have hq28 : q < 28 := by omega
  have e1 : (op : Int).tmod 28 = (q : Int) := by rw [Int.tmod_eq_emod_of_nonneg (by omega)]; omega
  have w1 : IntKind.u8.wrap (q : Int) = q := wrap_u8 (by omega) (by omega)
  simp [-pwp_seq, new_box, app_box, len_box, cell_box, cell_box0, cells_box, cells_box0, store_box, store_box0, cellB_bx, cellsB_bx, storeB_bx, BodyK, resVs, resV, retV, box_all, cast_lit, wrap_1, wrap_2, wrap_3, wrap_4, c_StoresKept, e1, w1]
  rw [pwp_seq]
  by_cases h10 : q = 10
  · have h10' : (q : Int) = 10 := by omega
    simp [new_box, app_box, len_box, cell_box, cell_box0, cells_box, cells_box0, store_box, store_box0, cellB_bx, cellsB_bx, storeB_bx, BodyK, resVs, resV, retV, box_all, cast_lit, wrap_1, wrap_2, wrap_3, wrap_4, h10']
    refine known18_call ?_
    simp [new_box, app_box, len_box, cell_box, cell_box0, cells_box, cells_box0, store_box, store_box0, cellB_bx, cellsB_bx, storeB_bx, BodyK, resVs, resV, retV, box_all, cast_lit, wrap_1, wrap_2, wrap_3, wrap_4, callK_def]
  · by_cases h11 : q = 11
    · have h11' : (q : Int) = 11 := by omega
      simp [new_box, app_box, len_box, cell_box, cell_box0, cells_box, cells_box0, store_box, store_box0, cellB_bx, cellsB_bx, storeB_bx, BodyK, resVs, resV, retV, box_all, cast_lit, wrap_1, wrap_2, wrap_3, wrap_4, h11']
      refine known18_call ?_
      simp [new_box, app_box, len_box, cell_box, cell_box0, cells_box, cells_box0, store_box, store_box0, cellB_bx, cellsB_bx, storeB_bx, BodyK, resVs, resV, retV, box_all, cast_lit, wrap_1, wrap_2, wrap_3, wrap_4, callK_def]
    · have h10' : ¬ (q : Int) = 10 := by omega
      have h11' : ¬ (q : Int) = 11 := by omega
      obtain ⟨a1, ha1⟩ : ∃ a1, a1 = b % 2 := ⟨_, rfl⟩
      obtain ⟨d, hd⟩ : ∃ d, d = b / 2 := ⟨_, rfl⟩
      obtain ⟨b1, hb1⟩ : ∃ b1, b1 = d % 2 := ⟨_, rfl⟩
      have f1 : (b : Int).tmod 2 = (a1 : Int) := by rw [Int.tmod_eq_emod_of_nonneg (by omega)]; omega
      have f2 : (b : Int).tdiv 2 = (d : Int) := by rw [Int.tdiv_eq_ediv_of_nonneg (by omega)]; omega
      have f3 : (d : Int).tmod 2 = (b1 : Int) := by rw [Int.tmod_eq_emod_of_nonneg (by omega)]; omega
      have g1 : IntKind.u8.wrap (a1 : Int) = a1 := wrap_u8 (by omega) (by omega)
      have g2 : IntKind.u8.wrap (d : Int) = d := wrap_u8 (by omega) (by omega)
      have g3 : IntKind.u8.wrap (b1 : Int) = b1 := wrap_u8 (by omega) (by omega)
      have g4 : IntKind.i64.wrap (a1 : Int) = a1 := wrap_i64 (by omega) (by omega)
      have g5 : IntKind.i64.wrap (b1 : Int) = b1 := wrap_i64 (by omega) (by omega)
      simp [-pwp_seq, new_box, app_box, len_box, cell_box, cell_box0, cells_box, cells_box0, store_box, store_box0, cellB_bx, cellsB_bx, storeB_bx, BodyK, resVs, resV, retV, box_all, cast_lit, wrap_1, wrap_2, wrap_3, wrap_4, h10', h11']
      refine seq_l (σ := Int × Int) (fun _ => [(5, ptr h.length)]) (fun x => h ++ [bx (vIns ⟨q, x.1, x.2, 0⟩) 4]) (fun x => True) ?_ ?_
      · by_cases h8 : q = 8
        · have h8' : (q : Int) = 8 := by omega
          simp [new_box, app_box, len_box, cell_box, cell_box0, cells_box, cells_box0, store_box, store_box0, cellB_bx, cellsB_bx, storeB_bx, BodyK, resVs, resV, retV, box_all, cast_lit, wrap_1, wrap_2, wrap_3, wrap_4, h8', f1, f2, f3, g1, g2, g3, g4, g5]
          exact .go ((a1 : Int), (b1 : Int)) (by simp) (by subst h8; rfl) trivial
        · by_cases h7 : q = 7
          · have h7' : (q : Int) = 7 := by omega
            simp [new_box, app_box, len_box, cell_box, cell_box0, cells_box, cells_box0, store_box, store_box0, cellB_bx, cellsB_bx, storeB_bx, BodyK, resVs, resV, retV, box_all, cast_lit, wrap_1, wrap_2, wrap_3, wrap_4, h7', f1, f2, f3, g1, g2, g3, g4, g5]
            exact .go ((a1 : Int), (b1 : Int)) (by simp) (by subst h7; rfl) trivial
          · have h8' : ¬ (q : Int) = 8 := by omega
            have h7' : ¬ (q : Int) = 7 := by omega
            simp [new_box, app_box, len_box, cell_box, cell_box0, cells_box, cells_box0, store_box, store_box0, cellB_bx, cellsB_bx, storeB_bx, BodyK, resVs, resV, retV, box_all, cast_lit, wrap_1, wrap_2, wrap_3, wrap_4, h8', h7']
            exact .go ((0 : Int), (0 : Int)) (by simp) rfl trivial
      rintro ⟨va, vb⟩ fr _
      have hfz : frzV (h ++ [bx [v8 q, vI va, vI vb, vI 0] 4, bx [.int .u8 8, .int .i64 0, .int .i64 0, .int .i64 0, v8 q, vI va, vI vb, vI 0, .int .u8 8, .int .i64 0, .int .i64 1, .int .i64 0, .int .u8 14, .int .i64 0, .int .i64 0, .int .i64 0] 4]) 4 (.slice (some ⟨h.length + 1, 0, none⟩) 4 0) = some (vM 4 vIns (kept18 q va vb), h ++ [bx [v8 q, vI va, vI vb, vI 0] 4, .row ⟨(kept18 q va vb).flatMap vIns, 4, 0, false⟩]) := frz_at (h := h) (rs := [bx [v8 q, vI va, vI vb, vI 0] 4, bx [.int .u8 8, .int .i64 0, .int .i64 0, .int .i64 0, v8 q, vI va, vI vb, vI 0, .int .u8 8, .int .i64 0, .int .i64 1, .int .i64 0, .int .u8 14, .int .i64 0, .int .i64 0, .int .i64 0] 4]) (j := 1) (off := 0) (ver := 0) (r := ⟨[.int .u8 8, .int .i64 0, .int .i64 0, .int .i64 0, v8 q, vI va, vI vb, vI 0, .int .u8 8, .int .i64 0, .int .i64 1, .int .i64 0, .int .u8 14, .int .i64 0, .int .i64 0, .int .i64 0], 4, 0, true⟩) rfl (by simp) rfl
      simp [-pwp_seq, new_box, app_box, len_box, cell_box, cell_box0, cells_box, cells_box0, store_box, store_box0, cellB_bx, cellsB_bx, storeB_bx, BodyK, resVs, resV, retV, box_all, cast_lit, wrap_1, wrap_2, wrap_3, wrap_4, vIns, hfz]
      refine sCode_call (code := kept18 q va vb) (fun c hc => by
        simp only [kept18, List.mem_cons, List.not_mem_nil, or_false] at hc
        rcases hc with rfl | rfl | rfl | rfl
        · decide
        · show q ≤ 255; omega
        · decide
        · decide) (by show (4 : Nat) ≤ lim; decide) fun oa fa ha => ?_
      obtain ⟨rfl, rfl⟩ := ha.eq (kept_strt h10 h11) (by show (4 : Nat) ≤ 60; decide)
      obtain ⟨z, y, hy, hz⟩ := kept_out (q := q) (a := va) (b := vb)
      rw [hy]
      have hg0 : ∀ hh, (vIns z)[0]'hh = v8 z.op := fun _ => rfl
      have hv0 : (vIns z)[0]? = some (v8 z.op) := rfl
      simp [-pwp_seq, new_box, app_box, len_box, cell_box, cell_box0, cells_box, cells_box0, store_box, store_box0, cellB_bx, cellsB_bx, storeB_bx, BodyK, resVs, resV, retV, box_all, cast_lit, wrap_1, wrap_2, wrap_3, wrap_4, callK_def, vEdit]
      rw [pwp_seq]
      simp [-pwp_seq, new_box, app_box, len_box, cell_box, cell_box0, cells_box, cells_box0, store_box, store_box0, cellB_bx, cellsB_bx, storeB_bx, BodyK, resVs, resV, retV, box_all, cast_lit, wrap_1, wrap_2, wrap_3, wrap_4]
      refine R2Rel_call (by omega) ?_
      cases hr : relOp q with
      | true =>
        have hzo : (z.op : Int) = 8 := by rw [hz, hr]; rfl
        simp [new_box, app_box, len_box, cell_box, cell_box0, cells_box, cells_box0, store_box, store_box0, cellB_bx, cellsB_bx, storeB_bx, BodyK, resVs, resV, retV, box_all, cast_lit, wrap_1, wrap_2, wrap_3, wrap_4, callK_def]
        refine known18_call ?_
        simp [new_box, app_box, len_box, cell_box, cell_box0, cells_box, cells_box0, store_box, store_box0, cellB_bx, cellsB_bx, storeB_bx, BodyK, resVs, resV, retV, box_all, cast_lit, wrap_1, wrap_2, wrap_3, wrap_4, callK_def, hg0, hv0, hzo, vIns]
      | false =>
        by_cases h7 : q = 7
        · have h7' : (q : Int) = 7 := by omega
          by_cases hvb : vb = 0
          · have hzo : (z.op : Int) = 8 := by rw [hz, hr]; simp [h7, hvb]
            simp [new_box, app_box, len_box, cell_box, cell_box0, cells_box, cells_box0, store_box, store_box0, cellB_bx, cellsB_bx, storeB_bx, BodyK, resVs, resV, retV, box_all, cast_lit, wrap_1, wrap_2, wrap_3, wrap_4, callK_def, h7', hvb]
            refine known18_call ?_
            simp [new_box, app_box, len_box, cell_box, cell_box0, cells_box, cells_box0, store_box, store_box0, cellB_bx, cellsB_bx, storeB_bx, BodyK, resVs, resV, retV, box_all, cast_lit, wrap_1, wrap_2, wrap_3, wrap_4, callK_def, hg0, hv0, hzo, vIns]
          · have hzo : (z.op : Int) = 0 := by rw [hz, hr]; simp [h7, hvb, nopI]
            simp [new_box, app_box, len_box, cell_box, cell_box0, cells_box, cells_box0, store_box, store_box0, cellB_bx, cellsB_bx, storeB_bx, BodyK, resVs, resV, retV, box_all, cast_lit, wrap_1, wrap_2, wrap_3, wrap_4, callK_def, h7', hvb]
            refine known18_call ?_
            simp [new_box, app_box, len_box, cell_box, cell_box0, cells_box, cells_box0, store_box, store_box0, cellB_bx, cellsB_bx, storeB_bx, BodyK, resVs, resV, retV, box_all, cast_lit, wrap_1, wrap_2, wrap_3, wrap_4, callK_def, hg0, hv0, hzo, vIns]
        · have h7' : ¬ (q : Int) = 7 := by omega
          have hzo : (z.op : Int) = 0 := by rw [hz, hr]; simp [h7, nopI]
          simp [new_box, app_box, len_box, cell_box, cell_box0, cells_box, cells_box0, store_box, store_box0, cellB_bx, cellsB_bx, storeB_bx, BodyK, resVs, resV, retV, box_all, cast_lit, wrap_1, wrap_2, wrap_3, wrap_4, callK_def, h7']
          refine known18_call ?_
          simp [new_box, app_box, len_box, cell_box, cell_box0, cells_box, cells_box0, store_box, store_box0, cellB_bx, cellsB_bx, storeB_bx, BodyK, resVs, resV, retV, box_all, cast_lit, wrap_1, wrap_2, wrap_3, wrap_4, callK_def, hg0, hv0, hzo, vIns]
theorem StoresKept_spec (op b : Nat) (hop : op ≤ 255) (hb : b ≤ 255) : PCall prog 9 [v8 op, v8 b] [] fun r _ => r = .bool true := StoresKept_spec' [] op b hop hb
end Pm
