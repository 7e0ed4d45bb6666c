/- Numbers that are asked for on some way, before they are taken away: what the solver tells.
   No condition: plain lemmas. -/

import Derived.Test.YthpombmecbgchaaDoorZLPmLive2
import Derived.Test.YthpombmecbgchaaDoorZLPmLoads1
namespace Pm
set_option linter.unusedSimpArgs false
set_option linter.unusedVariables false
open Go Am

/-- A number is asked for from here on, before it is taken away: 'f': what one asks for, 'g': what it takes away. -/
inductive Wy (f g : Ins → Nat) (code : List Ins) (r : Nat) : Nat → Prop
  | use {i : Nat} {c : Ins} (hc : code[i]? = some c) (hu : (f c).testBit r = true) : Wy f g code r i
  | pass {i j : Nat} {c : Ins} (hc : code[i]? = some c) (hs : (g c).testBit r = false) (hj : (j : Int) ∈ nextsOf i c) (h : Wy f g code r j) : Wy f g code r i
theorem Wy.lt {f g : Ins → Nat} {code : List Ins} {r i : Nat} (h : Wy f g code r i) : i < code.length := by
  cases h with
  | use hc _ => exact (List.getElem?_eq_some_iff.1 hc).1
  | pass hc _ _ _ => exact (List.getElem?_eq_some_iff.1 hc).1
theorem Wy.low {f g : Ins → Nat} {code : List Ins} {r i : Nat} (hf : ∀ c, f c < big) (h : Wy f g code r i) : r < 64 := by
  induction h with
  | @use i c hc hu =>
    rcases Nat.lt_or_ge r 64 with h | h
    · exact h
    · rw [high_bit (hf c) h] at hu; cases hu
  | pass _ _ _ _ ih => exact ih
theorem Wy.step {f g : Ins → Nat} {code : List Ins} {r i : Nat} {c : Ins} (hc : code[i]? = some c) : Wy f g code r i ↔ (f c).testBit r = true ∨ (g c).testBit r = false ∧ ∃ j : Nat, (j : Int) ∈ nextsOf i c ∧ Wy f g code r j := by
  constructor
  · intro h
    cases h with
    | use hc' hu => rw [hc] at hc'; cases hc'; exact .inl hu
    | pass hc' hs hj h => rw [hc] at hc'; cases hc'; exact .inr ⟨hs, _, hj, h⟩
  · rintro (h | ⟨h1, j, h2, h3⟩)
    · exact .use hc h
    · exact .pass hc h1 h2 h3
section
variable {f g : Ins → Nat} {code : List Ins} {inn out : List Nat}
end
end Pm

/- Loads of what is known: what is known ahead of each, walked.
   No condition: plain lemmas. -/

namespace Pm
set_option linter.unusedSimpArgs false
set_option linter.unusedVariables false
open Go Am
open Go.Proofs.Tryd (prog)

def loadP (code : List Ins) : Prob := ⟨succs code, code.map addN, code.map takeN, 0, true, false⟩
theorem loadP_ok {code : List Ins} (hl : code.length ≤ 64) : (loadP code).Ok :=
  ⟨fun i => gN_map_lt addN_lt, fun i => gN_map_lt takeN_lt, (by show 0 < big; decide), by show (succs code).length ≤ 64; rw [succs_len]; exact hl, succs_short code⟩
/-- What is known ahead of each; of code that is too long nothing is told. -/
def KnownL (code : List Ins) (k : List Nat) : Prop := if 60 < code.length then k = [] else ∃ out, Solved (loadP code) k out
theorem KnownL.len {code : List Ins} {k : List Nat} (h : KnownL code k) (hl : code.length ≤ 60) : k.length = code.length ∧ ∀ i, gN k i < big := by
  unfold KnownL at h
  rw [if_neg (by omega)] at h
  obtain ⟨out, h⟩ := h
  exact ⟨by rw [h.ilen]; exact succs_len code, h.ilt⟩
section
variable {h : Heap} {K : Value → Heap → Prop}
set_option maxHeartbeats 4000000 in
theorem dKnown_call {code : List Ins} (ho : ∀ i ∈ code, i.op ≤ 255) (hl : code.length ≤ lim) (hk : ∀ b, KnownL code b → K (vL vU b) h) : PCall prog 18 [vM 4 vIns code] h K := by
  refine PCall.forget ?_
  refine call_dKnown (by simp) ?_
  by_cases h60 : 60 < code.length
  · have h60' : (60 : Int) < code.length := by omega
    simp [new_box, app_box, len_box, cell_box, cell_box0, cells_box, cells_box0, store_box, store_box0, cellB_bx, cellsB_bx, storeB_bx, BodyK, resVs, resV, retV, box_all, cast_lit, wrap_1, wrap_2, wrap_3, wrap_4, c_dKnown, h60']
    exact ⟨_, .nil, hk [] (by unfold KnownL; rw [if_pos h60])⟩
  · have h60' : ¬ (60 : Int) < code.length := by omega
    have hsl : code.length < lim := by unfold lim; omega
    simp [-pwp_seq, new_box, app_box, len_box, cell_box, cell_box0, cells_box, cells_box0, store_box, store_box0, cellB_bx, cellsB_bx, storeB_bx, BodyK, resVs, resV, retV, box_all, cast_lit, wrap_1, wrap_2, wrap_3, wrap_4, c_dKnown]
    rw [pwp_seq]
    simp [-pwp_seq, new_box, app_box, len_box, cell_box, cell_box0, cells_box, cells_box0, store_box, store_box0, cellB_bx, cellsB_bx, storeB_bx, BodyK, resVs, resV, retV, box_all, cast_lit, wrap_1, wrap_2, wrap_3, wrap_4, h60']
    refine Succs_call hsl ?_
    simp [-pwp_seq, new_box, app_box, len_box, cell_box, cell_box0, cells_box, cells_box0, store_box, store_box0, cellB_bx, cellsB_bx, storeB_bx, BodyK, resVs, resV, retV, box_all, cast_lit, wrap_1, wrap_2, wrap_3, wrap_4, callK_def]
    rw [pwp_seq]
    simp [-pwp_seq, new_box, app_box, len_box, cell_box, cell_box0, cells_box, cells_box0, store_box, store_box0, cellB_bx, cellsB_bx, storeB_bx, BodyK, resVs, resV, retV, box_all, cast_lit, wrap_1, wrap_2, wrap_3, wrap_4]
    obtain ⟨z, hz⟩ : ∃ z : Value → Value → List Value, z = fun gv kv => [vL (vL vI) (succs code), gv, kv, vU 0, .bool true, .bool false] := ⟨_, rfl⟩
    have zo : ZOk z := ⟨fun _ _ _ => by rw [hz]; rfl, fun _ _ _ => by rw [hz]; rfl, fun _ _ => by rw [hz]; rfl⟩
    have e1 : ∀ gv kv, (z gv kv)[1]? = some gv := fun _ _ => by rw [hz]; rfl
    have e2 : ∀ gv kv, (z gv kv)[2]? = some kv := fun _ _ => by rw [hz]; rfl
    refine loop_l (σ := Nat × Value × Value × Heap) (fun x => [(3, ptr h.length), (14, vM 4 vIns code), (15, vI code.length), (16, vI x.1)]) (fun x => x.2.2.2)
      (fun x => x.1 ≤ code.length ∧ Fields h.length z x.2.2.2 x.2.1 x.2.2.1 ((code.map addN).take x.1) ((code.map takeN).take x.1) ∧ Keeps h.length h x.2.2.2)
      (fun x => code.length - x.1) (0, nilS, nilS, h ++ [bx (z nilS nilS) 6]) (by simp) (by rw [hz]; rfl) ⟨by simp, ⟨by simp [RowV, bx], .nil, .nil, .nil⟩, Keeps.app⟩ ?_
    rintro ⟨k, gv, kv, H⟩ fr ⟨hk0, F, hkp⟩
    simp only at hk0 F hkp ⊢
    by_cases hlt : k < code.length
    · obtain ⟨k1, hk1, wk⟩ := wrap_next (show k < lim by omega)
      obtain ⟨c, hc⟩ : ∃ c, code[k]? = some c := ⟨_, List.getElem?_eq_getElem hlt⟩
      have hkf : (k : Int) < code.length := by omega
      have hco := ho c (List.mem_of_getElem? hc)
      have hlen : ∀ f : Ins → Nat, ((code.map f).take k).length + 1 ≤ lim := fun f => by simp; omega
      have hu : (code.map addN)[k]? = some (addN c) := by rw [List.getElem?_map, hc]; rfl
      have hs : (code.map takeN)[k]? = some (takeN c) := by rw [List.getElem?_map, hc]; rfl
      simp [new_box, app_box, len_box, cell_box, cell_box0, cells_box, cells_box0, store_box, store_box0, cellB_bx, cellsB_bx, storeB_bx, BodyK, resVs, resV, retV, box_all, cast_lit, wrap_1, wrap_2, wrap_3, wrap_4, hkf, hc, F.row.cellA, e1, -cellsOf_agg, vIns_len, take_vIns, cellsOf_vIns, setAll_ins]
      refine pOps_still (by simp [F.row.cellA, e1]) (PCallS.lock (dAdds_call (c := c) ⟨rfl, ?_⟩))
      simp [new_box, app_box, len_box, cell_box, cell_box0, cells_box, cells_box0, store_box, store_box0, cellB_bx, cellsB_bx, storeB_bx, BodyK, resVs, resV, retV, box_all, cast_lit, wrap_1, wrap_2, wrap_3, wrap_4, F.row.cellA, e1, -cellsOf_agg, vIns_len, take_vIns, cellsOf_vIns, setAll_ins]
      refine F.push1 zo (pElems_lit (m := 1) (cs := [vU (addN c)]) rfl rfl) (hlen _) fun v1 H1 H2 t1 F2 t2 t3 t4 => ?_
      have hR : RowV H2 H.length 0 4 (vIns c) := t2 0 _ rfl
      have hRc : H2.cells? H.length 0 0 4 = some (vIns c) := hR.cells rfl
      simp [new_box, app_box, len_box, cell_box, cell_box0, cells_box, cells_box0, store_box, store_box0, cellB_bx, cellsB_bx, storeB_bx, BodyK, resVs, resV, retV, box_all, cast_lit, wrap_1, wrap_2, wrap_3, wrap_4, t1, F2.row.cell, e2, hRc, -cellsOf_agg, vIns_len, take_vIns, cellsOf_vIns, setAll_ins]
      refine pOps_still (by simp [F2.row.cell, e2]) (PCallS.lock (dTakes_call (c := c) hco ⟨rfl, ?_⟩))
      simp [new_box, app_box, len_box, cell_box, cell_box0, cells_box, cells_box0, store_box, store_box0, cellB_bx, cellsB_bx, storeB_bx, BodyK, resVs, resV, retV, box_all, cast_lit, wrap_1, wrap_2, wrap_3, wrap_4, F2.row.cell, F2.row.cellA, e2, -cellsOf_agg, vIns_len, take_vIns, cellsOf_vIns, setAll_ins]
      refine F2.push2 zo (pElems_lit (m := 0) (cs := [vU (takeN c)]) rfl rfl) (hlen _) fun v2 H3 H4 w1 F4 w2 w3 w4 => ?_
      rw [← take_snoc' hu hk1, ← take_snoc' hs hk1] at F4
      simp [new_box, app_box, len_box, cell_box, cell_box0, cells_box, cells_box0, store_box, store_box0, cellB_bx, cellsB_bx, storeB_bx, BodyK, resVs, resV, retV, box_all, cast_lit, wrap_1, wrap_2, wrap_3, wrap_4, w1, wk]
      exact .go (k1, v1, v2, H4) (by simp only []; omega) (by simp) rfl ⟨by simp only []; omega, F4, hkp.trans (t4.trans w4)⟩
    · obtain rfl : k = code.length := by omega
      have hkf : ¬ (code.length : Int) < code.length := by omega
      rw [List.take_of_length_le (by simp), List.take_of_length_le (by simp)] at F
      have ok := loadP_ok (code := code) (by omega)
      have hcs : H.cells? h.length 0 0 6 = some (z gv kv) := F.row.cells (zo.len _ _).symm
      obtain ⟨gv', kv', H', f1, f2, f3⟩ := F.frz (p := loadP code) hz rfl rfl
      simp [new_box, app_box, len_box, cell_box, cell_box0, cells_box, cells_box0, store_box, store_box0, cellB_bx, cellsB_bx, storeB_bx, BodyK, resVs, resV, retV, box_all, cast_lit, wrap_1, wrap_2, wrap_3, wrap_4, hkf, hcs, zo.len, f1]
      refine PCall.conv f3 (fSolve_call ok fun inn out hS => ?_)
      have hb : (loadP code).back = false := rfl
      simp [new_box, app_box, len_box, cell_box, cell_box0, cells_box, cells_box0, store_box, store_box0, cellB_bx, cellsB_bx, storeB_bx, BodyK, resVs, resV, retV, box_all, cast_lit, wrap_1, wrap_2, wrap_3, wrap_4, callK_def, hb]
      obtain ⟨g, rfl⟩ := (hkp.trans f2).ext
      refine ⟨⟨g, rfl⟩, _, .cell rfl, hk inn ?_⟩
      unfold KnownL
      rw [if_neg h60]
      exact ⟨out, hS⟩
end
end Pm

/- Loads of what is known: the code that is left, walked.
   No condition: plain lemmas. -/

namespace Pm
set_option linter.unusedSimpArgs false
set_option linter.unusedVariables false
open Go Am
open Go.Proofs.Tryd (prog)

theorem firstI_cases (s : Nat) (k : Int) : firstI s k = -1 ∨ ∃ n : Nat, firstI s k = n ∧ n < 64 ∧ s.testBit n = true := by
  unfold firstI
  cases h : (bitsI s).find? fun x => decide (k ≤ x) with
  | none => exact .inl rfl
  | some x =>
    have hm := List.mem_of_find?_eq_some h
    unfold bitsI at hm
    obtain ⟨i, hi, rfl⟩ := List.mem_map.1 hm
    obtain ⟨h1, h2⟩ := List.mem_filter.1 hi
    exact .inr ⟨i, rfl, List.mem_range.1 h1, h2⟩
/-- The fact that is known of a load. -/
def factI (c : Ins) (k : Nat) : Int := firstI (k &&& factsN c.b) 0
def ldIns (c : Ins) (k : Nat) : Ins := if c.op = 7 then (if factI c k < 0 then c else if (factI c k).tmod 4 = c.a then nopI else ⟨2, c.a, (factI c k).tmod 4, 0⟩) else c
structure Loaded (code : List Ins) (k : List Nat) (out : List Ins) : Prop where
  len : out.length = code.length
  come : ∀ i x, code[i]? = some x → Come (succs code) i → out[i]? = some (ldIns x (gN k i))
  away : ∀ i x, code[i]? = some x → ¬ Come (succs code) i → out[i]? = some x
def LoadedL (code out : List Ins) (fm : List Int) : Prop := if 60 < code.length then out = [] ∧ fm = [] else (∃ k, KnownL code k ∧ Loaded code k out) ∧ fm = ownL code.length
/-- So far. -/
structure LC (h : Heap) (code : List Ins) (kn : List Nat) (cs : Value) (k : Nat) (fv : Value) (out : List Ins) (H : Heap) : Prop where
  row : RowV H (h.length + 2) 0 2 [cs, fv]
  cod : RowM 4 vIns H (h.length + 1) 1 4 out
  frm : AccL vI (h.length + 2 + 1) H fv (ownL k)
  res : RowV H h.length 0 2 [nilS, nilS]
  kp : Keeps h.length h H
  len : out.length = code.length
  tail : ∀ i, k ≤ i → out[i]? = code[i]?
  come : ∀ i c, i < k → code[i]? = some c → Come (succs code) i → out[i]? = some (ldIns c (gN kn i))
  away : ∀ i c, i < k → code[i]? = some c → ¬ Come (succs code) i → out[i]? = some c
theorem set_self {α : Type} {l : List α} {k : Nat} {c : α} (h : l[k]? = some c) : l.set k c = l := by
  have hlt := (List.getElem?_eq_some_iff.1 h).1
  apply List.ext_getElem?
  intro i
  by_cases e : i = k
  · subst e; rw [List.getElem?_set_self hlt, h]
  · rw [List.getElem?_set_ne (fun x => e x.symm)]
theorem LC.step {h : Heap} {code : List Ins} {kn : List Nat} {cs fv v1 : Value} {k k1 : Nat} {out : List Ins} {H H2 H3 : Heap} {c d : Ins} (w : LC h code kn cs k fv out H) (hk1 : k1 = k + 1) (hc : code[k]? = some c) (hd : (Come (succs code) k → d = ldIns c (gN kn k)) ∧ (¬ Come (succs code) k → d = c))
    (r2 : RowV H2 (h.length + 2) 0 2 [cs, v1]) (a2 : AccL vI (h.length + 2 + 1) H2 v1 (ownL k1)) (res2 : RowV H2 h.length 0 2 [nilS, nilS]) (kp2 : Keeps h.length h H2)
    (s2 : RowM 4 vIns H3 (h.length + 1) 1 4 (out.set k d)) (s3 : Same H2 (h.length + 1) H3) : LC h code kn cs k1 v1 (out.set k d) H3 := by
  have hlt := (List.getElem?_eq_some_iff.1 hc).1
  refine ⟨r2.keep (s3.1 _ (by omega)), s2, a2.keep fun i hi => s3.1 i (fun e => by have := a2.low i hi; omega), res2.keep (s3.1 _ (by omega)), ⟨by rw [s3.2]; exact kp2.1, fun i hi => by rw [s3.1 i (by omega)]; exact kp2.2 i hi⟩, by simp [w.len], fun i hi => ?_, fun i x hi hx hg => ?_, fun i x hi hx hg => ?_⟩
  · rw [List.getElem?_set_ne (by omega)]; exact w.tail i (by omega)
  · by_cases e : i = k
    · subst e; rw [hc] at hx; cases hx; rw [List.getElem?_set_self (by rw [w.len]; exact hlt), hd.1 hg]
    · rw [List.getElem?_set_ne (fun h => e h.symm)]; exact w.come i x (by omega) hx hg
  · by_cases e : i = k
    · subst e; rw [hc] at hx; cases hx; rw [List.getElem?_set_self (by rw [w.len]; exact hlt), hd.2 hg]
    · rw [List.getElem?_set_ne (fun h => e h.symm)]; exact w.away i x (by omega) hx hg
section
variable {h : Heap} {K : Value → Heap → Prop}
set_option maxHeartbeats 4000000 in
theorem dCode_call {code : List Ins} (ho : ∀ i ∈ code, i.op ≤ 255) (hl : code.length ≤ lim) (hk : ∀ out fm, LoadedL code out fm → K (vEdit out fm) h) : PCall prog 11 [vM 4 vIns code] h K := by
  refine PCall.forget ?_
  refine call_dCode (by simp) ?_
  have hlim : lim = 1048576 := rfl
  by_cases h60 : 60 < code.length
  · have h60' : (60 : Int) < code.length := by omega
    simp [new_box, app_box, len_box, cell_box, cell_box0, cells_box, cells_box0, store_box, store_box0, cellB_bx, cellsB_bx, storeB_bx, BodyK, resVs, resV, retV, box_all, cast_lit, wrap_1, wrap_2, wrap_3, wrap_4, c_dCode, h60']
    exact ⟨_, Inls.agg (xs := [_, _]) (ys := [_, _]) ⟨.nil, .nil, trivial⟩, hk [] [] (by unfold LoadedL; rw [if_pos h60]; exact ⟨rfl, rfl⟩)⟩
  · have h60' : ¬ (60 : Int) < code.length := by omega
    simp [-pwp_seq, new_box, app_box, len_box, cell_box, cell_box0, cells_box, cells_box0, store_box, store_box0, cellB_bx, cellsB_bx, storeB_bx, BodyK, resVs, resV, retV, box_all, cast_lit, wrap_1, wrap_2, wrap_3, wrap_4, c_dCode]
    rw [pwp_seq]
    simp [-pwp_seq, new_box, app_box, len_box, cell_box, cell_box0, cells_box, cells_box0, store_box, store_box0, cellB_bx, cellsB_bx, storeB_bx, BodyK, resVs, resV, retV, box_all, cast_lit, wrap_1, wrap_2, wrap_3, wrap_4, h60']
    refine Clone4_call hl (fun e => ?_) ?_
    · subst e
      simp [-pwp_seq, new_box, app_box, len_box, cell_box, cell_box0, cells_box, cells_box0, store_box, store_box0, cellB_bx, cellsB_bx, storeB_bx, BodyK, resVs, resV, retV, box_all, cast_lit, wrap_1, wrap_2, wrap_3, wrap_4, callK_def]
      refine dKnown_call (code := []) (by simp) (by simp) fun b hb => ?_
      simp [-pwp_seq, new_box, app_box, len_box, cell_box, cell_box0, cells_box, cells_box0, store_box, store_box0, cellB_bx, cellsB_bx, storeB_bx, BodyK, resVs, resV, retV, box_all, cast_lit, wrap_1, wrap_2, wrap_3, wrap_4, callK_def]
      refine Succs_call (by simp [lim]) ?_
      simp [-pwp_seq, new_box, app_box, len_box, cell_box, cell_box0, cells_box, cells_box0, store_box, store_box0, cellB_bx, cellsB_bx, storeB_bx, BodyK, resVs, resV, retV, box_all, cast_lit, wrap_1, wrap_2, wrap_3, wrap_4, callK_def]
      refine Reach_call (s := succs []) (by simp [succs, lim]) fun seen hs1 hs2 => ?_
      simp [-pwp_seq, new_box, app_box, len_box, cell_box, cell_box0, cells_box, cells_box0, store_box, store_box0, cellB_bx, cellsB_bx, storeB_bx, BodyK, resVs, resV, retV, box_all, cast_lit, wrap_1, wrap_2, wrap_3, wrap_4, callK_def]
      rw [pwp_seq]
      simp [-pwp_seq, new_box, app_box, len_box, cell_box, cell_box0, cells_box, cells_box0, store_box, store_box0, cellB_bx, cellsB_bx, storeB_bx, BodyK, resVs, resV, retV, box_all, cast_lit, wrap_1, wrap_2, wrap_3, wrap_4]
      refine loop_n 1 ?_
      rw [rounds_one]
      simp [new_box, app_box, len_box, cell_box, cell_box0, cells_box, cells_box0, store_box, store_box0, cellB_bx, cellsB_bx, storeB_bx, BodyK, resVs, resV, retV, box_all, cast_lit, wrap_1, wrap_2, wrap_3, wrap_4]
      exact ⟨_, Inls.agg (xs := [_, _]) (ys := [_, _]) ⟨.nil, .nil, trivial⟩, hk [] [] (by unfold LoadedL; rw [if_neg (by simp)]; exact ⟨⟨b, hb, ⟨rfl, fun i c hc => by simp at hc, fun i c hc => by simp at hc⟩⟩, rfl⟩)⟩
    · obtain ⟨cs, hcs⟩ : ∃ cs : Value, cs = .slice (some ⟨h.length + 1, 0, none⟩) code.length 1 := ⟨_, rfl⟩
      simp [-pwp_seq, new_box, app_box, len_box, cell_box, cell_box0, cells_box, cells_box0, store_box, store_box0, cellB_bx, cellsB_bx, storeB_bx, BodyK, resVs, resV, retV, box_all, cast_lit, wrap_1, wrap_2, wrap_3, wrap_4, callK_def]
      refine dKnown_call ho hl fun b hb => ?_
      obtain ⟨hbl, hblt⟩ := hb.len (by omega)
      simp [-pwp_seq, new_box, app_box, len_box, cell_box, cell_box0, cells_box, cells_box0, store_box, store_box0, cellB_bx, cellsB_bx, storeB_bx, BodyK, resVs, resV, retV, box_all, cast_lit, wrap_1, wrap_2, wrap_3, wrap_4, callK_def]
      refine Succs_call (by omega) ?_
      simp [-pwp_seq, new_box, app_box, len_box, cell_box, cell_box0, cells_box, cells_box0, store_box, store_box0, cellB_bx, cellsB_bx, storeB_bx, BodyK, resVs, resV, retV, box_all, cast_lit, wrap_1, wrap_2, wrap_3, wrap_4, callK_def]
      refine Reach_call (s := succs code) (by have := sum_succs code; rw [succs_len]; omega) fun seen hs1 hs2 => ?_
      rw [succs_len] at hs1
      simp [-pwp_seq, new_box, app_box, len_box, cell_box, cell_box0, cells_box, cells_box0, store_box, store_box0, cellB_bx, cellsB_bx, storeB_bx, BodyK, resVs, resV, retV, box_all, cast_lit, wrap_1, wrap_2, wrap_3, wrap_4, callK_def]
      rw [pwp_seq]
      simp [-pwp_seq, new_box, app_box, len_box, cell_box, cell_box0, cells_box, cells_box0, store_box, store_box0, cellB_bx, cellsB_bx, storeB_bx, BodyK, resVs, resV, retV, box_all, cast_lit, wrap_1, wrap_2, wrap_3, wrap_4]
      refine loop_l (σ := Nat × Value × List Ins × Heap) (fun x => [(2, ptr h.length), (3, ptr (h.length + 2)), (4, vL vU b), (5, vL vB seen), (22, vM 4 vIns code), (23, vI code.length), (24, vI x.1)]) (fun x => x.2.2.2)
        (fun x => x.1 ≤ code.length ∧ LC h code b cs x.1 x.2.1 x.2.2.1 x.2.2.2) (fun x => code.length - x.1)
        (0, nilS, code, h ++ [bx [nilS, nilS] 2, Ob.row ⟨code.flatMap vIns, 4, 1, true⟩, bx [cs, nilS] 2]) (by simp) (by rw [hcs]) ⟨by simp, ⟨by simp [RowV, bx], by simp [RowM], .nil, by simp [RowV, bx], Keeps.app, rfl, fun _ _ => rfl, fun i c hi => by omega, fun i c hi => by omega⟩⟩ ?_
      rintro ⟨k, fv, out, H⟩ fr ⟨hk0, v⟩
      simp only at hk0 v ⊢
      by_cases hlt : k < code.length
      · obtain ⟨k1, hk1, wk⟩ := wrap_next (show k < lim by omega)
        obtain ⟨c, hc⟩ : ∃ c, code[k]? = some c := ⟨_, List.getElem?_eq_getElem hlt⟩
        have hkf : (k : Int) < code.length := by omega
        have hco := ho c (List.mem_of_getElem? hc)
        obtain ⟨sk, hsk⟩ : ∃ sk, seen[k]? = some sk := ⟨_, List.getElem?_eq_getElem (by omega)⟩
        have hbk := gN_at (l := b) (i := k) (by omega)
        simp [new_box, app_box, len_box, cell_box, cell_box0, cells_box, cells_box0, store_box, store_box0, cellB_bx, cellsB_bx, storeB_bx, BodyK, resVs, resV, retV, box_all, cast_lit, wrap_1, wrap_2, wrap_3, wrap_4, hkf, hc, v.row.cellA, -cellsOf_agg, vIns_len, take_vIns, cellsOf_vIns, setAll_ins]
        refine box_push (j := 1) v.row v.frm (by simp) (pElems_lit (m := 1) (cs := [vI (k : Int)]) rfl rfl) (by rw [ownL_len]; omega) fun v1 H1 H2 t1 r2 a2 t2 t3 t4 => ?_
        have hR : RowV H2 H.length 0 4 (vIns c) := t2 0 _ rfl
        have e0 : H2.cell? H.length 0 0 = some (v8 c.op) := by rw [hR.cell]; rfl
        have e1 : H2.cell? H.length 1 0 = some (vI c.a) := by rw [hR.cell]; rfl
        have e2 : H2.cell? H.length 2 0 = some (vI c.b) := by rw [hR.cell]; rfl
        have hst : ([cs, fv] : List Value).set 1 v1 = [cs, v1] := rfl
        rw [hst] at r2
        have ecs : H2.cell? (h.length + 2) 0 0 = some cs := by rw [r2.cell]; rfl
        have cod2 : RowM 4 vIns H2 (h.length + 1) 1 4 out := v.cod.keep (t4.2 _ (by omega))
        have res2 : RowV H2 h.length 0 2 [nilS, nilS] := v.res.keep (t4.2 _ (by omega))
        have kp2 : Keeps h.length h H2 := v.kp.trans ⟨t4.1, fun i hi => t4.2 i (by omega)⟩
        have own1 : ownL k1 = ownL k ++ [(k : Int)] := by rw [hk1, ownL_succ]
        rw [← own1] at a2
        have hok : out[k]? = some c := by rw [v.tail k (Nat.le_refl _), hc]
        have stay : ((Come (succs code) k → c = ldIns c (gN b k)) ∧ (¬ Come (succs code) k → c = c)) → LC h code b cs k1 v1 out H2 := fun hd => by
          have := v.step (H3 := H2) (d := c) hk1 hc hd r2 a2 res2 kp2 (by rw [set_self hok]; exact cod2) ⟨fun _ _ => rfl, rfl⟩
          rwa [set_self hok] at this
        by_cases h7 : c.op = 7
        · have h7' : (c.op : Int) = 7 := by omega
          cases sk with
          | true =>
            have hcome : Come (succs code) k := (hs2 k).1 hsk
            obtain ⟨kb, hkb⟩ : ∃ kb, kb = gN b k := ⟨_, rfl⟩
            have hkl : kb < big := by rw [hkb]; exact hblt k
            have hand : bits .u64 .and (kb : Int) (factsN c.b : Int) = ((kb &&& factsN c.b : Nat) : Int) := bits_and hkl (factsN_lt _)
            rw [← hkb] at hbk stay
            have e7 : ldIns c kb = if factI c kb < 0 then c else if (factI c kb).tmod 4 = c.a then nopI else ⟨2, c.a, (factI c kb).tmod 4, 0⟩ := by unfold ldIns; rw [if_pos h7]
            simp [new_box, app_box, len_box, cell_box, cell_box0, cells_box, cells_box0, store_box, store_box0, cellB_bx, cellsB_bx, storeB_bx, BodyK, resVs, resV, retV, box_all, cast_lit, wrap_1, wrap_2, wrap_3, wrap_4, t1, e0, e1, e2, h7', hsk, hbk]
            refine pOps_still (by simp [hbk]) (PCallS.lock (dFacts_call ⟨rfl, ?_⟩))
            simp [new_box, app_box, len_box, cell_box, cell_box0, cells_box, cells_box0, store_box, store_box0, cellB_bx, cellsB_bx, storeB_bx, BodyK, resVs, resV, retV, box_all, cast_lit, wrap_1, wrap_2, wrap_3, wrap_4, hbk, hand]
            refine bFirst_call (and_lt hkl) ?_
            have hfd : firstI (kb &&& factsN c.b) 0 = factI c kb := rfl
            rw [hfd]
            rcases firstI_cases (kb &&& factsN c.b) 0 with hf | ⟨n, hf, hn, _⟩
            · rw [hfd] at hf
              rw [hf] at e7 ⊢
              rw [if_pos (by decide)] at e7
              simp [new_box, app_box, len_box, cell_box, cell_box0, cells_box, cells_box0, store_box, store_box0, cellB_bx, cellsB_bx, storeB_bx, BodyK, resVs, resV, retV, box_all, cast_lit, wrap_1, wrap_2, wrap_3, wrap_4, callK_def, wk]
              exact .go (k1, v1, out, H2) (by simp only []; omega) (by simp) rfl ⟨by simp only []; omega, stay ⟨fun _ => e7.symm, fun _ => rfl⟩⟩
            · rw [hfd] at hf
              rw [hf] at e7 ⊢
              rw [if_neg (by omega)] at e7
              have hn0 : ¬ (n : Int) < 0 := by omega
              obtain ⟨q, hq⟩ : ∃ q : Nat, q = n % 4 := ⟨_, rfl⟩
              have hm : (n : Int).tmod 4 = (q : Int) := by rw [Int.tmod_eq_emod_of_nonneg (by omega), hq]; rfl
              have wq : IntKind.i64.wrap (q : Int) = q := wrap_i64 (by omega) (by omega)
              rw [hm] at e7
              obtain ⟨H3, s1, s2, s3⟩ := cod2.store (r := k) (by rw [v.len]; exact hlt) (x := nopI) rfl
              have s1' : storeV H2 4 (.pointer (some ⟨h.length + 1, k * 4, some 1⟩)) (.agg #[.int .u8 0, .int .i64 0, .int .i64 0, .int .i64 0]) = some H3 := s1
              have e1' : H3.cell? H.length 1 0 = some (vI c.a) := by rw [(hR.keep (s3.1 _ (by have := t3; have := v.cod.lt; omega))).cell]; rfl
              have ecs' : H3.cell? (h.length + 2) 0 0 = some cs := by rw [(r2.keep (s3.1 _ (by omega))).cell]; rfl
              by_cases hqa : (q : Int) = c.a
              · rw [if_pos hqa] at e7
                simp [new_box, app_box, len_box, cell_box, cell_box0, cells_box, cells_box0, store_box, store_box0, cellB_bx, cellsB_bx, storeB_bx, BodyK, resVs, resV, retV, box_all, cast_lit, wrap_1, wrap_2, wrap_3, wrap_4, callK_def, hn0, ecs, hcs, hlt, s1', hm, wq, e1', hqa, wk]
                have sc := v.step (d := nopI) hk1 hc ⟨fun _ => by rw [← hkb]; exact e7.symm, fun hn => absurd hcome hn⟩ r2 a2 res2 kp2 s2 s3
                exact .go (k1, v1, out.set k nopI, H3) (by simp only []; omega) (by simp) rfl ⟨by simp only []; omega, by subst hcs; exact sc⟩
              · rw [if_neg hqa] at e7
                obtain ⟨H4, u1, u2, u3⟩ := s2.store (r := k) (by simp [v.len]; exact hlt) (x := ⟨2, c.a, q, 0⟩) rfl
                have u1' : storeV H3 4 (.pointer (some ⟨h.length + 1, k * 4, some 1⟩)) (.agg #[.int .u8 2, .int .i64 c.a, .int .i64 q, .int .i64 0]) = some H4 := u1
                rw [List.set_set] at u2
                have sc := v.step (d := ⟨2, c.a, q, 0⟩) hk1 hc ⟨fun _ => by rw [← hkb]; exact e7.symm, fun hn => absurd hcome hn⟩ r2 a2 res2 kp2 u2 ⟨fun i hi => by rw [u3.1 i hi, s3.1 i hi], by rw [u3.2, s3.2]⟩
                simp [new_box, app_box, len_box, cell_box, cell_box0, cells_box, cells_box0, store_box, store_box0, cellB_bx, cellsB_bx, storeB_bx, BodyK, resVs, resV, retV, box_all, cast_lit, wrap_1, wrap_2, wrap_3, wrap_4, callK_def, hn0, ecs, hcs, hlt, s1', hm, wq, e1', hqa, ecs', u1', wk]
                exact .go (k1, v1, out.set k ⟨2, c.a, q, 0⟩, H4) (by simp only []; omega) (by simp) rfl ⟨by simp only []; omega, by subst hcs; exact sc⟩
          | false =>
            have hng : ¬ Come (succs code) k := fun hy => by rw [← hs2 k, hsk] at hy; cases hy
            simp [new_box, app_box, len_box, cell_box, cell_box0, cells_box, cells_box0, store_box, store_box0, cellB_bx, cellsB_bx, storeB_bx, BodyK, resVs, resV, retV, box_all, cast_lit, wrap_1, wrap_2, wrap_3, wrap_4, t1, e0, e1, h7', hsk, wk]
            exact .go (k1, v1, out, H2) (by simp only []; omega) (by simp) rfl ⟨by simp only []; omega, stay ⟨fun hy => absurd hy hng, fun _ => rfl⟩⟩
        · have h7' : ¬ (c.op : Int) = 7 := by omega
          have e7 : ldIns c (gN b k) = c := by unfold ldIns; rw [if_neg h7]
          simp [new_box, app_box, len_box, cell_box, cell_box0, cells_box, cells_box0, store_box, store_box0, cellB_bx, cellsB_bx, storeB_bx, BodyK, resVs, resV, retV, box_all, cast_lit, wrap_1, wrap_2, wrap_3, wrap_4, t1, e0, e1, h7, h7', wk]
          exact .go (k1, v1, out, H2) (by simp only []; omega) (by simp) rfl ⟨by simp only []; omega, stay ⟨fun _ => e7.symm, fun _ => rfl⟩⟩
      · obtain rfl : k = code.length := by omega
        have hkf : ¬ (code.length : Int) < code.length := by omega
        have hce : H.cells? (h.length + 2) 0 0 2 = some [cs, fv] := v.row.cells rfl
        have hfc : cellsOf fv = some [fv] := v.frm.cell
        obtain ⟨H2, s1, s2, s3⟩ := v.res.store (n := 2) (cs := [cs, fv]) rfl rfl (by
          have hq := v.frm
          rcases hq with ⟨e, _⟩ | ⟨id, ver, e, _⟩ <;> rw [e, hcs] <;> rfl)
        have s1' : storeV H 2 (ptr h.length) (.agg #[cs, fv]) = some H2 := s1
        have ce2 : H2.cells? h.length 0 0 2 = some [cs, fv] := s2.cells rfl
        simp [new_box, app_box, len_box, cell_box, cell_box0, cells_box, cells_box0, store_box, store_box0, cellB_bx, cellsB_bx, storeB_bx, BodyK, resVs, resV, retV, box_all, cast_lit, wrap_1, wrap_2, wrap_3, wrap_4, hkf, hce, s1', ce2]
        obtain ⟨g, hg⟩ := (v.kp.trans ⟨by rw [s3.2]; exact Nat.le_refl _, fun i hi => s3.1 i (by omega)⟩ : Keeps h.length h H2).ext
        have cod2 : RowM 4 vIns H2 (h.length + 1) 1 4 out := v.cod.keep (s3.1 _ (by omega))
        have frm2 : AccL vI (h.length + 2 + 1) H2 fv (ownL code.length) := v.frm.keep fun i hi => s3.1 i (fun e => by have := v.frm.low i hi; omega)
        have i1 : Inl h.length H2 cs (vM 4 vIns out) := by
          rw [hcs]
          exact AccM.inl (e := 4) (F := vIns) (b := h.length) (.inr ⟨_, 1, by rw [v.len], by omega, cod2, flat_len (e := 4) (fun _ => rfl) _⟩) fun _ => rfl
        have i2 : Inl h.length H2 fv (vL vI (ownL code.length)) := by
          have f3 : AccL vI h.length H2 fv (ownL code.length) := by
            rcases frm2 with ⟨e1, e2, e3⟩ | ⟨id, ver, e1, e2, e3⟩
            · exact Or.inl ⟨e1, e2, e3⟩
            · exact Or.inr ⟨id, ver, e1, by omega, e3⟩
          exact AccL.inl f3 fun _ => rfl
        refine ⟨⟨g, hg⟩, _, Inls.agg (xs := [cs, fv]) (ys := [vM 4 vIns out, vL vI (ownL code.length)]) ⟨i1, i2, trivial⟩, hk out (ownL code.length) ?_⟩
        unfold LoadedL
        rw [if_neg h60]
        exact ⟨⟨b, hb, ⟨v.len, fun i c hc => v.come i c (List.getElem?_eq_some_iff.1 hc).1 hc, fun i c hc => v.away i c (List.getElem?_eq_some_iff.1 hc).1 hc⟩⟩, rfl⟩
end
end Pm

/- Loads of what is known: of straight code.
   No condition: plain lemmas. -/

namespace Pm
set_option linter.unusedSimpArgs false
set_option linter.unusedVariables false
open Go Am
open Go.Proofs.Tryd (prog)

theorem loads_come {code : List Ins} (hs : Strt code) : ∀ i, i < code.length → Come (succs code) i
  | 0, h => .start (by rw [succs_len]; exact h)
  | i + 1, h => by
    have hi : i < code.length := by omega
    refine .step (loads_come hs i hi) (l := nextsOf i code[i]) (by rw [succs_at, List.getElem?_eq_getElem hi]; rfl) ?_ (by rw [succs_len]; exact h)
    rw [nextsOf_plain (hs _ (List.getElem_mem hi))]
    exact List.mem_singleton.2 rfl
/-- What is known behind an instruction. -/
def thruN (c : Ins) (x : Nat) : Nat := andN x (takeN c) ||| addN c
def kn (code : List Ins) : Nat → Nat
  | 0 => 0
  | i + 1 => match code[i]? with | some c => thruN c (kn code i) | none => 0
theorem kn_lt (code : List Ins) : ∀ i, kn code i < big
  | 0 => by show 0 < big; decide
  | i + 1 => by
    unfold kn
    split
    · exact or_lt (andN_lt (kn_lt code i)) (addN_lt _)
    · decide
theorem loads_straight {code : List Ins} (hs : Strt code) {k out : List Nat} (h : Solved (loadP code) k out) {i : Nat} (hi : i < code.length) : gN k i = kn code i := by
  have hn : (loadP code).n = code.length := succs_len code
  refine ext_bits (h.ilt i) (kn_lt code i) fun r hr => ?_
  have ha := h.ahead i r (by rw [hn]; exact hi) hr
  have hmk : (loadP code).marked (gN k i) r = !(gN k i).testBit r := by
    unfold Prob.marked
    show ((gN k i).testBit r != true) = _
    cases (gN k i).testBit r <;> rfl
  rw [hmk] at ha
  have nx : ∀ j, j < code.length → nexts (succs code) j = [((j + 1 : Nat) : Int)] := fun j hj => by
    rw [nexts_succs (List.getElem?_eq_getElem hj), nextsOf_plain (hs _ (List.getElem_mem hj))]
  have fr : ∀ (a b : Nat), a < code.length → b < code.length → ((a : Int) ∈ nexts (loadP code).froms b ↔ b = a + 1) := fun a b ha hb => by
    rw [from_to (p := loadP code) (by rw [hn]; exact ha) (by rw [hn]; exact hb)]
    show (b : Int) ∈ nexts (insideL (succs code)) a ↔ _
    rw [inside_mem, nx a ha, succs_len]
    constructor
    · rintro ⟨j, h1, h2, h3⟩
      have := List.mem_singleton.1 h3
      omega
    · intro e
      exact ⟨b, rfl, hb, by rw [e]; exact List.mem_singleton.2 rfl⟩
  have gen_pass : ∀ j c, code[j]? = some c → gN (loadP code).gen j = addN c ∧ gN (loadP code).kill j = takeN c := fun j c hc => by
    constructor
    · show gN (code.map addN) j = _; rw [gN_map, hc]
    · show gN (code.map takeN) j = _; rw [gN_map, hc]
  have key : ∀ j, j < code.length → (Mk (loadP code) r false j ↔ (kn code j).testBit r = false) := by
    intro j
    induction j with
    | zero =>
      intro hj
      constructor
      · intro _; simp [kn]
      · intro _
        exact .start (by rw [hn]; exact hj) (by show (if false then _ else decide (0 = 0)) = true; rfl) (by show ((0 : Nat).testBit r != true) = true; simp)
    | succ j ih =>
      intro hj
      have hj' : j < code.length := by omega
      have hc : code[j]? = some code[j] := List.getElem?_eq_getElem hj'
      obtain ⟨g1, g2⟩ := gen_pass j _ hc
      have hkn : kn code (j + 1) = thruN code[j] (kn code j) := by
        show (match code[j]? with | some c => thruN c (kn code j) | none => 0) = _
        rw [hc]
      have htrue : Mk (loadP code) r true j ↔ (thruN code[j] (kn code j)).testBit r = false := by
        have e : (thruN code[j] (kn code j)).testBit r = ((kn code j).testBit r && !(takeN code[j]).testBit r || (addN code[j]).testBit r) := by
          unfold thruN; rw [Nat.testBit_or, andN_bit]
        rw [e]
        constructor
        · intro hm
          cases hm with
          | gen _ hg =>
            unfold Prob.genM at hg
            rw [g1, g2] at hg
            have hg' : (!(addN code[j]).testBit r && (takeN code[j]).testBit r) = true := hg
            simp only [Bool.and_eq_true, Bool.not_eq_true'] at hg'
            rw [hg'.1, hg'.2]; simp
          | pass hp hq =>
            unfold Prob.passM at hq
            rw [g1, g2] at hq
            have hq' : (!(addN code[j]).testBit r) = true := hq
            rw [(ih hj').1 hp]
            simp only [Bool.not_eq_true'] at hq'
            rw [hq']; rfl
        · intro hm
          simp only [Bool.or_eq_false_iff, Bool.and_eq_false_iff, Bool.not_eq_false'] at hm
          obtain ⟨hm1, hm2⟩ := hm
          rcases hm1 with hm1 | hm1
          · refine .pass ((ih hj').2 hm1) ?_
            unfold Prob.passM
            rw [g1, g2]
            show (!(addN code[j]).testBit r) = true
            rw [hm2]; rfl
          · refine .gen (by rw [hn]; exact hj') ?_
            unfold Prob.genM
            rw [g1, g2]
            show (!(addN code[j]).testBit r && (takeN code[j]).testBit r) = true
            rw [hm2, hm1]; rfl
      rw [hkn, ← htrue]
      constructor
      · intro hm
        cases hm with
        | start _ he _ =>
          have : (if false then _ else decide (j + 1 = 0)) = true := he
          simp at this
        | @flow _ a _ hf hm =>
          have hal : a < code.length := by have := hm.lt; rwa [hn] at this
          have := (fr a (j + 1) hal hj).1 hf
          obtain rfl : a = j := by omega
          exact hm
      · intro hm
        exact .flow (by rw [hn]; exact hj) ((fr j (j + 1) hj' hj).2 rfl) hm
  have := ha.trans (key i hi)
  cases h1 : (gN k i).testBit r <;> cases h2 : (kn code i).testBit r <;> rw [h1, h2] at this <;> simp at this ⊢
theorem LoadedL.straight {code out : List Ins} {fm : List Int} (h : LoadedL code out fm) (hs : Strt code) (hl : code.length ≤ 60) : out.length = code.length ∧ fm = ownL code.length ∧ ∀ i c, code[i]? = some c → out[i]? = some (ldIns c (kn code i)) := by
  unfold LoadedL at h
  rw [if_neg (by omega)] at h
  obtain ⟨⟨k, hk, hL⟩, hf⟩ := h
  unfold KnownL at hk
  rw [if_neg (by omega)] at hk
  obtain ⟨o, hS⟩ := hk
  refine ⟨hL.len, hf, fun i c hc => ?_⟩
  have hi := (List.getElem?_eq_some_iff.1 hc).1
  rw [hL.come i c hc (loads_come hs i hi), loads_straight hs hS hi]
end Pm
