/- Loads of what is known: small functions.
   No condition: plain lemmas. -/

import Derived.Test.YthpombmecbgchaaDoorZLPmEdit
import Derived.Test.YthpombmecbgchaaDoorZLPmCfgC
import Derived.Test.YthpombmecbgchaaDoorZLAmSeq2
namespace Pm
set_option linter.unusedSimpArgs false
set_option linter.unusedVariables false
open Go Am
open Go.Proofs.Tryd (prog)

theorem acq_cases {op : Nat} (h : op < 28) : op = 0 ∨ op = 1 ∨ op = 2 ∨ op = 3 ∨ op = 4 ∨ op = 5 ∨ op = 6 ∨ op = 7 ∨ op = 8 ∨ op = 9 ∨ op = 10 ∨ op = 11 ∨ op = 12 ∨ op = 13 ∨ op = 14 ∨ op = 15 ∨ op = 16 ∨ op = 17 ∨ op = 18 ∨ op = 19 ∨ op = 20 ∨ op = 21 ∨ op = 22 ∨ op = 23 ∨ op = 24 ∨ op = 25 ∨ op = 26 ∨ op = 27 := by omega
theorem acqOp_iff {op : Nat} : acqOp op = true ↔ op = 13 ∨ op = 15 ∨ op = 17 ∨ (19 ≤ op ∧ op ≤ 22) ∨ op = 25 ∨ op = 26 := by
  unfold acqOp
  simp only [List.contains_iff_mem, List.mem_cons, List.not_mem_nil, or_false]
  omega
section
variable {h : Heap} {K : Value → Heap → Prop}
theorem bList_call {s : Nat} (hs : s < big) (hk : K (vL vI (bitsI s)) h) : PCall prog 45 [vU s] h K := by
  refine .ofA fun m H vals hP hr => ?_
  obtain ⟨v, rfl, hv⟩ := rs_one hr
  cases r_int hv
  exact List_spec hs fun v H' h1 h2 h3 => ⟨⟨h2, h3⟩, fun hw => ⟨_, hk, R_of_L1 (fun x => self_int _ _) h1 hw⟩⟩
theorem bFirst_call {s : Nat} {k : Int} (hs : s < big) (hk : K (vI (firstI s k)) h) : PCall prog 23 [vU s, vI k] h K := by
  refine .ofA fun m H vals hP hr => ?_
  obtain ⟨v, w, rfl, hv, hw⟩ := rs_two hr
  cases r_int hv
  cases r_int hw
  exact First_spec hs ⟨⟨fun _ _ => rfl, Nat.le_refl _⟩, fun _ => ⟨_, hk, .int _ _⟩⟩
theorem irAcq_call {op : Nat} (ho : op ≤ 255) (hk : K (vB (acqOp op)) h) : PCall prog 63 [v8 op] h K := by
  refine Pure.go (Pure.one (p := vB (acqOp op)) rfl fun h => ?_) hk
  refine call_irAcq (by simp) ?_
  simp [new_box, app_box, len_box, cell_box, cell_box0, cells_box, cells_box0, store_box, store_box0, cellB_bx, cellsB_bx, storeB_bx, BodyK, resVs, resV, retV, box_all, cast_lit, wrap_1, wrap_2, wrap_3, wrap_4, c_irAcq]
  refine irOf_call ho ?_
  have hc : cellsOf (.agg (shapeOf op).toArray) = some (shapeOf op) := by
    simp only [cellsOf_agg]
    rw [if_pos (by simpa using cell_shape op)]
  have hl : (shapeOf op).length = 7 := by unfold shapeOf; split <;> rfl
  have hs : ∀ a b c d e f g : Value, setAll [a, b, c, d, e, f, g] 0 (shapeOf op) = shapeOf op := fun a b c d e f g => by unfold shapeOf; split <;> rfl
  have h6 : ∀ hh, (shapeOf op)[5]'hh = vB (acqOp op) := by
    unfold shapeOf
    split
    · intro _; rfl
    · intro _
      have : acqOp op = false := by
        cases hr : acqOp op with
        | false => rfl
        | true => rw [acqOp_iff] at hr; omega
      rw [this]; rfl
  simp [new_box, app_box, len_box, cell_box, cell_box0, cells_box, cells_box0, store_box, store_box0, cellB_bx, cellsB_bx, storeB_bx, BodyK, resVs, resV, retV, box_all, cast_lit, wrap_1, wrap_2, wrap_3, wrap_4, -cellsOf_agg, callK_def, hc, hl, hs, h6]
theorem R2Acq_call {op : Nat} (ho : op ≤ 255) (hk : K (vB (acqOp op)) h) : PCall prog 12 [v8 op] h K := by
  refine Pure.go (Pure.one (p := vB (acqOp op)) rfl fun h => ?_) hk
  refine call_R2Acq (by simp) ?_
  by_cases h28 : op < 28
  · rcases acq_cases h28 with rfl | rfl | rfl | rfl | rfl | rfl | rfl | rfl | rfl | rfl | rfl | rfl | rfl | rfl | rfl | rfl | rfl | rfl | rfl | rfl | rfl | rfl | rfl | rfl | rfl | rfl | rfl | rfl <;>
    · simp [new_box, app_box, len_box, cell_box, cell_box0, cells_box, cells_box0, store_box, store_box0, cellB_bx, cellsB_bx, storeB_bx, BodyK, resVs, resV, retV, box_all, cast_lit, wrap_1, wrap_2, wrap_3, wrap_4, c_R2Acq]
      try rfl
  · have e : acqOp op = false := by
      cases hr : acqOp op with
      | false => rfl
      | true => rw [acqOp_iff] at hr; omega
    have n1 : ¬ (op : Int) = 13 := by omega
    have n2 : ¬ (op : Int) = 15 := by omega
    have n3 : ¬ (op : Int) = 17 := by omega
    have n4 : (19 : Int) ≤ op := by omega
    have n5 : ¬ (op : Int) ≤ 22 := by omega
    have n6 : ¬ (op : Int) = 25 := by omega
    have n7 : ¬ (op : Int) = 26 := by omega
    simp [BodyK, resVs, resV, retV, c_R2Acq, n1, n2, n3, n4, n5, n6, n7, e]
/-- The facts of a variable. -/
def factsN (x : Int) : Nat := if 0 ≤ x ∧ x < 8 then 15 * 2 ^ (4 * x.toNat) else 0
def ofN (r : Nat) : Nat := 286331153 * 2 ^ r
theorem facts_shl : ∀ n : Nat, n < 8 → IntKind.u64.wrap (((allN 4 : Nat) : Int) * 2 ^ min (4 * n) 64) = (factsN n : Int) := by decide +kernel
theorem dFacts_call {x : Int} (hk : K (vU (factsN x)) h) : PCall prog 24 [vI x] h K := by
  refine Pure.go (Pure.one (p := vU (factsN x)) rfl fun h => ?_) hk
  refine call_dFacts (by simp) ?_
  by_cases h0 : x < 0
  · have e : factsN x = 0 := by unfold factsN; rw [if_neg (by omega)]
    rw [e]
    simp [new_box, app_box, len_box, cell_box, cell_box0, cells_box, cells_box0, store_box, store_box0, cellB_bx, cellsB_bx, storeB_bx, BodyK, resVs, resV, retV, box_all, cast_lit, wrap_1, wrap_2, wrap_3, wrap_4, c_dFacts, h0]
  · by_cases h8 : 8 ≤ x
    · have e : factsN x = 0 := by unfold factsN; rw [if_neg (by omega)]
      rw [e]
      simp [new_box, app_box, len_box, cell_box, cell_box0, cells_box, cells_box0, store_box, store_box0, cellB_bx, cellsB_bx, storeB_bx, BodyK, resVs, resV, retV, box_all, cast_lit, wrap_1, wrap_2, wrap_3, wrap_4, c_dFacts, h0, h8]
    · obtain ⟨n, rfl⟩ : ∃ n : Nat, x = n := ⟨x.toNat, by omega⟩
      have hn : n < 8 := by omega
      obtain ⟨q, hq⟩ : ∃ q : Nat, q = 4 * n := ⟨_, rfl⟩
      have hw : IntKind.i64.wrap (4 * (n : Int)) = (q : Int) := by rw [wrap_i64 (by omega) (by omega), hq]; simp
      have hb : binV .shl (vU (allN 4)) (.int .i64 (q : Int)) = some (vU (factsN n)) := by
        show binV .shl (.int .u64 ((allN 4 : Nat) : Int)) _ = _
        rw [binV_shl (by omega)]
        have e := facts_shl n hn
        rw [show ((q : Int)).toNat = 4 * n by omega, show IntKind.u64.bits = 64 from rfl]
        show some (Value.int .u64 (IntKind.u64.wrap (((allN 4 : Nat) : Int) * 2 ^ min (4 * n) 64))) = _
        rw [e]
      simp [new_box, app_box, len_box, cell_box, cell_box0, cells_box, cells_box0, store_box, store_box0, cellB_bx, cellsB_bx, storeB_bx, BodyK, resVs, resV, retV, box_all, cast_lit, wrap_1, wrap_2, wrap_3, wrap_4, c_dFacts, h0, h8, hw]
      refine All_call (n := 4) (by decide) ?_
      simp [new_box, app_box, len_box, cell_box, cell_box0, cells_box, cells_box0, store_box, store_box0, cellB_bx, cellsB_bx, storeB_bx, BodyK, resVs, resV, retV, box_all, cast_lit, wrap_1, wrap_2, wrap_3, wrap_4, callK_def, hb, hw]
theorem of_next {r k : Nat} (hr : r < 4) (hk : k < 8) : withN (ofN r % 2 ^ (4 * k + r)) [((4 * k + r : Nat) : Int)] = ofN r % 2 ^ (4 * (k + 1) + r) := by
  have h1 : r = 0 ∨ r = 1 ∨ r = 2 ∨ r = 3 := by omega
  have h2 : k = 0 ∨ k = 1 ∨ k = 2 ∨ k = 3 ∨ k = 4 ∨ k = 5 ∨ k = 6 ∨ k = 7 := by omega
  rcases h1 with rfl | rfl | rfl | rfl <;> rcases h2 with rfl | rfl | rfl | rfl | rfl | rfl | rfl | rfl <;> decide +kernel
theorem of_end {r : Nat} (hr : r < 4) : ofN r % 2 ^ (4 * 8 + r) = ofN r ∧ ofN r % 2 ^ (4 * 0 + r) = 0 := by
  have h1 : r = 0 ∨ r = 1 ∨ r = 2 ∨ r = 3 := by omega
  rcases h1 with rfl | rfl | rfl | rfl <;> decide +kernel
theorem of_lt {r : Nat} (hr : r < 4) : ofN r < big := by
  have h1 : r = 0 ∨ r = 1 ∨ r = 2 ∨ r = 3 := by omega
  rcases h1 with rfl | rfl | rfl | rfl <;> decide +kernel
theorem dOf_call {r : Nat} (hr : r < 4) (hk : K (vU (ofN r)) h) : PCall prog 62 [vI r] h K := by
  refine Pure.go (Pure.one (p := vU (ofN r)) rfl fun h => ?_) hk
  refine call_dOf (by simp) ?_
  simp [-pwp_seq, new_box, app_box, len_box, cell_box, cell_box0, cells_box, cells_box0, store_box, store_box0, cellB_bx, cellsB_bx, storeB_bx, BodyK, resVs, resV, retV, box_all, cast_lit, wrap_1, wrap_2, wrap_3, wrap_4, c_dOf]
  rw [pwp_seq]
  simp [-pwp_seq, new_box, app_box, len_box, cell_box, cell_box0, cells_box, cells_box0, store_box, store_box0, cellB_bx, cellsB_bx, storeB_bx, BodyK, resVs, resV, retV, box_all, cast_lit, wrap_1, wrap_2, wrap_3, wrap_4]
  refine loop_l (σ := Nat × List Ob) (fun x => [(0, vI r), (3, vU (ofN r % 2 ^ (4 * x.1 + r))), (5, vI x.1)]) (fun x => h ++ x.2) (fun x => x.1 ≤ 8) (fun x => 8 - x.1) (0, []) (by show Slots [(0, vI r), (3, vU (ofN r % 2 ^ (4 * 0 + r))), (5, vI ((0 : Nat) : Int))] _; rw [(of_end hr).2]; simp) (by simp) (by simp) ?_
  rintro ⟨k, rs⟩ fr hk0
  simp only at hk0 ⊢
  have hlt : ofN r % 2 ^ (4 * k + r) < big := Nat.lt_of_le_of_lt (Nat.mod_le _ _) (of_lt hr)
  by_cases hlt8 : k < 8
  · have hn := of_next hr hlt8
    obtain ⟨k1, hk1, wk⟩ := wrap_next (show k < lim by unfold lim; omega)
    obtain ⟨q, hq⟩ : ∃ q : Nat, q = 4 * k := ⟨_, rfl⟩
    obtain ⟨u, hu⟩ : ∃ u : Nat, u = 4 * k + r := ⟨_, rfl⟩
    have w1 : IntKind.i64.wrap (4 * (k : Int)) = (q : Int) := by rw [wrap_i64 (by omega) (by omega), hq]; simp
    have w2 : IntKind.i64.wrap ((q : Int) + r) = (u : Int) := by rw [wrap_i64 (by omega) (by omega), hu, hq]; simp
    have hkf : (k : Int) < 8 := by omega
    rw [← hu] at hn hlt ⊢
    rw [← hk1] at hn
    have hfz : frzV (h ++ (rs ++ [bx [vI (u : Int)] 1])) 1 (.slice (some ⟨h.length + rs.length, 0, none⟩) 1 0) = some (vL vI [(u : Int)], h ++ (rs ++ [bx [vI (u : Int)] 1]).set rs.length (.row ⟨[vI (u : Int)], 1, 0, false⟩)) := frz_one (by simp)
    simp [new_box, app_box, len_box, cell_box, cell_box0, cells_box, cells_box0, store_box, store_box0, cellB_bx, cellsB_bx, storeB_bx, BodyK, resVs, resV, retV, box_all, cast_lit, wrap_1, wrap_2, wrap_3, wrap_4, hlt8, hkf, w1, w2, hfz]
    refine With_call hlt (by simp [lim]) ?_
    rw [hn]
    simp [new_box, app_box, len_box, cell_box, cell_box0, cells_box, cells_box0, store_box, store_box0, cellB_bx, cellsB_bx, storeB_bx, BodyK, resVs, resV, retV, box_all, cast_lit, wrap_1, wrap_2, wrap_3, wrap_4, callK_def, wk]
    exact .go (k1, _) (by simp only []; omega) (by simp) rfl (by simp only []; omega)
  · obtain rfl : k = 8 := by omega
    rw [(of_end hr).1]
    simp [new_box, app_box, len_box, cell_box, cell_box0, cells_box, cells_box0, store_box, store_box0, cellB_bx, cellsB_bx, storeB_bx, BodyK, resVs, resV, retV, box_all, cast_lit, wrap_1, wrap_2, wrap_3, wrap_4]
/-- What an instruction adds. -/
def accX (c : Ins) : Int := if c.op = 7 then c.b else c.a
def accR (c : Ins) : Int := if c.op = 7 then c.a else c.b
def addN (c : Ins) : Nat := if (c.op = 7 ∨ c.op = 8) ∧ 0 ≤ accR c ∧ accR c < 4 then factsN (accX c) &&& ofN (accR c).toNat else 0
theorem factsN_lt (x : Int) : factsN x < big := by
  unfold factsN
  split
  · obtain ⟨n, rfl⟩ : ∃ n : Nat, x = n := ⟨x.toNat, by omega⟩
    have hx : n = 0 ∨ n = 1 ∨ n = 2 ∨ n = 3 ∨ n = 4 ∨ n = 5 ∨ n = 6 ∨ n = 7 := by omega
    rcases hx with rfl | rfl | rfl | rfl | rfl | rfl | rfl | rfl <;> decide
  · decide
theorem addN_lt (c : Ins) : addN c < big := by
  unfold addN
  split
  · exact and_lt (factsN_lt _)
  · decide
theorem dAccess_call {c : Ins} (hk : K (.tuple #[vI (accX c), vI (accR c)]) h) : PCall prog 61 [.agg (vIns c).toArray] h K := by
  refine PCall.forget ?_
  refine call_dAccess (by simp) ?_
  obtain ⟨op, a, b, d⟩ := c
  by_cases h7 : op = 7
  · have h7' : (op : Int) = 7 := by omega
    have e1 : accX ⟨op, a, b, d⟩ = b := if_pos h7
    have e2 : accR ⟨op, a, b, d⟩ = a := if_pos h7
    rw [e1, e2] at hk
    simp [new_box, app_box, len_box, cell_box, cell_box0, cells_box, cells_box0, store_box, store_box0, cellB_bx, cellsB_bx, storeB_bx, BodyK, resVs, resV, retV, box_all, cast_lit, wrap_1, wrap_2, wrap_3, wrap_4, c_dAccess, vIns, h7']
    exact ⟨_, Inls.tup (xs := [vI b, vI a]) (ys := [vI b, vI a]) ⟨.cell rfl, .cell rfl, trivial⟩, hk⟩
  · have h7' : ¬ (op : Int) = 7 := by omega
    have e1 : accX ⟨op, a, b, d⟩ = a := if_neg h7
    have e2 : accR ⟨op, a, b, d⟩ = b := if_neg h7
    rw [e1, e2] at hk
    simp [new_box, app_box, len_box, cell_box, cell_box0, cells_box, cells_box0, store_box, store_box0, cellB_bx, cellsB_bx, storeB_bx, BodyK, resVs, resV, retV, box_all, cast_lit, wrap_1, wrap_2, wrap_3, wrap_4, c_dAccess, vIns, h7']
    exact ⟨_, Inls.tup (xs := [vI a, vI b]) (ys := [vI a, vI b]) ⟨.cell rfl, .cell rfl, trivial⟩, hk⟩
theorem dAdds_call {c : Ins} (hk : K (vU (addN c)) h) : PCall prog 32 [.agg (vIns c).toArray] h K := by
  refine Pure.go (Pure.one (p := vU (addN c)) rfl fun h => ?_) hk
  refine call_dAdds (by simp) ?_
  obtain ⟨x, hx⟩ : ∃ x, x = accX c := ⟨_, rfl⟩
  obtain ⟨r, hr⟩ : ∃ r, r = accR c := ⟨_, rfl⟩
  have e : addN c = if (c.op = 7 ∨ c.op = 8) ∧ 0 ≤ r ∧ r < 4 then factsN x &&& ofN r.toNat else 0 := by rw [hx, hr]; rfl
  rw [e]
  simp [new_box, app_box, len_box, cell_box, cell_box0, cells_box, cells_box0, store_box, store_box0, cellB_bx, cellsB_bx, storeB_bx, BodyK, resVs, resV, retV, box_all, cast_lit, wrap_1, wrap_2, wrap_3, wrap_4, c_dAdds, vIns]
  refine dAccess_call (c := c) ?_
  rw [← hx, ← hr]
  have tail : (c.op = 7 ∨ c.op = 8) → 0 ≤ r → r < 4 → True := fun _ _ _ => trivial
  by_cases hop : c.op = 7 ∨ c.op = 8
  · by_cases h0 : r < 0
    · rw [if_neg (by omega)]
      rcases hop with h7 | h7
      · have h7' : (c.op : Int) = 7 := by omega
        simp [new_box, app_box, len_box, cell_box, cell_box0, cells_box, cells_box0, store_box, store_box0, cellB_bx, cellsB_bx, storeB_bx, BodyK, resVs, resV, retV, box_all, cast_lit, wrap_1, wrap_2, wrap_3, wrap_4, callK_def, h7, h7', h0]
      · have h7' : (c.op : Int) = 8 := by omega
        simp [new_box, app_box, len_box, cell_box, cell_box0, cells_box, cells_box0, store_box, store_box0, cellB_bx, cellsB_bx, storeB_bx, BodyK, resVs, resV, retV, box_all, cast_lit, wrap_1, wrap_2, wrap_3, wrap_4, callK_def, h7, h7', h0]
    · by_cases h4 : 4 ≤ r
      · rw [if_neg (by omega)]
        rcases hop with h7 | h7
        · have h7' : (c.op : Int) = 7 := by omega
          simp [new_box, app_box, len_box, cell_box, cell_box0, cells_box, cells_box0, store_box, store_box0, cellB_bx, cellsB_bx, storeB_bx, BodyK, resVs, resV, retV, box_all, cast_lit, wrap_1, wrap_2, wrap_3, wrap_4, callK_def, h7, h7', h0, h4]
        · have h7' : (c.op : Int) = 8 := by omega
          simp [new_box, app_box, len_box, cell_box, cell_box0, cells_box, cells_box0, store_box, store_box0, cellB_bx, cellsB_bx, storeB_bx, BodyK, resVs, resV, retV, box_all, cast_lit, wrap_1, wrap_2, wrap_3, wrap_4, callK_def, h7, h7', h0, h4]
      · rw [if_pos ⟨hop, by omega, by omega⟩]
        obtain ⟨n, rfl⟩ : ∃ n : Nat, r = n := ⟨r.toNat, by omega⟩
        have hn : n < 4 := by omega
        have hand : bits .u64 .and (factsN x : Int) (ofN n : Int) = ((factsN x &&& ofN n : Nat) : Int) := bits_and (factsN_lt x) (of_lt hn)
        have htn : ((n : Int)).toNat = n := by omega
        rw [htn]
        rcases hop with h7 | h7
        · have h7' : (c.op : Int) = 7 := by omega
          simp [new_box, app_box, len_box, cell_box, cell_box0, cells_box, cells_box0, store_box, store_box0, cellB_bx, cellsB_bx, storeB_bx, BodyK, resVs, resV, retV, box_all, cast_lit, wrap_1, wrap_2, wrap_3, wrap_4, callK_def, h7, h7', h0, h4]
          refine dFacts_call ?_
          simp [new_box, app_box, len_box, cell_box, cell_box0, cells_box, cells_box0, store_box, store_box0, cellB_bx, cellsB_bx, storeB_bx, BodyK, resVs, resV, retV, box_all, cast_lit, wrap_1, wrap_2, wrap_3, wrap_4, callK_def]
          refine dOf_call hn ?_
          simp [new_box, app_box, len_box, cell_box, cell_box0, cells_box, cells_box0, store_box, store_box0, cellB_bx, cellsB_bx, storeB_bx, BodyK, resVs, resV, retV, box_all, cast_lit, wrap_1, wrap_2, wrap_3, wrap_4, callK_def, hand]
        · have h7' : (c.op : Int) = 8 := by omega
          simp [new_box, app_box, len_box, cell_box, cell_box0, cells_box, cells_box0, store_box, store_box0, cellB_bx, cellsB_bx, storeB_bx, BodyK, resVs, resV, retV, box_all, cast_lit, wrap_1, wrap_2, wrap_3, wrap_4, callK_def, h7, h7', h0, h4]
          refine dFacts_call ?_
          simp [new_box, app_box, len_box, cell_box, cell_box0, cells_box, cells_box0, store_box, store_box0, cellB_bx, cellsB_bx, storeB_bx, BodyK, resVs, resV, retV, box_all, cast_lit, wrap_1, wrap_2, wrap_3, wrap_4, callK_def]
          refine dOf_call hn ?_
          simp [new_box, app_box, len_box, cell_box, cell_box0, cells_box, cells_box0, store_box, store_box0, cellB_bx, cellsB_bx, storeB_bx, BodyK, resVs, resV, retV, box_all, cast_lit, wrap_1, wrap_2, wrap_3, wrap_4, callK_def, hand]
  · rw [if_neg (fun h => hop h.1)]
    have n7 : ¬ (c.op : Int) = 7 := by omega
    have n8 : ¬ (c.op : Int) = 8 := by omega
    have n7' : ¬ c.op = 7 := by omega
    have n8' : ¬ c.op = 8 := by omega
    simp [new_box, app_box, len_box, cell_box, cell_box0, cells_box, cells_box0, store_box, store_box0, cellB_bx, cellsB_bx, storeB_bx, BodyK, resVs, resV, retV, box_all, cast_lit, wrap_1, wrap_2, wrap_3, wrap_4, callK_def, n7, n8, n7', n8']
/-- What an instruction takes away. -/
def orOf (l : List Int) : Nat := l.foldl (fun s r => s ||| ofN r.toNat) 0
def takeN (c : Ins) : Nat := if acqOp c.op = true then big - 1 else orOf (bitsI (setsOf c &&& allN 4)) ||| (if c.op = 8 then factsN c.a else 0)
theorem small_bits {s : Nat} : ∀ x ∈ bitsI (s &&& allN 4), ∃ r : Nat, x = r ∧ r < 4 := by
  intro x hx
  unfold bitsI at hx
  obtain ⟨i, hi, rfl⟩ := List.mem_map.1 hx
  have hb := (List.mem_filter.1 hi).2
  refine ⟨i, rfl, ?_⟩
  rcases Nat.lt_or_ge i 4 with h | h
  · exact h
  · rw [Nat.testBit_and, show allN 4 = 2 ^ 4 - 1 from rfl, Nat.testBit_two_pow_sub_one] at hb
    simp at hb
    omega
theorem orOf_next {l : List Int} {i i1 : Nat} {x : Int} (hx : l[i]? = some x) (hi : i1 = i + 1) : orOf (l.take i1) = orOf (l.take i) ||| ofN x.toNat := by
  rw [hi, List.take_add_one, hx]
  unfold orOf
  rw [List.foldl_append]
  rfl
theorem orOf_lt {l : List Int} (h : ∀ x ∈ l, ∃ r : Nat, x = r ∧ r < 4) : orOf l < big := by
  unfold orOf
  suffices hs : ∀ (l : List Int) (s : Nat), s < big → (∀ x ∈ l, ∃ r : Nat, x = r ∧ r < 4) → l.foldl (fun s r => s ||| ofN r.toNat) s < big from hs l 0 (by decide) h
  intro l
  induction l with
  | nil => intro s hs _; exact hs
  | cons x l ih =>
    intro s hs hl
    refine ih _ (or_lt hs ?_) fun y hy => hl y (List.mem_cons_of_mem _ hy)
    obtain ⟨r, rfl, hr⟩ := hl x (by simp)
    exact of_lt hr
theorem takeN_lt (c : Ins) : takeN c < big := by
  unfold takeN
  split
  · decide
  · refine or_lt (orOf_lt small_bits) ?_
    split
    · exact factsN_lt _
    · decide
theorem dTakes_call {c : Ins} (ho : c.op ≤ 255) (hk : K (vU (takeN c)) h) : PCall prog 33 [.agg (vIns c).toArray] h K := by
  refine Pure.go (Pure.one (p := vU (takeN c)) rfl fun h => ?_) hk
  refine call_dTakes (by simp) ?_
  simp [new_box, app_box, len_box, cell_box, cell_box0, cells_box, cells_box0, store_box, store_box0, cellB_bx, cellsB_bx, storeB_bx, BodyK, resVs, resV, retV, box_all, cast_lit, wrap_1, wrap_2, wrap_3, wrap_4, c_dTakes, vIns]
  refine irAcq_call ho ?_
  cases ha : acqOp c.op with
  | true =>
    have e : takeN c = big - 1 := if_pos ha
    rw [e]
    simp [new_box, app_box, len_box, cell_box, cell_box0, cells_box, cells_box0, store_box, store_box0, cellB_bx, cellsB_bx, storeB_bx, BodyK, resVs, resV, retV, box_all, cast_lit, wrap_1, wrap_2, wrap_3, wrap_4, callK_def]
  | false =>
    obtain ⟨l, hl⟩ : ∃ l, l = bitsI (setsOf c &&& allN 4) := ⟨_, rfl⟩
    have hsm : ∀ x ∈ l, ∃ r : Nat, x = r ∧ r < 4 := by rw [hl]; exact small_bits
    have hll : l.length ≤ 64 := by rw [hl]; exact bitsI_len _
    have e : takeN c = orOf l ||| (if c.op = 8 then factsN c.a else 0) := by unfold takeN; rw [if_neg (by rw [ha]; simp), ← hl]
    rw [e]
    simp [new_box, app_box, len_box, cell_box, cell_box0, cells_box, cells_box0, store_box, store_box0, cellB_bx, cellsB_bx, storeB_bx, BodyK, resVs, resV, retV, box_all, cast_lit, wrap_1, wrap_2, wrap_3, wrap_4, callK_def]
    refine irSets_call (i := c) ho ?_
    simp [new_box, app_box, len_box, cell_box, cell_box0, cells_box, cells_box0, store_box, store_box0, cellB_bx, cellsB_bx, storeB_bx, BodyK, resVs, resV, retV, box_all, cast_lit, wrap_1, wrap_2, wrap_3, wrap_4, callK_def]
    refine All_call (n := 4) (by decide) ?_
    have hand : bits .u64 .and (setsOf c : Int) (allN 4 : Int) = ((setsOf c &&& allN 4 : Nat) : Int) := bits_and (setsOf_lt c) (by decide)
    simp [new_box, app_box, len_box, cell_box, cell_box0, cells_box, cells_box0, store_box, store_box0, cellB_bx, cellsB_bx, storeB_bx, BodyK, resVs, resV, retV, box_all, cast_lit, wrap_1, wrap_2, wrap_3, wrap_4, callK_def, hand]
    refine bList_call (and_lt (setsOf_lt c)) ?_
    rw [← hl]
    simp [new_box, app_box, len_box, cell_box, cell_box0, cells_box, cells_box0, store_box, store_box0, cellB_bx, cellsB_bx, storeB_bx, BodyK, resVs, resV, retV, box_all, cast_lit, wrap_1, wrap_2, wrap_3, wrap_4, callK_def]
    refine loop_l (σ := Nat) (fun k => [(1, ptr h.length), (3, vU (orOf (l.take k))), (13, vL vI l), (14, vI l.length), (15, vI k)]) (fun _ => h ++ [bx (vIns c) 4]) (fun k => k ≤ l.length) (fun k => l.length - k) 0 (by simp [orOf]) rfl (by simp) ?_
    intro k fr hk0
    by_cases hlt : k < l.length
    · obtain ⟨k1, hk1, wk⟩ := wrap_next (show k < lim by unfold lim; omega)
      have hkf : (k : Int) < l.length := by omega
      obtain ⟨x, hx⟩ : ∃ x, l[k]? = some x := ⟨_, List.getElem?_eq_getElem hlt⟩
      obtain ⟨r, rfl, hr⟩ := hsm x (List.mem_of_getElem? hx)
      have hnext := orOf_next hx hk1
      have htn : ((r : Int)).toNat = r := by omega
      rw [htn] at hnext
      have ho1 : orOf (l.take k) < big := orOf_lt fun y hy => hsm y (List.mem_of_mem_take hy)
      obtain ⟨o, hoo⟩ : ∃ o, o = orOf (l.take k) := ⟨_, rfl⟩
      rw [← hoo] at hnext ho1 ⊢
      have hor : bits .u64 .or (o : Int) (ofN r : Int) = ((o ||| ofN r : Nat) : Int) := bits_or ho1 (of_lt hr)
      simp [new_box, app_box, len_box, cell_box, cell_box0, cells_box, cells_box0, store_box, store_box0, cellB_bx, cellsB_bx, storeB_bx, BodyK, resVs, resV, retV, box_all, cast_lit, wrap_1, wrap_2, wrap_3, wrap_4, hkf, hx]
      refine dOf_call hr ?_
      simp [new_box, app_box, len_box, cell_box, cell_box0, cells_box, cells_box0, store_box, store_box0, cellB_bx, cellsB_bx, storeB_bx, BodyK, resVs, resV, retV, box_all, cast_lit, wrap_1, wrap_2, wrap_3, wrap_4, callK_def, hor, wk]
      exact .go k1 (by omega) (by simp [hnext]) rfl (by omega)
    · obtain rfl : k = l.length := by omega
      have hkf : ¬ (l.length : Int) < l.length := by omega
      have ho1 : orOf l < big := orOf_lt hsm
      obtain ⟨o, hoo⟩ : ∃ o, o = orOf l := ⟨_, rfl⟩
      rw [List.take_length, ← hoo]
      rw [← hoo] at ho1
      by_cases h8 : c.op = 8
      · have h8' : (c.op : Int) = 8 := by omega
        have hor : bits .u64 .or (o : Int) (factsN c.a : Int) = ((o ||| factsN c.a : Nat) : Int) := bits_or ho1 (factsN_lt _)
        rw [if_pos h8]
        simp [new_box, app_box, len_box, cell_box, cell_box0, cells_box, cells_box0, store_box, store_box0, cellB_bx, cellsB_bx, storeB_bx, BodyK, resVs, resV, retV, box_all, cast_lit, wrap_1, wrap_2, wrap_3, wrap_4, hkf, vIns, h8']
        refine dFacts_call ?_
        simp [new_box, app_box, len_box, cell_box, cell_box0, cells_box, cells_box0, store_box, store_box0, cellB_bx, cellsB_bx, storeB_bx, BodyK, resVs, resV, retV, box_all, cast_lit, wrap_1, wrap_2, wrap_3, wrap_4, callK_def, hor]
      · have h8' : ¬ (c.op : Int) = 8 := by omega
        rw [if_neg h8]
        simp [new_box, app_box, len_box, cell_box, cell_box0, cells_box, cells_box0, store_box, store_box0, cellB_bx, cellsB_bx, storeB_bx, BodyK, resVs, resV, retV, box_all, cast_lit, wrap_1, wrap_2, wrap_3, wrap_4, hkf, vIns, h8', h8]
end
end Pm
