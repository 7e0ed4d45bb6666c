/- Instructions, by the document: the row of each, the registers.
   No condition: plain lemmas. -/
import Derived.Test.YthpombmecbgchaaZCPmBox
import Derived.Test.YthpombmecbgchaaZCPmIr
import Derived.Test.YthpombmecbgchaaZCPmCfg3
namespace Pm
set_option linter.unusedSimpArgs false
set_option linter.unusedVariables false
open Go Am
open Go.Proofs.Try (prog)

theorem hasB_and {s : Nat} {i : Int} : decide (s &&& bitN i = 0) = !hasB s i := by
  by_cases h : 0 ≤ i ∧ i < 64
  · obtain ⟨n, rfl⟩ : ∃ n : Nat, i = n := ⟨i.toNat, by omega⟩
    rw [hasB_nat (by omega)]
    have e : bitN (n : Int) = 2 ^ n := by simp [bitN]; omega
    have e2 : s &&& 2 ^ n = if s.testBit n then 2 ^ n else 0 := by
      apply Nat.eq_of_testBit_eq
      intro j
      rw [Nat.testBit_and, Nat.testBit_two_pow]
      by_cases hj : n = j
      · subst hj
        cases hb : s.testBit n <;> simp
      · cases hb : s.testBit n <;> simp [hj, Nat.testBit_two_pow]
    rw [e, e2]
    cases s.testBit n with
    | false => simp
    | true =>
      have := Nat.two_pow_pos n
      simp
  · have e : bitN i = 0 := by unfold bitN; rw [if_neg h]
    have e2 : hasB s i = false := by
      unfold hasB
      by_cases h0 : 0 ≤ i
      · have : ¬ i < 64 := fun k => h ⟨h0, k⟩
        simp [this]
      · simp [h0]
    simp [e, e2]
/-- The heap with one list more. -/
theorem one_list {h : Heap} {l : List Int} {cs : List Value} {n k : Nat} (hn : n = l.length) (hk : k = h.length) (hc : cs = l.map vI) : Keeps h.length h (h ++ [bx cs 1]) ∧ AccL vI h.length (h ++ [bx cs 1]) (.slice (some ⟨k, 0, none⟩) n 0) l :=
  ⟨.app, by subst hn hk hc; exact .inr ⟨_, 0, rfl, Nat.le_refl _, by simp [bx], by simp⟩⟩
def rowL (op : Nat) : List Int := (wordsOf op).map fun x : Nat => (x : Int)
section
variable {h : Heap} {K : Value → Heap → Prop}
theorem bHas_call {s : Nat} {i : Int} (hs : s < big) (hk : K (.bool (hasB s i)) h) : PCall prog 24 [vU s, vI i] h K := by
  refine call_bHas (by simp) ?_
  simp [c_bHas]
  refine bit_call ?_
  have e := bits_and hs (bitN_lt i)
  have e2 := hasB_and (s := s) (i := i)
  obtain ⟨x, hx⟩ : ∃ x, x = s &&& bitN i := ⟨_, rfl⟩
  rw [← hx] at e e2
  have e3 : (decide ((x : Int) = 0)) = !hasB s i := by rw [← e2]; by_cases h0 : x = 0 <;> simp [h0]
  have e4 : hasB s i = !decide ((x : Int) = 0) := by rw [e3]; simp
  rw [e4] at hk
  by_cases h0 : (x : Int) = 0
  · simp [callK_def, e, h0, BodyK, resVs, resV, retV] at hk ⊢
    exact hk
  · simp [callK_def, e, h0, BodyK, resVs, resV, retV] at hk ⊢
    exact hk
set_option maxHeartbeats 4000000 in
theorem R2row_pure (op : Nat) : Pure prog 42 [v8 op] (vL vI (rowL op)) := by
  refine Pure.list (fun _ => rfl) fun h => ?_
  refine call_R2row (by simp) ?_
  by_cases h28 : op < 28
  · have hc : op = 0 ∨ op = 1 ∨ op = 2 ∨ op = 3 ∨ op = 4 ∨ op = 5 ∨ op = 6 ∨ op = 7 ∨ op = 8 ∨ op = 9 ∨ op = 10 ∨ op = 11 ∨ op = 12 ∨ op = 13 ∨ op = 14 ∨ op = 15 ∨ op = 16 ∨ op = 17 ∨ op = 18 ∨ op = 19 ∨ op = 20 ∨ op = 21 ∨ op = 22 ∨ op = 23 ∨ op = 24 ∨ op = 25 ∨ op = 26 ∨ op = 27 := by omega
    rcases hc with rfl | rfl | rfl | rfl | rfl | rfl | rfl | rfl | rfl | rfl | rfl | rfl | rfl | rfl | rfl | rfl | rfl | rfl | rfl | rfl | rfl | rfl | rfl | rfl | rfl | rfl | rfl | rfl <;>
    · simp [new_box, app_box, len_box, cell_box, cell_box0, cells_box, cells_box0, store_box, store_box0, cellB_bx, cellsB_bx, storeB_bx, BodyK, resVs, resV, retV, box_all, cast_lit, wrap_1, wrap_2, wrap_3, wrap_4, c_R2row]
      exact one_list (l := [_, _, _]) rfl rfl rfl
  · have hr : rowL op = [0, 0, 0] := by unfold rowL wordsOf; split <;> first | omega | rfl
    rw [hr]
    have n0 : ¬ op = 0 := by omega
    have n1 : ¬ op = 1 := by omega
    have n2 : ¬ op = 2 := by omega
    have n3 : ¬ op = 3 := by omega
    have n4 : ¬ op = 4 := by omega
    have n5 : ¬ op = 5 := by omega
    have n6 : ¬ op = 6 := by omega
    have n7 : ¬ op = 7 := by omega
    have n8 : ¬ op = 8 := by omega
    have n9 : ¬ op = 9 := by omega
    have n10 : ¬ op = 10 := by omega
    have n11 : ¬ op = 11 := by omega
    have n12 : ¬ op = 12 := by omega
    have n13 : ¬ op = 13 := by omega
    have n14 : ¬ op = 14 := by omega
    have n15 : ¬ op = 15 := by omega
    have n16 : ¬ op = 16 := by omega
    have n17 : ¬ op = 17 := by omega
    have n18 : ¬ op = 18 := by omega
    have n19 : ¬ op = 19 := by omega
    have n20 : ¬ op = 20 := by omega
    have n21 : ¬ op = 21 := by omega
    have n22 : ¬ op = 22 := by omega
    have n23 : ¬ op = 23 := by omega
    have n24 : ¬ op = 24 := by omega
    have n25 : ¬ op = 25 := by omega
    have n26 : ¬ op = 26 := by omega
    have n27 : ¬ op = 27 := by omega
    simp [new_box, app_box, len_box, cell_box, cell_box0, cells_box, cells_box0, store_box, store_box0, cellB_bx, cellsB_bx, storeB_bx, BodyK, resVs, resV, retV, box_all, cast_lit, wrap_1, wrap_2, wrap_3, wrap_4, c_R2row, n0, n1, n2, n3, n4, n5, n6, n7, n8, n9, n10, n11, n12, n13, n14, n15, n16, n17, n18, n19, n20, n21, n22, n23, n24, n25, n26, n27]
    exact one_list (l := [_, _, _]) rfl rfl rfl
theorem R2num_pure (i : Ins) : Pure prog 43 [.agg (vIns i).toArray] (vL vI [i.a, i.b, i.c]) := by
  refine Pure.list (fun _ => rfl) fun h => ?_
  refine call_R2num (by simp) ?_
  simp [new_box, app_box, len_box, cell_box, cell_box0, cells_box, cells_box0, store_box, store_box0, cellB_bx, cellsB_bx, storeB_bx, BodyK, resVs, resV, retV, box_all, cast_lit, wrap_1, wrap_2, wrap_3, wrap_4, c_R2num, vIns]
  exact ⟨(Keeps.app (g := [_, _])), .inr ⟨_, 0, rfl, by simp, by simp [bx], by simp⟩⟩
theorem rowL_at {op k : Nat} (hk : k < 3) : (rowL op)[k]? = some (wordAt op k : Int) := by
  have hl : (wordsOf op).length = 3 := by unfold wordsOf; split <;> rfl
  unfold rowL wordAt
  rw [List.getElem?_map, List.getElem?_eq_getElem (by omega)]
  simp
set_option maxHeartbeats 1000000 in
theorem R2of_call {i : Ins} {w : Nat} (hk : K (vU (regsOf w i 3)) h) : PCall prog 83 [.agg (vIns i).toArray, vI w] h K := by
  refine Pure.go (Pure.one (p := vU (regsOf w i 3)) rfl fun h => ?_) hk
  refine call_R2of (by simp) ?_
  simp [c_R2of, vIns]
  have r0 : RowV (Am.newRow h (vIns i) 4) h.length 0 4 (vIns i) := .new
  have hc : ∀ j, (Am.newRow h [v8 i.op, vI i.a, vI i.b, vI i.c] 4).cell? h.length j 0 = (vIns i)[j]? := r0.cell
  have hcs : (Am.newRow h [v8 i.op, vI i.a, vI i.b, vI i.c] 4).cells? h.length 0 0 4 = some (vIns i) := r0.cells rfl
  simp [hc, vIns]
  refine (R2row_pure i.op).go ?_
  simp [callK_def, hcs]
  refine (R2num_pure i).go ?_
  simp [callK_def]
  refine loop_r (σ := Nat) (fun k fr h' => Keeps h.length h h' ∧ fr 1 = vI w ∧ fr 6 = vL vI (rowL i.op) ∧ fr 7 = vL vI [i.a, i.b, i.c] ∧ fr 8 = vI k ∧ k ≤ 3 ∧ fr 5 = vU (regsOf w i k))
    (fun k => 3 - k) ?_ 0 ⟨(Keeps.refl _ _).new (Nat.le_refl _) _ _, by simp, by simp, by simp, by simp, by simp, by simp [regsOf]⟩
  rintro k fr h' ⟨kk, h1, h6, h7, h8, hk3, h5⟩
  by_cases hlt : k < 3
  · obtain ⟨k1, hk1, wk⟩ := wrap_next (show k < lim by simp [lim]; omega)
    have hkf : (k : Int) < 3 := by omega
    have hw := rowL_at (op := i.op) hlt
    obtain ⟨n, hn⟩ : ∃ n, [i.a, i.b, i.c][k]? = some n := ⟨_, List.getElem?_eq_getElem (by simpa using hlt)⟩
    have hs := regsOf_succ w i k
    rw [hn] at hs
    obtain ⟨s, hs0⟩ : ∃ s, s = regsOf w i k := ⟨_, rfl⟩
    have hsl := regsOf_lt w i k
    rw [← hs0] at hs hsl h5
    obtain ⟨wd, hwd⟩ : ∃ x, x = wordAt i.op k := ⟨_, rfl⟩
    rw [← hwd] at hs hw
    by_cases hww : wd = w
    · rw [if_pos hww] at hs
      simp [h1, h5, h6, h7, h8, hkf, hn, hw, hww]
      refine RWith_call (l := [n]) hsl (by simp [lim]) ?_
      have e : withN s [n] = regsOf w i k1 := by rw [hk1, hs]; rfl
      rw [e]
      obtain ⟨s1, hs1⟩ : ∃ x, x = regsOf w i k1 := ⟨_, rfl⟩
      simp [callK_def, h1, h5, h6, h7, h8, ← hs1, wk]
      exact .go k1 (by omega) ⟨kk.trans ⟨by simp, fun j hj => List.getElem?_append_left (by have := kk.1; omega)⟩, by simp [h1], by simp [h6], by simp [h7], by simp, (by omega), by simp [hs1]⟩
    · have hww' : ¬ (wd : Int) = w := by omega
      rw [if_neg hww] at hs
      simp [h1, h5, h6, h7, h8, hkf, hn, hw, hww', wk]
      exact .go k1 (by omega) ⟨kk, by simp [h1], by simp [h6], by simp [h7], by simp, (by omega), by simp [h5, hk1, hs]⟩
  · have : k = 3 := by omega
    subst this
    simp [h8, h5, BodyK, resVs, resV, retV]
    exact kk.ext
theorem R2Sets_call {i : Ins} (hk : K (vU (setsOf i)) h) : PCall prog 62 [.agg (vIns i).toArray] h K := by
  refine Pure.go (Pure.one (p := vU (setsOf i)) rfl fun h => ?_) hk
  refine call_R2Sets (by simp) ?_
  simp [new_box, app_box, len_box, cell_box, cell_box0, cells_box, cells_box0, store_box, store_box0, cellB_bx, cellsB_bx, storeB_bx, BodyK, resVs, resV, retV, box_all, cast_lit, wrap_1, wrap_2, wrap_3, wrap_4, c_R2Sets, vIns]
  refine R2of_call (i := i) (w := 2) ?_
  simp [new_box, app_box, len_box, cell_box, cell_box0, cells_box, cells_box0, store_box, store_box0, cellB_bx, cellsB_bx, storeB_bx, BodyK, resVs, resV, retV, box_all, cast_lit, wrap_1, wrap_2, wrap_3, wrap_4, callK_def, setsOf]
end
end Pm
