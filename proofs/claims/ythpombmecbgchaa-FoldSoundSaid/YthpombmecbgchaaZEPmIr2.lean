/- Instructions, by the document: the row of each, the registers.
   No condition: plain lemmas. -/
import Derived.Test.YthpombmecbgchaaZEPmBox
import Derived.Test.YthpombmecbgchaaZEPmIr
import Derived.Test.YthpombmecbgchaaZEPmCfg3
namespace Pm
set_option linter.unusedSimpArgs false
set_option linter.unusedVariables false
open Go Am
open Go.Proofs.Try (prog)

theorem hasB_and {s : Nat} {i : Int} : decide (s &&& bitN i = 0) = !hasB s i := by
  by_cases h : 0 ≤ i ∧ i < 64
  · obtain ⟨n, rfl⟩ : ∃ n : Nat, i = n := ⟨i.toNat, by omega⟩
    rw [hasB_nat (by omega)]
    have e : bitN (n : Int) = 2 ^ n := by simp [bitN]; omega
    have e2 : s &&& 2 ^ n = if s.testBit n then 2 ^ n else 0 := by
      apply Nat.eq_of_testBit_eq
      intro j
      rw [Nat.testBit_and, Nat.testBit_two_pow]
      by_cases hj : n = j
      · subst hj
        cases hb : s.testBit n <;> simp
      · cases hb : s.testBit n <;> simp [hj, Nat.testBit_two_pow]
    rw [e, e2]
    cases s.testBit n with
    | false => simp
    | true =>
      have := Nat.two_pow_pos n
      simp
  · have e : bitN i = 0 := by unfold bitN; rw [if_neg h]
    have e2 : hasB s i = false := by
      unfold hasB
      by_cases h0 : 0 ≤ i
      · have : ¬ i < 64 := fun k => h ⟨h0, k⟩
        simp [this]
      · simp [h0]
    simp [e, e2]
/-- The heap with one list more. -/
theorem one_list {h : Heap} {l : List Int} {cs : List Value} {n k : Nat} (hn : n = l.length) (hk : k = h.length) (hc : cs = l.map vI) : Keeps h.length h (h ++ [bx cs 1]) ∧ AccL vI h.length (h ++ [bx cs 1]) (.slice (some ⟨k, 0, none⟩) n 0) l :=
  ⟨.app, by subst hn hk hc; exact .inr ⟨_, 0, rfl, Nat.le_refl _, by simp [bx], by simp⟩⟩
def rowL (op : Nat) : List Int := (wordsOf op).map fun x : Nat => (x : Int)
section
variable {h : Heap} {K : Value → Heap → Prop}
theorem bHas_call {s : Nat} {i : Int} (hs : s < big) (hk : K (.bool (hasB s i)) h) : PCall prog 24 [vU s, vI i] h K := by
  refine call_bHas (by simp) ?_
  simp [c_bHas]
  refine bit_call ?_
  have e := bits_and hs (bitN_lt i)
  have e2 := hasB_and (s := s) (i := i)
  obtain ⟨x, hx⟩ : ∃ x, x = s &&& bitN i := ⟨_, rfl⟩
  rw [← hx] at e e2
  have e3 : (decide ((x : Int) = 0)) = !hasB s i := by rw [← e2]; by_cases h0 : x = 0 <;> simp [h0]
  have e4 : hasB s i = !decide ((x : Int) = 0) := by rw [e3]; simp
  rw [e4] at hk
  by_cases h0 : (x : Int) = 0
  · simp [callK_def, e, h0, BodyK, resVs, resV, retV] at hk ⊢
    exact hk
  · simp [callK_def, e, h0, BodyK, resVs, resV, retV] at hk ⊢
    exact hk
set_option maxHeartbeats 4000000 in
theorem R2row_pure (op : Nat) : Pure prog 42 [v8 op] (vL vI (rowL op)) := by
  refine Pure.list (fun _ => rfl) fun h => ?_
  refine call_R2row (by simp) ?_
  by_cases h28 : op < 28
  · have hc : op = 0 ∨ op = 1 ∨ op = 2 ∨ op = 3 ∨ op = 4 ∨ op = 5 ∨ op = 6 ∨ op = 7 ∨ op = 8 ∨ op = 9 ∨ op = 10 ∨ op = 11 ∨ op = 12 ∨ op = 13 ∨ op = 14 ∨ op = 15 ∨ op = 16 ∨ op = 17 ∨ op = 18 ∨ op = 19 ∨ op = 20 ∨ op = 21 ∨ op = 22 ∨ op = 23 ∨ op = 24 ∨ op = 25 ∨ op = 26 ∨ op = 27 := by omega
    rcases hc with rfl | rfl | rfl | rfl | rfl | rfl | rfl | rfl | rfl | rfl | rfl | rfl | rfl | rfl | rfl | rfl | rfl | rfl | rfl | rfl | rfl | rfl | rfl | rfl | rfl | rfl | rfl | rfl <;>
    · simp [new_box, app_box, len_box, cell_box, cell_box0, cells_box, cells_box0, store_box, store_box0, cellB_bx, cellsB_bx, storeB_bx, BodyK, resVs, resV, retV, box_all, cast_lit, wrap_1, wrap_2, wrap_3, wrap_4, c_R2row]
      exact one_list (l := [_, _, _]) rfl rfl rfl
  · have hr : rowL op = [0, 0, 0] := by unfold rowL wordsOf; split <;> first | omega | rfl
    rw [hr]
    have n0 : ¬ op = 0 := by omega
    have n1 : ¬ op = 1 := by omega
    have n2 : ¬ op = 2 := by omega
    have n3 : ¬ op = 3 := by omega
    have n4 : ¬ op = 4 := by omega
    have n5 : ¬ op = 5 := by omega
    have n6 : ¬ op = 6 := by omega
    have n7 : ¬ op = 7 := by omega
    have n8 : ¬ op = 8 := by omega
    have n9 : ¬ op = 9 := by omega
    have n10 : ¬ op = 10 := by omega
    have n11 : ¬ op = 11 := by omega
    have n12 : ¬ op = 12 := by omega
    have n13 : ¬ op = 13 := by omega
    have n14 : ¬ op = 14 := by omega
    have n15 : ¬ op = 15 := by omega
    have n16 : ¬ op = 16 := by omega
    have n17 : ¬ op = 17 := by omega
    have n18 : ¬ op = 18 := by omega
    have n19 : ¬ op = 19 := by omega
    have n20 : ¬ op = 20 := by omega
    have n21 : ¬ op = 21 := by omega
    have n22 : ¬ op = 22 := by omega
    have n23 : ¬ op = 23 := by omega
    have n24 : ¬ op = 24 := by omega
    have n25 : ¬ op = 25 := by omega
    have n26 : ¬ op = 26 := by omega
    have n27 : ¬ op = 27 := by omega
    simp [new_box, app_box, len_box, cell_box, cell_box0, cells_box, cells_box0, store_box, store_box0, cellB_bx, cellsB_bx, storeB_bx, BodyK, resVs, resV, retV, box_all, cast_lit, wrap_1, wrap_2, wrap_3, wrap_4, c_R2row, n0, n1, n2, n3, n4, n5, n6, n7, n8, n9, n10, n11, n12, n13, n14, n15, n16, n17, n18, n19, n20, n21, n22, n23, n24, n25, n26, n27]
    exact one_list (l := [_, _, _]) rfl rfl rfl
theorem R2num_pure (i : Ins) : Pure prog 43 [.agg (vIns i).toArray] (vL vI [i.a, i.b, i.c]) := by
  refine Pure.list (fun _ => rfl) fun h => ?_
  refine call_R2num (by simp) ?_
  simp [new_box, app_box, len_box, cell_box, cell_box0, cells_box, cells_box0, store_box, store_box0, cellB_bx, cellsB_bx, storeB_bx, BodyK, resVs, resV, retV, box_all, cast_lit, wrap_1, wrap_2, wrap_3, wrap_4, c_R2num, vIns]
  exact ⟨(Keeps.app (g := [_, _])), .inr ⟨_, 0, rfl, by simp, by simp [bx], by simp⟩⟩
theorem rowL_at {op k : Nat} (hk : k < 3) : (rowL op)[k]? = some (wordAt op k : Int) := by
  have hl : (wordsOf op).length = 3 := by unfold wordsOf; split <;> rfl
  unfold rowL wordAt
  rw [List.getElem?_map, List.getElem?_eq_getElem (by omega)]
  simp
end
end Pm
