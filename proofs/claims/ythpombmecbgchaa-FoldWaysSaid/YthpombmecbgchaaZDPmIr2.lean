/- Instructions, by the document: the row of each, the registers.
   No condition: plain lemmas. -/
import Derived.Test.YthpombmecbgchaaZDPmBox
import Derived.Test.YthpombmecbgchaaZDPmIr
import Derived.Test.YthpombmecbgchaaZDPmCfg3
namespace Pm
set_option linter.unusedSimpArgs false
set_option linter.unusedVariables false
open Go Am
open Go.Proofs.Try (prog)

theorem hasB_and {s : Nat} {i : Int} : decide (s &&& bitN i = 0) = !hasB s i := by
  by_cases h : 0 ≤ i ∧ i < 64
  · obtain ⟨n, rfl⟩ : ∃ n : Nat, i = n := ⟨i.toNat, by omega⟩
    rw [hasB_nat (by omega)]
    have e : bitN (n : Int) = 2 ^ n := by simp [bitN]; omega
    have e2 : s &&& 2 ^ n = if s.testBit n then 2 ^ n else 0 := by
      apply Nat.eq_of_testBit_eq
      intro j
      rw [Nat.testBit_and, Nat.testBit_two_pow]
      by_cases hj : n = j
      · subst hj
        cases hb : s.testBit n <;> simp
      · cases hb : s.testBit n <;> simp [hj, Nat.testBit_two_pow]
    rw [e, e2]
    cases s.testBit n with
    | false => simp
    | true =>
      have := Nat.two_pow_pos n
      simp
  · have e : bitN i = 0 := by unfold bitN; rw [if_neg h]
    have e2 : hasB s i = false := by
      unfold hasB
      by_cases h0 : 0 ≤ i
      · have : ¬ i < 64 := fun k => h ⟨h0, k⟩
        simp [this]
      · simp [h0]
    simp [e, e2]
section
variable {h : Heap} {K : Value → Heap → Prop}
theorem bHas_call {s : Nat} {i : Int} (hs : s < big) (hk : K (.bool (hasB s i)) h) : PCall prog 24 [vU s, vI i] h K := by
  refine call_bHas (by simp) ?_
  simp [c_bHas]
  refine bit_call ?_
  have e := bits_and hs (bitN_lt i)
  have e2 := hasB_and (s := s) (i := i)
  obtain ⟨x, hx⟩ : ∃ x, x = s &&& bitN i := ⟨_, rfl⟩
  rw [← hx] at e e2
  have e3 : (decide ((x : Int) = 0)) = !hasB s i := by rw [← e2]; by_cases h0 : x = 0 <;> simp [h0]
  have e4 : hasB s i = !decide ((x : Int) = 0) := by rw [e3]; simp
  rw [e4] at hk
  by_cases h0 : (x : Int) = 0
  · simp [callK_def, e, h0, BodyK, resVs, resV, retV] at hk ⊢
    exact hk
  · simp [callK_def, e, h0, BodyK, resVs, resV, retV] at hk ⊢
    exact hk
end
end Pm
