/- The abstract machine: the numbers of a set, one behind the other.
   No condition: plain lemmas. -/
import Derived.Test.YthpombmecbgchaaDoorZLAmTz
import Derived.Test.YthpombmecbgchaaDoorZLAmRange3
import Derived.Test.YthpombmecbgchaaDoorZLAmRep
import Derived.Test.YthpombmecbgchaaDoorZLAmBits
namespace Am
set_option linter.unusedSimpArgs false
set_option linter.unusedVariables false
open Go
open Go.Proofs.Tryd (prog)

def each1B : AC :=
 (.seq (.seq (.ops [⟨(some 3), none, .q (.load (.tmp 1)), []⟩,
 ⟨(some 4), none, .q (.bin .neq (.tmp 3) (.const (.int .u64 0))), []⟩])
 (.cond (.tmp 4)
 .skip
 (.exit 0)))
 (.seq (.block 1 (.seq (.ops [⟨(some 9), none, .q (.val (.tmp 0)), []⟩,
 ⟨(some 10), none, .q (.load (.tmp 1)), []⟩,
 ⟨(some 11), none, .call 73 [(.tmp 10)], []⟩,
 ⟨(some 12), none, .callv (.tmp 9) [(.tmp 11)], []⟩,
 ⟨(some 13), none, .q (.not (.tmp 12)), []⟩])
 (.cond (.tmp 13)
 .ret
 .skip)))
 (.ops [⟨(some 5), none, .q (.load (.tmp 1)), []⟩,
 ⟨(some 6), none, .q (.load (.tmp 1)), []⟩,
 ⟨(some 7), none, .q (.bin .sub (.tmp 6) (.const (.int .u64 1))), []⟩,
 ⟨(some 8), none, .q (.bin .and (.tmp 5) (.tmp 7)), []⟩,
 ⟨none, none, .e (.store 1 (.tmp 1) (.tmp 8)), []⟩])))
def c_each1 : AC := .block 0 (.loop each1B)
abbrev uB (s : Nat) : Ob := .row ⟨[.int .u64 s], 1, 0, true⟩
theorem ldV_box {H : Heap} {b s : Nat} (h : H[b]? = some (uB s)) : ldV H (.pointer (some ⟨b, 0, some 0⟩)) = some (.int .u64 s) := by
  simp [ldV, Heap.cell?, Heap.row?, h]
theorem storeV_box {H : Heap} {b s t : Nat} (h : H[b]? = some (uB s)) : storeV H 1 (.pointer (some ⟨b, 0, some 0⟩)) (.int .u64 t) = some (H.set b (uB t)) := by
  simp [storeV, Heap.row?, h, cellsOf, setAll]
theorem sub_and {s : Nat} (h0 : s ≠ 0) (h : s < 18446744073709551616) : binV .sub (.int .u64 s) (.int .u64 1) = some (.int .u64 ((s - 1 : Nat) : Int)) := by
  have : IntKind.u64.wrap ((s : Int) - 1) = ((s - 1 : Nat) : Int) := by rw [wrap_u64 (by omega) (by omega)]; omega
  simp [binV, isSh, binI, this]
theorem and_u64 {a b : Nat} (ha : a < 18446744073709551616) (hb : b < 18446744073709551616) : binV .and (.int .u64 a) (.int .u64 b) = some (.int .u64 ((a &&& b : Nat) : Int)) := by
  simp [bits_and ha hb]

theorem each1_call {l : Nat} {Y : YSem} (I : Nat → Heap → Prop) (X : Code → Heap → Prop) {b : Nat}
    (hbox : ∀ s H, I s H → s < 18446744073709551616 ∧ H[b]? = some (uB s))
    (hround : ∀ s H K, I s H → s ≠ 0 → (∀ H', H'[b]? = some (uB s) → I (s &&& (s - 1)) (H'.set b (uB (s &&& (s - 1)))) → K none H') → (∀ c H', X c H' → K (some c) H') → Y [.int .i64 (Go.Lib.ctz 64 s)] H K)
    {s : Nat} {H : Heap} (h0 : I s H) : CallY prog l Y 72 [.func (.yield l) #[] #[], .pointer (some ⟨b, 0, some 0⟩)] H fun st H' => match st with | none => I 0 H' | some c => X c H' := by
  refine cally_of (x := c_each1) Go.Proofs.Tryd.func72 rfl rfl (by kernel_rfl) rfl (by show 2 ≤ 14; decide) ?_
  obtain ⟨Q, hQ⟩ : ∃ Q : LPost, Q = BodyY fun st H' => match st with | none => I 0 H' | some c => X c H' := ⟨_, rfl⟩
  rw [← hQ]
  have key : ∀ (n s : Nat) (H : Heap) (fr : Fr), s < n → I s H → fr 0 = .func (.yield l) #[] #[] → fr 1 = .pointer (some ⟨b, 0, some 0⟩) → roundsY (ywp prog l Y each1B) (blockY 0 Q) n none fr H := by
    intro n
    induction n with
    | zero => intro s H fr h; omega
    | succ n ih =>
      intro s H fr hs hI f0 f1
      obtain ⟨hlt, hb⟩ := hbox s H hI
      have hl := ldV_box hb
      show ywp prog l Y each1B (seqY (roundsY (ywp prog l Y each1B) (blockY 0 Q) n) (blockY 0 Q)) none fr H
      generalize roundsY (ywp prog l Y each1B) (blockY 0 Q) n = R at ih ⊢
      by_cases h0 : s = 0
      · subst h0
        have hn : binV .neq (.int .u64 ((0 : Nat) : Int)) (.int .u64 0) = some (.bool false) := rfl
        simp [each1B, ywp, yOps, seqY, blockY, condK, f1, hl]
        rw [hQ]
        exact hI
      · have h0' : ¬ (s : Int) = 0 := by omega
        simp [each1B, ywp, yOps, seqY, blockY, condK, f1, hl, h0, h0']
        refine tz_call hlt ?_
        simp [callK_def, f0, f1]
        refine hround s H _ hI h0 (fun H' hb' hI' => ?_) (fun c H' hX => ?_)
        · have hc' : H'.cell? b 0 0 = some (.int .u64 s) := ldV_box hb'
          have hlt1 : s - 1 < 18446744073709551616 := by omega
          have hst := storeV_box (t := s &&& (s - 1)) hb'
          have hsub := sub_and h0 hlt
          have hand := and_u64 hlt hlt1
          rw [binV_sub] at hsub
          rw [binV_and] at hand
          simp only [Option.some.injEq, Value.int.injEq, true_and] at hsub hand
          have hl' : ldV H' (.pointer (some ⟨b, 0, some 0⟩)) = some (.int .u64 s) := hc'
          simp [hc', hl', f0, f1, hsub, hand, hst]
          refine ih _ _ _ ?_ hI' (by simp [f0]) (by simp [f1])
          have : s &&& (s - 1) ≤ s - 1 := Nat.and_le_right
          omega
        · simp
          rw [hQ]
          exact hX
  exact ⟨s + 1, key (s + 1) s H _ (by omega) h0 rfl rfl⟩
end Am
