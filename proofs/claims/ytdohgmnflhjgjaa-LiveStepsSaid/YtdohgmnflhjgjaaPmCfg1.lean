/- Graphs, the document's answer: rows compared, the way back, what is come to.
   No condition: plain lemmas. -/
import Derived.Test.YtdohgmnflhjgjaaPmCfgA
import Derived.Test.YtdohgmnflhjgjaaPmCfgC
namespace Pm
set_option linter.unusedSimpArgs false
set_option linter.unusedVariables false
open Go Am
open Go.Proofs.Try (prog)

theorem wrap_succ {i : Nat} (h : i < lim) : IntKind.i64.wrap ((i : Int) + 1) = ((i + 1 : Nat) : Int) := wrap_i64 (by omega) (by simp [lim] at h; omega)

theorem wrap_next {i : Nat} (h : i < lim) : ∃ j : Nat, j = i + 1 ∧ IntKind.i64.wrap ((i : Int) + 1) = (j : Int) := ⟨i + 1, rfl, wrap_succ h⟩

/-- Up to a place two lists are alike. -/
theorem same_step {α : Type} {a b : List α} {i : Nat} (h : a.take i = b.take i) (h1 : i < a.length) (h2 : i < b.length) : a.take (i + 1) = b.take (i + 1) ↔ a[i] = b[i] := by
  rw [show b.take (i + 1) = b.take i ++ [b[i]] from (List.take_append_getElem h2).symm, ← List.take_append_getElem h1, h]
  simp only [List.append_right_inj, List.cons.injEq, and_true]

section
variable {h : Heap} {K : Value → Heap → Prop}
theorem RSame01_call {a b : List Int} (hl : a.length < lim) (hk : K (.bool (decide (a = b))) h) : PCall prog 33 [vL vI a, vL vI b] h K := by
  refine call_RSame01 (by simp) ?_
  by_cases hab : a.length = b.length
  · simp [c_RSame01, enterF, hab]
    refine loop_rule (fun n fr h' => h' = h ∧ fr 0 = vL vI a ∧ fr 1 = vL vI b ∧ ∃ i : Nat, fr 5 = vI i ∧ n = a.length - i ∧ i ≤ a.length ∧ a.take i = b.take i) ?_ (n := a.length) ⟨rfl, by simp [enterF], by simp [enterF], 0, by simp⟩
    rintro n fr h' ⟨rfl, h0, h1, i, h5, rfl, hi, ht⟩
    by_cases hlt : i < a.length
    · have hlt' : i < b.length := by omega
      by_cases he : a[i] = b[i]
      · simp [h0, h1, h5, hlt, hlt', he, wrap_succ (show i < lim by omega)]
        exact ⟨_, by omega, i + 1, by simp, rfl, by omega, (same_step ht hlt hlt').2 he⟩
      · simp [h0, h1, h5, hlt, hlt', he, BodyK, resVs, resV, retV]
        have hne : ¬ a = b := fun e => he (by subst e; rfl)
        simpa [hne] using hk
    · have hab' : a = b := by
        rw [List.take_of_length_le (by omega), List.take_of_length_le (by omega)] at ht; exact ht
      simp [h0, h1, h5, hlt, BodyK, resVs, resV, retV]
      simpa [hab'] using hk
  · have hab' : ¬ a = b := fun e => hab (by rw [e])
    have hab2 : ¬ (a.length : Int) = b.length := by omega
    simp [c_RSame01, enterF, hab, hab2, BodyK, resVs, resV, retV]
    simpa [hab'] using hk
theorem bools_call {a b : List Bool} (hl : a.length < lim) (hk : K (.bool (decide (a = b))) h) : PCall prog 50 [vL vB a, vL vB b] h K := by
  refine call_bools (by simp) ?_
  by_cases hab : a.length = b.length
  · simp [c_bools, enterF, hab]
    refine loop_rule (fun n fr h' => h' = h ∧ fr 0 = vL vB a ∧ fr 1 = vL vB b ∧ ∃ i : Nat, fr 5 = vI i ∧ n = a.length - i ∧ i ≤ a.length ∧ a.take i = b.take i) ?_ (n := a.length) ⟨rfl, by simp [enterF], by simp [enterF], 0, by simp⟩
    rintro n fr h' ⟨rfl, h0, h1, i, h5, rfl, hi, ht⟩
    by_cases hlt : i < a.length
    · have hlt' : i < b.length := by omega
      by_cases he : a[i] = b[i]
      · simp [h0, h1, h5, hlt, hlt', he, wrap_succ (show i < lim by omega)]
        exact ⟨_, by omega, i + 1, by simp, rfl, by omega, (same_step ht hlt hlt').2 he⟩
      · have he' : (a[i] != b[i]) = true := by simpa using he
        simp [h0, h1, h5, hlt, hlt', he', BodyK, resVs, resV, retV]
        have hne : ¬ a = b := fun e => he (by subst e; rfl)
        simpa [hne] using hk
    · have hab' : a = b := by
        rw [List.take_of_length_le (by omega), List.take_of_length_le (by omega)] at ht; exact ht
      simp [h0, h1, h5, hlt, BodyK, resVs, resV, retV]
      simpa [hab'] using hk
  · have hab' : ¬ a = b := fun e => hab (by rw [e])
    have hab2 : ¬ (a.length : Int) = b.length := by omega
    simp [c_bools, enterF, hab, hab2, BodyK, resVs, resV, retV]
    simpa [hab'] using hk
theorem sets_call {a b : List Nat} (hl : a.length < lim) (hk : K (.bool (decide (a = b))) h) : PCall prog 52 [vL vU a, vL vU b] h K := by
  refine call_sets (by simp) ?_
  by_cases hab : a.length = b.length
  · simp [c_sets, enterF, hab]
    refine loop_rule (fun n fr h' => h' = h ∧ fr 0 = vL vU a ∧ fr 1 = vL vU b ∧ ∃ i : Nat, fr 5 = vI i ∧ n = a.length - i ∧ i ≤ a.length ∧ a.take i = b.take i) ?_ (n := a.length) ⟨rfl, by simp [enterF], by simp [enterF], 0, by simp⟩
    rintro n fr h' ⟨rfl, h0, h1, i, h5, rfl, hi, ht⟩
    by_cases hlt : i < a.length
    · have hlt' : i < b.length := by omega
      by_cases he : a[i] = b[i]
      · simp [h0, h1, h5, hlt, hlt', he, wrap_succ (show i < lim by omega)]
        exact ⟨_, by omega, i + 1, by simp, rfl, by omega, (same_step ht hlt hlt').2 he⟩
      · have he' : ¬ (a[i] : Int) = b[i] := by omega
        simp [h0, h1, h5, hlt, hlt', he', BodyK, resVs, resV, retV]
        have hne : ¬ a = b := fun e => he (by subst e; rfl)
        simpa [hne] using hk
    · have hab' : a = b := by
        rw [List.take_of_length_le (by omega), List.take_of_length_le (by omega)] at ht; exact ht
      simp [h0, h1, h5, hlt, BodyK, resVs, resV, retV]
      simpa [hab'] using hk
  · have hab' : ¬ a = b := fun e => hab (by rw [e])
    have hab2 : ¬ (a.length : Int) = b.length := by omega
    simp [c_sets, enterF, hab, hab2, BodyK, resVs, resV, retV]
    simpa [hab'] using hk
theorem RSame10_call {a b : List (List Int)} (hl : a.length < lim) (hll : ∀ l ∈ a, l.length < lim) (hk : K (.bool (decide (a = b))) h) : PCall prog 48 [vL (vL vI) a, vL (vL vI) b] h K := by
  refine call_RSame10 (by simp) ?_
  by_cases hab : a.length = b.length
  · simp [c_RSame10, enterF, hab]
    refine loop_rule (fun n fr h' => h' = h ∧ fr 0 = vL (vL vI) a ∧ fr 1 = vL (vL vI) b ∧ ∃ i : Nat, fr 5 = vI i ∧ n = a.length - i ∧ i ≤ a.length ∧ a.take i = b.take i) ?_ (n := a.length) ⟨rfl, by simp [enterF], by simp [enterF], 0, by simp⟩
    rintro n fr h' ⟨rfl, h0, h1, i, h5, rfl, hi, ht⟩
    by_cases hlt : i < a.length
    · have hlt' : i < b.length := by omega
      simp [h0, h1, h5, hlt, hlt']
      refine RSame01_call (hll _ (List.getElem_mem hlt)) ?_
      by_cases he : a[i] = b[i]
      · simp [callK_def, h0, h1, h5, he, wrap_succ (show i < lim by omega)]
        exact ⟨_, by omega, i + 1, by simp, rfl, by omega, (same_step ht hlt hlt').2 he⟩
      · simp [callK_def, h0, h1, h5, he, BodyK, resVs, resV, retV]
        have hne : ¬ a = b := fun e => he (by subst e; rfl)
        simpa [hne] using hk
    · have hab' : a = b := by
        rw [List.take_of_length_le (by omega), List.take_of_length_le (by omega)] at ht; exact ht
      simp [h0, h1, h5, hlt, BodyK, resVs, resV, retV]
      simpa [hab'] using hk
  · have hab' : ¬ a = b := fun e => hab (by rw [e])
    have hab2 : ¬ (a.length : Int) = b.length := by omega
    simp [c_RSame10, enterF, hab, hab2, BodyK, resVs, resV, retV]
    simpa [hab'] using hk

theorem backs_if {s : List (List Int)} {k i : Nat} (hk : k < s.length) : backs s (k + 1) i = if (i : Int) ∈ s[k] then backs s k i ++ [(k : Int)] else backs s k i := by
  have hn : nexts s k = s[k] := by simp [nexts, hk]
  unfold backs
  rw [List.range_succ, List.filter_append, List.map_append]
  by_cases h : (i : Int) ∈ s[k]
  · simp [hn, h]
  · simp [hn, h]
theorem RPreds_call {s : List (List Int)} (hl : s.length < lim) (hll : ∀ l ∈ s, l.length ≤ lim) (hk : K (vL (vL vI) (preds s)) h) : PCall prog 49 [vL (vL vI) s] h K := by
  refine Pure.go (Pure.list (f := vL vI) (l := preds s) (by simp) fun h => ?_) hk
  refine call_RPreds (by simp) ?_
  simp [c_RPreds, enterF]
  refine loop_rule (fun n fr h' => fr 0 = vL (vL vI) s ∧ ∃ (i : Nat), fr 4 = vI i ∧ n = s.length - i ∧ i ≤ s.length ∧ AccL (vL vI) h.length h' (fr 3) ((preds s).take i) ∧ Keeps h.length h h') ?_ (n := s.length) ⟨by simp [enterF], 0, by simp, by simp, by simp, by simpa using AccL.nil, .refl _ _⟩
  rintro n fr h' ⟨h0, i, h4, rfl, hi, ha, hkp⟩
  obtain ⟨out, hout⟩ : ∃ out, out = (preds s).take i := ⟨_, rfl⟩
  rw [← hout] at ha
  have hol : out.length = i := by rw [hout]; simp [preds_len]; omega
  by_cases hlt : i < s.length
  · simp [h0, h4, hlt]
    refine loop_rule (fun n fr h' => fr 0 = vL (vL vI) s ∧ fr 4 = vI i ∧ AccL (vL vI) h.length h' (fr 3) out ∧ Keeps h.length h h' ∧ ∃ (k : Nat), fr 6 = vI k ∧ n = s.length - k ∧ k ≤ s.length ∧ AccL vI h.length h' (fr 5) (backs s k i) ∧ Apart (fr 5) (fr 3)) ?_ (n := s.length) ?_
    · rintro n fr h' ⟨h0, h4, ha, hkp, k, h6, rfl, hk, hb, hap⟩
      by_cases hlt' : k < s.length
      · simp [h0, h4, h6, hlt']
        refine has_call (hll _ (List.getElem_mem hlt')) ?_
        by_cases hm : (i : Int) ∈ s[k]
        · simp [callK_def, h0, h4, h6, hm]
          refine hb.push hkp.1 (by have := backs_len s k i; omega) fun v' h'' q1 q2 q3 q4 => ?_
          simp [h0, h4, h6, wrap_succ (show k < lim by omega)]
          exact ⟨_, by omega, Acc.keep ha (fun i hi => q3 i (Acc.lt ha hi) (hap.symm i hi)), hkp.trans q2, k + 1, by simp, rfl, by omega, by rw [backs_if hlt', if_pos hm]; exact q1, fun i h1 h2 => (q4 i h1).elim (fun x => hap i x h2) (fun x => by have := Acc.lt ha h2; omega)⟩
        · simp [callK_def, h0, h4, h6, hm, wrap_succ (show k < lim by omega)]
          exact ⟨_, by omega, ha, hkp, k + 1, by simp, rfl, by omega, by rw [backs_if hlt', if_neg hm]; exact hb, hap⟩
      · simp [h0, h4, h6, hlt']
        refine hb.frz (by simp) fun h'' q1 q2 q3 => ?_
        simp [h0, h4, h6]
        have ha' : AccL (vL vI) h.length h'' (fr 3) out := Acc.keep ha fun i hi => q3 i (hap.symm i hi)
        refine ha'.push (hkp.trans q1).1 (by omega) fun v' h3 q1' q2' _ _ => ?_
        simp [h0, h4, h6, wrap_succ (show i < lim by omega)]
        have hk' : k = s.length := by omega
        refine ⟨_, by omega, i + 1, by simp, rfl, by omega, ?_, hkp.trans (q1.trans q2')⟩
        rw [hout, hk'] at q1'
        rw [← List.take_append_getElem (by rw [preds_len]; exact hlt)]
        have e : (preds s)[i]'(by rw [preds_len]; exact hlt) = backs s s.length i := by simp [preds]
        rw [e]; exact q1'
    · simp
      exact ⟨h0, h4, ha, hkp, 0, by simp, by simp, by simp, by simpa [backs] using AccL.nil, .nil⟩
  · simp [h0, h4, hlt, BodyK, resVs, resV, retV]
    refine ⟨hkp, ?_⟩
    rw [hout, List.take_of_length_le (by rw [preds_len]; omega)] at ha
    exact ha
end
end Pm
