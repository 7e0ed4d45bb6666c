/- Graphs: a node is a next one of those, and only those, of which it is told.
   No condition: plain lemmas. -/
import Derived.Test.YtjddnmjmaalcgaaAmPreds
import Derived.Test.YtjddnmjmaalcgaaAmCfgK
namespace Am
set_option linter.unusedSimpArgs false
set_option linter.unusedVariables false
open Go
open Go.Proofs.Try (prog)

theorem backs_rise (s : List (List Int)) (n j : Nat) {a b : Nat} {x y : Int} (hab : a < b) (ha : (backs s n j)[a]? = some x) (hb : (backs s n j)[b]? = some y) : x < y := by
  have h1 : (((List.range n).filter fun a => decide ((j : Int) ∈ nexts s a)).map Int.ofNat).Pairwise (· < ·) := by
    rw [List.pairwise_map]
    refine List.Pairwise.imp ?_ (List.Pairwise.filter _ List.pairwise_lt_range)
    intro a b h
    exact Int.ofNat_lt.2 h
  have h2 := List.pairwise_iff_getElem.1 h1 a b (List.getElem?_eq_some_iff.1 ha).1 (List.getElem?_eq_some_iff.1 hb).1 hab
  have e1 := (List.getElem?_eq_some_iff.1 ha).2
  have e2 := (List.getElem?_eq_some_iff.1 hb).2
  unfold backs at e1 e2
  rw [← e1, ← e2]; exact h2

/-- A number of a byte, by so many. -/
theorem u8_mod {a n : Nat} (ha : a ≤ 255) (hn : 0 < n) : (IntKind.i64.wrap (a : Int)).tmod (n : Int) = ((a % n : Nat) : Int) := by
  rw [wrap_i64 (by omega) (by omega), Int.tmod_eq_emod_of_nonneg (by omega)]; rfl

theorem len_le_sum {s : List (List Int)} {l : List Int} (h : l ∈ s) : l.length ≤ (s.map List.length).sum := le_sum (List.mem_map.2 ⟨l, h, rfl⟩)

set_option maxHeartbeats 2000000 in
theorem CfgBack_spec {H : Heap} {n a b : Nat} {v : Value} {c : List Nat} {S : Nat → Prop} (hv : L1 (fun x : Nat => .int .u8 x) S H v c) (hc : ∀ x ∈ c, x ≤ 255) (hn : n ≤ 255) (ha : a ≤ 255) (hb : b ≤ 255) :
    ACall prog 8 [.int .u8 n, v, .int .u8 a, .int .u8 b] H fun r _ => r = .bool true := by
  refine call_CfgBack (by simp) ?_
  simp [c_CfgBack, enterF]
  refine (Graph_spec hv.narrow hc hn fun i h => h).mono fun sv H1 => ?_
  rintro ⟨s, hs, hown, hlow, hlen⟩
  have hs2 := hown.to.narrow
  have hlim : lim = 1048576 := rfl
  have hs1 := hs.2.1
  have hsum := hs.2.2
  simp [callK_def]
  refine (Preds_spec hs2 (fun i h => h) (by omega) (fun l hl => by have := len_le_sum hl; omega)).mono fun pv H2 => ?_
  rintro ⟨hp, hlow2, hlen2⟩
  have hs3 := L2.mono' hs2 (fun i h => h) hlow2
  have hpos : 0 < s.length := hs.1
  have hne : ¬ s.length = 0 := by omega
  obtain ⟨i, hi⟩ : ∃ i, i = a % s.length := ⟨_, rfl⟩
  obtain ⟨j, hj⟩ : ∃ j, j = b % s.length := ⟨_, rfl⟩
  have e1 : (IntKind.i64.wrap (a : Int)).tmod (s.length : Int) = (i : Int) := by rw [u8_mod ha hpos, hi]
  have e2 : (IntKind.i64.wrap (b : Int)).tmod (s.length : Int) = (j : Int) := by rw [u8_mod hb hpos, hj]
  have hil : i < s.length := by rw [hi]; exact Nat.mod_lt _ hpos
  have hjl : j < s.length := by rw [hj]; exact Nat.mod_lt _ hpos
  obtain ⟨l, hl⟩ : ∃ l, s[i]? = some l := ⟨_, List.getElem?_eq_getElem hil⟩
  obtain ⟨p, w, f1, f2, f3⟩ := L2.at hs3 hl
  obtain ⟨q, u, f4, f5, f6⟩ := L2.at hp (preds_at hjl)
  have hll : l.length ≤ 25 := by have := len_le_sum (List.mem_of_getElem? hl); omega
  have hpl := backs_len s s.length j
  simp [callK_def, enterF, hs3.len, hp.len, preds_len, e1, e2, hne]
  refine loop_rule (fun m fr H' => H' = H2 ∧ fr 9 = sv ∧ fr 10 = pv ∧ fr 11 = .int .i64 i ∧ fr 12 = .int .i64 j ∧ ∃ k : Nat, fr 14 = .int .i64 k ∧ fr 13 = .bool (decide ((j : Int) ∈ l.take k)) ∧ m = l.length - k ∧ k ≤ l.length) ?_ (n := l.length) ?_
  · rintro m fr H' ⟨rfl, h9, h10, h11, h12, k, h14, h13, rfl, hk⟩
    obtain ⟨k', hk'⟩ : ∃ j, j = k + 1 := ⟨_, rfl⟩
    have wk : IntKind.i64.wrap ((k : Int) + 1) = (k' : Int) := by rw [wrap_i64 (by omega) (by omega)]; omega
    by_cases hkl : k < l.length
    · obtain ⟨p2, f7, f8⟩ := L1.at f3 (List.getElem?_eq_getElem hkl)
      by_cases hm : (j : Int) ∈ l.take k
      · have hm' : (j : Int) ∈ l.take k' := by rw [hk']; exact (take_mem hkl).2 (.inl hm)
        simp [h9, h10, h11, h12, h13, h14, f1, f2, f3.len, hkl, hm, wk]
        exact ⟨_, by omega, k', rfl, hm', rfl, by omega⟩
      · have hm' : (l[k] = (j : Int)) ↔ (j : Int) ∈ l.take k' := by
          rw [hk', take_mem hkl]; exact ⟨fun h => .inr h.symm, fun h => h.elim (fun h => absurd h hm) Eq.symm⟩
        simp [h9, h10, h11, h12, h13, h14, f1, f2, f3.len, hkl, hm, wk, f7, f8]
        exact ⟨_, by omega, k', rfl, hm', rfl, by omega⟩
    · have hkl' : k = l.length := by omega
      have h13' : fr 13 = .bool (decide ((j : Int) ∈ l)) := by rw [h13, hkl', List.take_length]
      simp [h9, h10, h11, h12, h14, f1, f2, f3.len, hkl]
      obtain ⟨bl, hbl⟩ : ∃ bl, bl = backs s s.length j := ⟨_, rfl⟩
      rw [← hbl] at f6 hpl
      refine loop_rule (fun m fr H'' => H'' = H' ∧ fr 9 = sv ∧ fr 10 = pv ∧ fr 11 = .int .i64 i ∧ fr 12 = .int .i64 j ∧ fr 13 = .bool (decide ((j : Int) ∈ l)) ∧ ∃ k : Nat, fr 16 = .int .i64 k ∧ fr 15 = .bool (decide ((i : Int) ∈ bl.take k)) ∧ m = bl.length - k ∧ k ≤ bl.length) ?_ (n := bl.length) ?_
      · clear h9 h10 h11 h12 h13 h13' h14 hk wk hkl hkl' hk' k' k fr
        rintro m fr H'' ⟨rfl, h9, h10, h11, h12, h13, k, h16, h15, rfl, hk⟩
        obtain ⟨k', hk'⟩ : ∃ j, j = k + 1 := ⟨_, rfl⟩
        have wk : IntKind.i64.wrap ((k : Int) + 1) = (k' : Int) := by rw [wrap_i64 (by omega) (by omega)]; omega
        by_cases hkl : k < bl.length
        · obtain ⟨p2, f7, f8⟩ := L1.at f6 (List.getElem?_eq_getElem hkl)
          have hnext : ∀ t : Bool, (t = decide ((i : Int) ∈ bl.take k')) → ∃ m, m < bl.length - k ∧ ∃ k1 : Nat, (k' : Int) = k1 ∧ t = decide ((i : Int) ∈ bl.take k1) ∧ m = bl.length - k1 ∧ k1 ≤ bl.length :=
            fun t ht => ⟨_, by omega, k', rfl, ht, rfl, by omega⟩
          rcases Nat.eq_zero_or_pos k with rfl | hkp
          · have hm' : (bl[0] = (i : Int)) ↔ (i : Int) ∈ bl.take k' := by
              rw [hk', take_mem hkl]; exact ⟨fun h => .inr h.symm, fun h => h.elim (fun h => by simp at h) Eq.symm⟩
            simp at wk
            have f7 : ∀ k : IntKind, idxAV 1 u (.int k 0) = some p2 := f7
            simp [h9, h10, h11, h12, h13, h15, h16, f4, f5, f6.len, hkl, wk, f7, f8]
            exact ⟨_, by omega, k', rfl, hm', rfl, by omega⟩
          · obtain ⟨k0, hk0⟩ : ∃ k0, k0 + 1 = k := ⟨k - 1, by omega⟩
            have wk0 : IntKind.i64.wrap ((k : Int) - 1) = (k0 : Int) := by rw [wrap_i64 (by omega) (by omega)]; omega
            have hk0l : k0 < bl.length := by omega
            obtain ⟨p3, f9, f10⟩ := L1.at f6 (List.getElem?_eq_getElem hk0l)
            have hrise : ¬ bl[k] ≤ bl[k0] := by
              have h1 : bl[k0]? = some bl[k0] := List.getElem?_eq_getElem hk0l
              have h2 : bl[k]? = some bl[k] := List.getElem?_eq_getElem hkl
              generalize bl[k0] = x at h1
              generalize bl[k] = y at h2
              rw [hbl] at h1 h2
              have := backs_rise s s.length j (by omega) h1 h2
              omega
            have hkp' : (0 : Int) < k := by omega
            by_cases hm : (i : Int) ∈ bl.take k
            · have hm' : (i : Int) ∈ bl.take k' := by rw [hk']; exact (take_mem hkl).2 (.inl hm)
              simp [h9, h10, h11, h12, h13, h15, h16, f4, f5, f6.len, hkl, wk, f7, f8, f9, f10, wk0, hkp, hkp', hrise, hm]
              exact ⟨_, by omega, k', rfl, hm', rfl, by omega⟩
            · have hm' : (bl[k] = (i : Int)) ↔ (i : Int) ∈ bl.take k' := by
                rw [hk', take_mem hkl]; exact ⟨fun h => .inr h.symm, fun h => h.elim (fun h => absurd h hm) Eq.symm⟩
              simp [h9, h10, h11, h12, h13, h15, h16, f4, f5, f6.len, hkl, wk, f7, f8, f9, f10, wk0, hkp, hkp', hrise, hm]
              exact ⟨_, by omega, k', rfl, hm', rfl, by omega⟩
        · have hkl' : k = bl.length := by omega
          have hend : (decide ((j : Int) ∈ l) == decide ((i : Int) ∈ bl)) = true := by
            have : (i : Int) ∈ bl ↔ (j : Int) ∈ l := by
              rw [hbl, backs_mem]
              constructor
              · rintro ⟨a', h1, h2, h3⟩
                have : a' = i := by omega
                subst this; rw [nexts_of hl] at h3; exact h3
              · intro h; exact ⟨i, rfl, hil, by rw [nexts_of hl]; exact h⟩
            simp [this]
          rw [hkl', List.take_length] at h15
          simp [h9, h10, h11, h12, h16, f4, f5, f6.len, hkl]
          refine known10_spec ?_
          simp [callK_def, BodyK, resVs, resV, retV, h13, h15]
          simpa using hend
      · simp [h9, h10, h11, h12, h13']
        exact ⟨0, rfl, by simp⟩
  · simp
    exact ⟨0, rfl, by simp⟩
end Am
