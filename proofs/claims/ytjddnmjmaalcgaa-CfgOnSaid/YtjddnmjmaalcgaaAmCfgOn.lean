/- Graphs: of what is come to all next ones are come to; nothing else but the beginning is.
   No condition: plain lemmas. -/
import Derived.Test.YtjddnmjmaalcgaaAmCfg1
import Derived.Test.YtjddnmjmaalcgaaAmCfgK
namespace Am
open Go
open Go.Proofs.Try (prog)

/-- What is marked as come to, behind some nodes. -/
structure OInv (s : List (List Int)) (come : List Bool) (i k : Nat) : Prop where
  len : come.length = s.length
  zero : come[0]? = some true
  full : ∀ (a : Nat) (l : List Int) (j : Nat), a < i → Come s a → s[a]? = some l → (j : Int) ∈ l → j < s.length → come[j]? = some true
  part : ∀ (l : List Int) (j : Nat), Come s i → s[i]? = some l → (j : Int) ∈ l.take k → j < s.length → come[j]? = some true

theorem OInv.skip {s : List (List Int)} {come : List Bool} {i k : Nat} {l : List Int} (h : OInv s come i k) (hl : s[i]? = some l) (hk : k < l.length) (hx : ∀ j : Nat, (j : Int) = l[k] → j < s.length → ¬ Come s i) : OInv s come i (k + 1) := by
  refine ⟨h.len, h.zero, h.full, fun l' j h1 h2 h3 h4 => ?_⟩
  rw [hl] at h2; cases h2
  rw [← List.take_append_getElem hk] at h3
  rcases List.mem_append.1 h3 with h3 | h3
  · exact h.part l j h1 hl h3 h4
  · exact absurd h1 (hx j (List.mem_singleton.1 h3) h4)
theorem OInv.set {s : List (List Int)} {come : List Bool} {i k x : Nat} {l : List Int} (h : OInv s come i k) (hl : s[i]? = some l) (hk : k < l.length) (hx : (x : Int) = l[k]) : OInv s (come.set x true) i (k + 1) := by
  have old : ∀ {j : Nat}, come[j]? = some true → (come.set x true)[j]? = some true := by
    intro j hj
    by_cases e : j = x
    · subst e; rw [List.getElem?_set_self (List.getElem?_eq_some_iff.1 hj).1]
    · rw [List.getElem?_set_ne (Ne.symm e)]; exact hj
  refine ⟨by simp [h.len], old h.zero, fun a l j h1 h2 h3 h4 h5 => old (h.full a l j h1 h2 h3 h4 h5), fun l' j h1 h2 h3 h4 => ?_⟩
  rw [hl] at h2; cases h2
  rw [← List.take_append_getElem hk] at h3
  rcases List.mem_append.1 h3 with h3 | h3
  · exact old (h.part l j h1 hl h3 h4)
  · have : j = x := by have := List.mem_singleton.1 h3; omega
    subst this
    rw [List.getElem?_set_self (by rw [h.len]; exact h4)]
theorem OInv.next {s : List (List Int)} {come : List Bool} {i k : Nat} {l : List Int} (h : OInv s come i k) (hl : s[i]? = some l) (hk : l.length ≤ k) : OInv s come (i + 1) 0 := by
  refine ⟨h.len, h.zero, fun a l' j h1 h2 h3 h4 h5 => ?_, fun l j h1 h2 h3 => by simp at h3⟩
  by_cases e : a = i
  · subst e
    rw [hl] at h3; cases h3
    exact h.part l j h2 hl (by rw [List.take_of_length_le hk]; exact h4) h5
  · exact h.full a l' j (by omega) h2 h3 h4 h5

set_option maxHeartbeats 2000000 in
theorem CfgOn_spec {H : Heap} {n : Nat} {v : Value} {c : List Nat} {S : Nat → Prop} (hv : L1 (fun x : Nat => .int .u8 x) S H v c) (hc : ∀ x ∈ c, x ≤ 255) (hn : n ≤ 255) :
    ACall prog 3 [.int .u8 n, v] H fun r _ => r = .bool true := by
  refine call_CfgOn (by simp) ?_
  simp [c_CfgOn, enterF]
  refine (Graph_spec hv.narrow hc hn fun i h => h).mono fun sv H1 => ?_
  rintro ⟨s, hs, hown, hlow, hlen⟩
  have hs2 := hown.to.narrow
  simp [callK_def]
  refine (Reach_spec hs2 (fun i h => h) (by have := hs.2.1; have := hs.2.2; simp [lim]; omega)).mono fun rv H2 => ?_
  rintro ⟨seen, hr, ⟨ext, rfl⟩, hsl, hcome⟩
  have hs3 := hs2.app ext
  have hr3 := hr.narrow
  obtain ⟨H2, hH2⟩ : ∃ H2, H2 = H1 ++ ext := ⟨_, rfl⟩
  rw [← hH2] at hs3 hr3 ⊢
  have h0 : seen[0]? = some true := (hcome 0).2 (.start hs.1)
  obtain ⟨p, e1, e2⟩ := L1.at hr3 h0
  have e1 : ∀ k : IntKind, idxAV 1 rv (.int k 0) = some p := e1
  have hn0 : (s.length : Int) ≤ lim := by have := hs.2.1; simp [lim]; omega
  have hpos : 0 < s.length := hs.1
  have hpos' : (0 : Int) < s.length := by omega
  have hp1 : 1 ≤ s.length := hs.1
  simp [callK_def, hs3.len, hr3.len, hsl, e1, e2, makeV, newRow, rep_one, hn0, hpos, hpos', hp1, storeV, cellsOf, setAll, Heap.row?]
  have seen_at : ∀ i, i < s.length → ∃ b, seen[i]? = some b ∧ (b = true ↔ Come s i) := by
    intro i hi
    refine ⟨seen[i]'(by omega), List.getElem?_eq_getElem _, ?_⟩
    rw [← hcome i, List.getElem?_eq_getElem (by omega)]; simp
  refine loop_rule (fun m fr H' => fr 5 = sv ∧ fr 6 = rv ∧ fr 7 = .slice (some ⟨H2.length, 0, none⟩) s.length 0 ∧ ∃ (i : Nat) (come : List Bool), fr 8 = .int .i64 i ∧ H' = H2 ++ [.row ⟨come.map vB, 1, 0, true⟩] ∧
    m = s.length - i ∧ i ≤ s.length ∧ OInv s come i 0) ?_ (n := s.length) ?_
  · rintro m fr H' ⟨h5, h6, h7, i, come, h8, rfl, rfl, hi, hO⟩
    have hs4 := hs3.app [.row ⟨come.map vB, 1, 0, true⟩]
    obtain ⟨i', hi'⟩ : ∃ j, j = i + 1 := ⟨_, rfl⟩
    have wi : IntKind.i64.wrap ((i : Int) + 1) = (i' : Int) := by rw [wrap_i64 (by omega) (by have := hs.2.1; omega)]; omega
    by_cases hlt : i < s.length
    · simp [h5, h8, hs4.len, hlt]
      obtain ⟨l, hl'⟩ : ∃ l, s[i]? = some l := ⟨_, List.getElem?_eq_getElem hlt⟩
      have hll : l.length ≤ 25 := by have h1 := Small.one hlt; have h2 := (List.getElem?_eq_some_iff.1 hl').2; have := hs.2.2; rw [h2] at h1; omega
      obtain ⟨b, hb, hbc⟩ := seen_at i hlt
      refine loop_rule (fun m fr H' => fr 5 = sv ∧ fr 6 = rv ∧ fr 7 = .slice (some ⟨H2.length, 0, none⟩) s.length 0 ∧ fr 8 = .int .i64 i ∧ ∃ (k : Nat) (come : List Bool), fr 9 = .int .i64 k ∧ H' = H2 ++ [.row ⟨come.map vB, 1, 0, true⟩] ∧
        m = l.length - k ∧ k ≤ l.length ∧ OInv s come i k) ?_ (n := l.length) ?_
      · clear hO hs4 h5 h6 h7 h8 come
        rintro m fr H' ⟨h5, h6, h7, h8, k, come, h9, rfl, rfl, hk, hO⟩
        have hs4 := hs3.app [.row ⟨come.map vB, 1, 0, true⟩]
        have hr4 := hr3.app [.row ⟨come.map vB, 1, 0, true⟩]
        obtain ⟨p, w, e1, e2, e3⟩ := L2.at hs4 hl'
        obtain ⟨k', hk'⟩ : ∃ j, j = k + 1 := ⟨_, rfl⟩
        have wk : IntKind.i64.wrap ((k : Int) + 1) = (k' : Int) := by rw [wrap_i64 (by omega) (by omega)]; omega
        by_cases hkl : k < l.length
        · obtain ⟨p2, e4, e5⟩ := L1.at e3 (List.getElem?_eq_getElem hkl)
          obtain ⟨p3, e6, e7⟩ := L1.at hr4 hb
          obtain ⟨x, hx⟩ : ∃ x, x = l[k] := ⟨_, rfl⟩
          rw [← hx] at e5
          by_cases x1 : 0 ≤ x
          · obtain ⟨j, rfl⟩ : ∃ j : Nat, x = j := ⟨x.toNat, by omega⟩
            by_cases x2 : j < s.length
            · cases b with
              | false =>
                simp [h5, h6, h7, h8, h9, e1, e2, e3.len, hkl, e4, e5, hs4.len, hr4.len, x2, e6, e7, wk, vB]
                exact ⟨_, by omega, k', rfl, come, rfl, rfl, by omega, hk' ▸ hO.skip hl' hkl fun j _ _ hc => by simpa using hbc.2 hc⟩
              | true =>
                have hci := hbc.1 rfl
                have hcj : Come s j := .step hci hl' (hx ▸ List.getElem_mem hkl) x2
                have hjt : seen[j]? = some true := (hcome j).2 hcj
                have hr5 := hr3.app [.row ⟨(come.map vB).set j (.bool true), 1, 0, true⟩]
                obtain ⟨p4, e8, e9⟩ := L1.at hr5 hjt
                have hjl : j + 1 ≤ come.length := by rw [hO.len]; exact x2
                simp [h5, h6, h7, h8, h9, e1, e2, e3.len, hkl, e4, e5, hs4.len, hr4.len, x2, e6, e7, wk, vB, storeV, cellsOf, setAll, Heap.row?, hjl, e8, e9]
                exact ⟨l.length - k', by omega, k', rfl, come.set j true, by simp, rfl, by omega, hk' ▸ hO.set hl' hkl hx⟩
            · have x2' : s.length ≤ j := by omega
              simp [h5, h6, h7, h8, h9, e1, e2, e3.len, hkl, e4, e5, hs4.len, hr4.len, x2', x2, wk, vB]
              exact ⟨_, by omega, k', rfl, come, rfl, rfl, by omega, hk' ▸ hO.skip hl' hkl fun j h1 h2 => by omega⟩
          · simp [h5, h6, h7, h8, h9, e1, e2, e3.len, hkl, e4, e5, hs4.len, hr4.len, x1, wk, vB]
            exact ⟨_, by omega, k', rfl, come, rfl, rfl, by omega, hk' ▸ hO.skip hl' hkl fun j h1 h2 => by omega⟩
        · have hkl' : l.length ≤ k := by omega
          simp [h5, h6, h7, h8, h9, e1, e2, e3.len, hkl, hkl', wi]
          exact ⟨_, by omega, i', rfl, come, rfl, rfl, by omega, hi' ▸ hO.next hl' hkl'⟩
      · simp [h5, h6, h7, h8]
        exact ⟨0, rfl, come, rfl, by simp, by simp, hO⟩
    · have hO' : ∀ (j : Nat), Come s j → come[j]? = some true := by
        intro j hj
        have : i = s.length := by omega
        subst this
        cases hj with
        | start h => exact hO.zero
        | step h1 h2 h3 h4 => exact hO.full _ _ _ (List.getElem?_eq_some_iff.1 h2).1 h1 h2 h3 h4
      simp [h5, h8, hs4.len, hlt]
      refine loop_rule (fun m fr H' => fr 5 = sv ∧ fr 6 = rv ∧ fr 7 = .slice (some ⟨H2.length, 0, none⟩) s.length 0 ∧ ∃ (i : Nat), fr 11 = .int .i64 i ∧ H' = H2 ++ [.row ⟨come.map vB, 1, 0, true⟩] ∧ m = s.length - i ∧ i ≤ s.length) ?_ (n := s.length) ?_
      · have hcl := hO.len
        clear h5 h6 h7 h8 hlt wi hi' i' hO
        rintro m fr H' ⟨h5, h6, h7, i, h11, rfl, rfl, hi⟩
        have hr4 := hr3.app [.row ⟨come.map vB, 1, 0, true⟩]
        obtain ⟨i', hi'⟩ : ∃ j, j = i + 1 := ⟨_, rfl⟩
        have wi : IntKind.i64.wrap ((i : Int) + 1) = (i' : Int) := by rw [wrap_i64 (by omega) (by have := hs.2.1; omega)]; omega
        by_cases hlt : i < s.length
        · obtain ⟨b, hb, hbc⟩ := seen_at i hlt
          obtain ⟨p3, e6, e7⟩ := L1.at hr4 hb
          cases b with
          | false =>
            simp [h5, h6, h7, h11, hs4.len, hlt, e6, e7, wi]
            exact ⟨_, by omega, i', rfl, rfl, by omega⟩
          | true =>
            have hci := hO' i (hbc.1 rfl)
            simp [h5, h6, h7, h11, hs4.len, hlt, e6, e7, wi, Heap.cell?, Heap.row?, hci]
            exact ⟨_, by omega, i', rfl, rfl, by omega⟩
        · simp [h5, h6, h7, h11, hs4.len, hlt]
          refine known10_spec ?_
          simp [callK_def, BodyK, resVs, resV, retV]
      · simp [h5, h6, h7]
        exact ⟨0, rfl, by simp⟩
  · simp
    exact ⟨0, rfl, (List.replicate s.length false).set 0 true, by simp, by simp, by simp, ⟨by simp, by simp [hpos], fun a l j h => by omega, fun l j _ _ h => by simp at h⟩⟩
end Am
