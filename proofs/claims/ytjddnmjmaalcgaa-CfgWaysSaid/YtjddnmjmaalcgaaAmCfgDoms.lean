/- Graphs: each that is come to is of its own, and the beginning's; of two that a third can not be come to without one can not be come to without the other.
   No condition: plain lemmas. -/
import Derived.Test.YtjddnmjmaalcgaaAmDoms
namespace Am
open Go
open Go.Proofs.Try (prog)

theorem away_zero {s : List (List Int)} {i : Nat} (h : Away s 0 i) : False := by
  induction h with
  | start _ hk => exact hk rfl
  | step _ _ _ _ _ ih => exact ih
theorem IsDom.self {s : List (List Int)} {k : Nat} (h : Come s k) : IsDom s k k := ⟨h.lt, h, fun ha => ha.ne rfl⟩
theorem IsDom.zero {s : List (List Int)} {k : Nat} (h : Come s k) : IsDom s 0 k := ⟨by have := h.lt; omega, h, away_zero⟩
theorem away_of {s : List (List Int)} {i m : Nat} (hi : ¬ Come s i) (hm : Come s m) : Away s i m := by
  induction hm with
  | start h => exact .start h fun e => hi (e ▸ .start h)
  | step h hl hj hlt ih => exact .step ih hl hj hlt fun e => hi (e ▸ .step h hl hj hlt)
theorem IsDom.come {s : List (List Int)} {i k : Nat} (h : IsDom s i k) : Come s i := Classical.byContradiction fun hi => h.2.2 (away_of hi h.2.1)
theorem away_or {s : List (List Int)} {i j m : Nat} (hij : i ≠ j) (h1 : Away s j i) (h2 : Away s i j) (hm : Come s m) : Away s i m ∨ Away s j m := by
  induction hm with
  | start h =>
    by_cases e : 0 = i
    · subst e; exact .inr h1
    · exact .inl (.start h e)
  | @step p q l h hl hj hlt ih =>
    rcases ih with ih | ih
    · by_cases e : q = i
      · subst e; exact .inr h1
      · exact .inl (.step ih hl hj hlt e)
    · by_cases e : q = j
      · subst e; exact .inl h2
      · exact .inr (.step ih hl hj hlt e)
/-- Of two one is another's. -/
theorem IsDom.chain {s : List (List Int)} {i j k : Nat} (hi : IsDom s i k) (hj : IsDom s j k) : IsDom s j i ∨ IsDom s i j := by
  by_cases e : i = j
  · subst e; exact .inl (.self hi.come)
  · apply Classical.byContradiction
    intro hn
    have h1 : Away s j i := Classical.byContradiction fun h => hn (.inl ⟨hj.1, hi.come, h⟩)
    have h2 : Away s i j := Classical.byContradiction fun h => hn (.inr ⟨hi.1, hj.come, h⟩)
    rcases away_or e h1 h2 hi.2.1 with h | h
    · exact hi.2.2 h
    · exact hj.2.2 h

set_option maxHeartbeats 2000000 in
theorem CfgDoms_spec {H : Heap} {n a b x : Nat} {v : Value} {c : List Nat} {S : Nat → Prop} (hv : L1 (fun x : Nat => .int .u8 x) S H v c) (hc : ∀ x ∈ c, x ≤ 255) (hn : n ≤ 255) (ha : a ≤ 255) (hb : b ≤ 255) (hx : x ≤ 255) :
    ACall prog 7 [.int .u8 n, v, .int .u8 a, .int .u8 b, .int .u8 x] H fun r _ => r = .bool true := by
  refine call_CfgDoms (by simp) ?_
  simp [c_CfgDoms, enterF]
  refine (Graph_spec hv.narrow hc hn fun i h => h).mono fun sv H1 => ?_
  rintro ⟨s, hs, hown, hlow, hlen⟩
  have hs2 := hown.to.narrow
  have hlim : lim = 1048576 := rfl
  have hs1 := hs.2.1
  have hsum := hs.2.2
  simp [callK_def, enterF]
  refine (Doms_spec hs2 (fun i h => h) (by omega) (by omega)).mono fun dv H2 => ?_
  rintro ⟨d, hd, hdl, hlow2, hlen2⟩
  have hs3 := (L2.mono' hs2 (fun i h => h) hlow2).narrow
  simp [callK_def, enterF]
  refine (Reach_spec hs3 (fun i h => h) (by omega)).mono fun rv H3 => ?_
  rintro ⟨seen, hr, ⟨ext, rfl⟩, hsl, hcome⟩
  have hs4 := hs3.app ext
  have hd4 := hdl.app ext
  obtain ⟨H3, hH3⟩ : ∃ H3, H3 = H2 ++ ext := ⟨_, rfl⟩
  rw [← hH3] at hr hs4 hd4 ⊢
  have hpos : 0 < s.length := hs.1
  have hne : ¬ s.length = 0 := by omega
  obtain ⟨i, hi⟩ : ∃ i, i = a % s.length := ⟨_, rfl⟩
  obtain ⟨j, hj⟩ : ∃ j, j = b % s.length := ⟨_, rfl⟩
  obtain ⟨k, hk⟩ : ∃ k, k = x % s.length := ⟨_, rfl⟩
  have e1 : (IntKind.i64.wrap (a : Int)).tmod (s.length : Int) = (i : Int) := by rw [u8_mod ha hpos, hi]
  have e2 : (IntKind.i64.wrap (b : Int)).tmod (s.length : Int) = (j : Int) := by rw [u8_mod hb hpos, hj]
  have e3 : (IntKind.i64.wrap (x : Int)).tmod (s.length : Int) = (k : Int) := by rw [u8_mod hx hpos, hk]
  have hil : i < s.length := by rw [hi]; exact Nat.mod_lt _ hpos
  have hjl : j < s.length := by rw [hj]; exact Nat.mod_lt _ hpos
  have hkl : k < s.length := by rw [hk]; exact Nat.mod_lt _ hpos
  obtain ⟨di, hdi⟩ : ∃ y, d[i]? = some y := ⟨_, List.getElem?_eq_getElem (by rw [hd.len]; exact hil)⟩
  obtain ⟨dj, hdj⟩ : ∃ y, d[j]? = some y := ⟨_, List.getElem?_eq_getElem (by rw [hd.len]; exact hjl)⟩
  obtain ⟨dk, hdk⟩ : ∃ y, d[k]? = some y := ⟨_, List.getElem?_eq_getElem (by rw [hd.len]; exact hkl)⟩
  obtain ⟨p1, f1, f2⟩ := L1.at hd4 hdi
  obtain ⟨p2, f3, f4⟩ := L1.at hd4 hdj
  obtain ⟨p3, f5, f6⟩ := L1.at hd4 hdk
  have li := hd.lt di (List.mem_of_getElem? hdi)
  have lj := hd.lt dj (List.mem_of_getElem? hdj)
  have lk := hd.lt dk (List.mem_of_getElem? hdk)
  obtain ⟨t, ht⟩ : ∃ t, seen[k]? = some t := ⟨_, List.getElem?_eq_getElem (by rw [hsl]; exact hkl)⟩
  obtain ⟨p4, f7, f8⟩ := L1.at hr ht
  simp [callK_def, enterF, hs4.len, hd4.len, hr.len, hd.len, hsl]
  refine known10_spec ?_
  cases t with
  | false =>
    have hnc : ¬ Come s k := fun h => by rw [(hcome k).2 h] at ht; cases ht
    have hz : dk = 0 := by
      apply Nat.eq_of_testBit_eq
      intro m
      rw [Nat.zero_testBit]
      cases hb : dk.testBit m with
      | false => rfl
      | true => exact absurd ((hd.bit k dk m hdk).1 hb).2.1 hnc
    simp [callK_def, enterF, hs4.len, hne, e1, e2, e3, f5, f6, f7, f8, hz, BodyK, resVs, resV, retV]
  | true =>
    have hck := (hcome k).1 ht
    have b1 : dk.testBit k = true := (hd.bit k dk k hdk).2 (.self hck)
    have b2 : dk.testBit 0 = true := (hd.bit k dk 0 hdk).2 (.zero hck)
    have q1 : k < 64 := by omega
    have q2 : i < 64 := by omega
    have q3 : j < 64 := by omega
    simp [callK_def, enterF, hs4.len, hne, e1, e2, e3, f5, f6, f7, f8]
    refine Has_spec lk ?_
    simp [callK_def, q1, b1, f5, f6]
    refine Has_spec (i := 0) lk ?_
    simp [callK_def, b2, f5, f6]
    refine Has_spec lk ?_
    cases hbi : dk.testBit i with
    | false => simp [callK_def, q2, hbi, f5, f6, BodyK, resVs, resV, retV]
    | true =>
      simp [callK_def, q2, hbi, f5, f6]
      refine Has_spec lk ?_
      cases hbj : dk.testBit j with
      | false => simp [callK_def, q3, hbj, f5, f6, BodyK, resVs, resV, retV]
      | true =>
        have hch := IsDom.chain ((hd.bit k dk i hdk).1 hbi) ((hd.bit k dk j hdk).1 hbj)
        simp [callK_def, q3, hbj, f1, f2]
        refine Has_spec li ?_
        cases hij : di.testBit j with
        | true => simp [callK_def, q3, hij, BodyK, resVs, resV, retV]
        | false =>
          have hji : dj.testBit i = true := by
            rcases hch with h | h
            · rw [(hd.bit i di j hdi).2 h] at hij; cases hij
            · exact (hd.bit j dj i hdj).2 h
          simp [callK_def, q3, hij, f3, f4]
          refine Has_spec lj ?_
          simp [callK_def, q2, hji, BodyK, resVs, resV, retV]
end Am
