/- Graphs: a way from the beginning that leaves out a node comes to none of those that can not be come to without it.
   No condition: plain lemmas. -/
import Derived.Test.YtjddnmjmaalcgaaAmCfgDoms
namespace Am
open Go
open Go.Proofs.Try (prog)

set_option maxHeartbeats 4000000 in
theorem CfgWays_spec {H : Heap} {n x : Nat} {v u : Value} {c st : List Nat} {S S' : Nat → Prop} (hv : L1 (fun x : Nat => .int .u8 x) S H v c) (hc : ∀ x ∈ c, x ≤ 255) (hu : L1 (fun x : Nat => .int .u8 x) S' H u st) (hst : ∀ x ∈ st, x ≤ 255) (hn : n ≤ 255) (hx : x ≤ 255) :
    ACall prog 6 [.int .u8 n, v, u, .int .u8 x] H fun r _ => r = .bool true := by
  refine call_CfgWays (by simp) ?_
  simp [c_CfgWays, enterF]
  refine (Graph_spec hv.narrow hc hn fun i h => h).mono fun sv H1 => ?_
  rintro ⟨s, hs, hown, hlow, hlen⟩
  have hs2 := hown.to.narrow
  have hu1 := hu.narrow.mono (fun _ h => h) fun i hi => (hlow i hi).symm
  have hlim : lim = 1048576 := rfl
  have hs1 := hs.2.1
  have hsum := hs.2.2
  simp [callK_def, enterF]
  refine (Doms_spec hs2 (fun i h => h) (by omega) (by omega)).mono fun dv H2 => ?_
  rintro ⟨d, hd, hdl, hlow2, hlen2⟩
  have hs3 := (L2.mono' hs2 (fun i h => h) hlow2).narrow
  have hu2 := hu1.narrow.mono (fun _ h => h) fun i hi => (hlow2 i hi).symm
  simp [callK_def, enterF]
  refine (Reach_spec hs3 (fun i h => h) (by omega)).mono fun rv H3 => ?_
  rintro ⟨seen, hr, ⟨ext, rfl⟩, hsl, hcome⟩
  have hs4 := hs3.app ext
  have hd4 := hdl.app ext
  have hu4 := hu2.app ext
  obtain ⟨H3, hH3⟩ : ∃ H3, H3 = H2 ++ ext := ⟨_, rfl⟩
  rw [← hH3] at hr hs4 hd4 hu4 ⊢
  have hpos : 0 < s.length := hs.1
  have hne : ¬ s.length = 0 := by omega
  obtain ⟨k, hk⟩ : ∃ k, k = x % s.length := ⟨_, rfl⟩
  have e3 : (IntKind.i64.wrap (x : Int)).tmod (s.length : Int) = (k : Int) := by rw [u8_mod hx hpos, hk]
  have hkl : k < s.length := by rw [hk]; exact Nat.mod_lt _ hpos
  have hk64 : k < 64 := by omega
  simp [callK_def, enterF, hs4.len, hd4.len, hr.len, hd.len, hsl]
  refine known10_spec ?_
  simp [callK_def, enterF, hs4.len, hne, e3]
  refine loop_rule (fun m fr H' => H' = H3 ∧ fr 2 = u ∧ fr 9 = sv ∧ fr 10 = dv ∧ fr 11 = rv ∧ fr 12 = .int .i64 k ∧ ∃ (i at_ : Nat) (met : Bool), fr 15 = .int .i64 i ∧ fr 13 = .int .i64 at_ ∧ fr 14 = .bool met ∧ m = 40 - i ∧ i ≤ 40 ∧ Come s at_ ∧ (met = false → Away s k at_)) ?_ (n := 40) ?_
  · rintro m fr H' ⟨rfl, h2, h9, h10, h11, h12, i, a, met, h15, h13, h14, rfl, hi, hca, hmet⟩
    obtain ⟨i', hi'⟩ : ∃ j, j = i + 1 := ⟨_, rfl⟩
    have wi : IntKind.i64.wrap ((i : Int) + 1) = (i' : Int) := by rw [wrap_i64 (by omega) (by omega)]; omega
    by_cases hlt : i < st.length
    · by_cases hi40 : i < 40
      · have hi40' : (i : Int) < 40 := by omega
        obtain ⟨p1, f1, f2⟩ := L1.at hr ((hcome a).2 hca)
        obtain ⟨da, hda⟩ : ∃ y, d[a]? = some y := ⟨_, List.getElem?_eq_getElem (by rw [hd.len]; exact hca.lt)⟩
        obtain ⟨p2, f3, f4⟩ := L1.at hd4 hda
        have la := hd.lt da (List.mem_of_getElem? hda)
        obtain ⟨l, hl⟩ : ∃ l, s[a]? = some l := ⟨_, List.getElem?_eq_getElem hca.lt⟩
        obtain ⟨p3, w, f5, f6, f7⟩ := L2.at hs4 hl
        obtain ⟨p5, g1, g2⟩ := L1.at hu4 (List.getElem?_eq_getElem hlt)
        have hsx := hst _ (List.getElem_mem hlt)
        obtain ⟨y, hy⟩ : ∃ y, y = st[i] := ⟨_, rfl⟩
        rw [← hy] at g2 hsx
        simp [h2, h9, h10, h11, h12, h13, h14, h15, hu4.len, hlt, hi40', f1, f2, f3, f4]
        refine Has_spec la ?_
        obtain ⟨tb, htb⟩ : ∃ tb, tb = da.testBit k := ⟨_, rfl⟩
        have hnot : met = false → tb = false := by
          intro hm
          rw [htb]
          cases hb : da.testBit k with
          | false => rfl
          | true => exact absurd (hmet hm) ((hd.bit a da k hda).1 hb).2.2
        rw [← htb]
        have key : ∀ (j : Nat), l[y % l.length]? = some (j : Int) → j < s.length → Come s j ∧ ((met || decide (j = k)) = false → Away s k j) := by
          intro j hj hjl
          have hm := List.mem_of_getElem? hj
          refine ⟨.step hca hl hm hjl, fun h => ?_⟩
          simp only [Bool.or_eq_false_iff, decide_eq_false_iff_not] at h
          exact .step (hmet h.1) hl hm hjl h.2
        by_cases hl0 : l.length = 0
        · cases met with
          | true => cases tb <;> simp [callK_def, hk64, h2, h9, h10, h11, h12, h13, h14, h15, f5, f6, f7.len, hl0, BodyK, resVs, resV, retV]
          | false =>
            have := hnot rfl; subst this
            simp [callK_def, hk64, h2, h9, h10, h11, h12, h13, h14, h15, f5, f6, f7.len, hl0, BodyK, resVs, resV, retV]
        · have hlp : 0 < l.length := by omega
          obtain ⟨o, ho⟩ : ∃ o, o = y % l.length := ⟨_, rfl⟩
          have hol : o < l.length := by rw [ho]; exact Nat.mod_lt _ hlp
          rw [← ho] at key
          have w1 : (IntKind.i64.wrap (y : Int)).tmod (l.length : Int) = (o : Int) := by rw [u8_mod hsx hlp, ho]
          obtain ⟨p6, q1, q2⟩ := L1.at f7 (List.getElem?_eq_getElem hol)
          obtain ⟨z, hz⟩ : ∃ z, z = l[o] := ⟨_, rfl⟩
          have hlz : l[o]? = some z := by rw [hz]; exact List.getElem?_eq_getElem hol
          rw [← hz] at q2
          have go : ∀ t : Bool, (t = true → met = true) → tb = t ∨ met = true → True := fun _ _ _ => trivial
          by_cases z1 : z < 0
          · cases met with
            | true => cases tb <;> simp [callK_def, hk64, h2, h9, h10, h11, h12, h13, h14, h15, f5, f6, f7.len, hl0, g1, g2, w1, q1, q2, z1, BodyK, resVs, resV, retV]
            | false =>
              have := hnot rfl; subst this
              simp [callK_def, hk64, h2, h9, h10, h11, h12, h13, h14, h15, f5, f6, f7.len, hl0, g1, g2, w1, q1, q2, z1, BodyK, resVs, resV, retV]
          · obtain ⟨j, rfl⟩ : ∃ j : Nat, z = j := ⟨z.toNat, by omega⟩
            by_cases z2 : s.length ≤ j
            · cases met with
              | true => cases tb <;> simp [callK_def, hk64, h2, h9, h10, h11, h12, h13, h14, h15, f5, f6, f7.len, hl0, g1, g2, w1, q1, q2, z1, z2, hs4.len, BodyK, resVs, resV, retV]
              | false =>
                have := hnot rfl; subst this
                simp [callK_def, hk64, h2, h9, h10, h11, h12, h13, h14, h15, f5, f6, f7.len, hl0, g1, g2, w1, q1, q2, z1, z2, hs4.len, BodyK, resVs, resV, retV]
            · obtain ⟨k1, k2⟩ := key j hlz (by omega)
              cases met with
              | true =>
                cases tb <;> simp [callK_def, hk64, h2, h9, h10, h11, h12, h13, h14, h15, f5, f6, f7.len, hl0, g1, g2, w1, q1, q2, z1, z2, hs4.len, wi]
                all_goals exact ⟨40 - i', by omega, i', rfl, j, rfl, rfl, by omega, k1⟩
              | false =>
                have := hnot rfl; subst this
                simp [callK_def, hk64, h2, h9, h10, h11, h12, h13, h14, h15, f5, f6, f7.len, hl0, g1, g2, w1, q1, q2, z1, z2, hs4.len, wi]
                refine ⟨40 - i', by omega, i', rfl, j, rfl, ?_⟩
                by_cases e : (j : Int) = (k : Int)
                · exact .inr ⟨e, rfl, by omega, k1⟩
                · exact .inl ⟨e, rfl, by omega, k1, k2 (by simpa using fun e' : j = k => e (by omega))⟩
      · have hi40' : ¬ (i : Int) < 40 := by omega
        simp [h2, h9, h10, h11, h12, h13, h14, h15, hu4.len, hlt, hi40', BodyK, resVs, resV, retV]
    · simp [h2, h9, h10, h11, h12, h13, h14, h15, hu4.len, hlt, BodyK, resVs, resV, retV]
  · simp [enterF]
    exact ⟨0, rfl, 0, rfl, rfl, by omega, .start hpos, fun h => .start hpos fun e => h (by omega)⟩
end Am
