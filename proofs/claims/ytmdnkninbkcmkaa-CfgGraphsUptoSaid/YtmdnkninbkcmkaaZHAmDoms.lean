/- Graphs: what each can not be come to without: the walk.
   No condition: plain lemmas. -/
import Derived.Test.YtmdnkninbkcmkaaZHAmDomsP
import Derived.Test.YtmdnkninbkcmkaaZHAmBits
import Derived.Test.YtmdnkninbkcmkaaZHAmCfgBack
namespace Am
set_option linter.unusedSimpArgs false
set_option linter.unusedVariables false
open Go
open Go.Proofs.Try (prog)

def domsRest : AC := match c_Doms.body with | .seq _ (.scope _ _ r) => r | _ => .skip
def domsB : AC := match domsRest with | .seq _ (.seq (.seq _ (.block _ (.loop b))) _) => b | _ => .skip
def domsT : AC := match domsRest with | .seq _ (.seq _ t) => t | _ => .skip

theorem allN_lt {n : Nat} (hn : n ≤ 64) : allN n < 18446744073709551616 := by
  unfold allN
  have h1 : 2 ^ n ≤ 2 ^ 64 := Nat.pow_le_pow_right (by omega) hn
  have h2 : 0 < 2 ^ n := Nat.two_pow_pos _
  omega
theorem sum_le : ∀ (l : List Nat) (M : Nat), (∀ x ∈ l, x ≤ M) → l.sum ≤ l.length * M
  | [], M, _ => by simp
  | a :: l, M, h => by
    have h1 := h a (by simp)
    have h2 := sum_le l M fun x hx => h x (by simp [hx])
    simp only [List.sum_cons, List.length_cons, Nat.succ_mul]
    omega

theorem L1.one {H : Heap} {id ver : Nat} {x : Int} {rw : Bool} (h : H[id]? = some (.row ⟨[.int .i64 x], 1, ver, rw⟩)) : L1 vI Any H (.slice (some ⟨id, 0, none⟩) 1 ver) [x] := L1.ofRow (l := [x]) h trivial

set_option maxHeartbeats 4000000 in
/-- Once through all nodes. -/
theorem doms_pass {s : List (List Int)} {seen : List Bool} {H2 : Heap} {sv pv : Value} {S S' : Nat → Prop} (hn : s.length ≤ 64) (hseen : L1 vB S H2 sv seen) (hsl : seen.length = s.length) (hcome : ∀ i, seen[i]? = some true ↔ Come s i) (hpreds : L2 vI S' H2 pv (preds s))
    {out : List Nat} {g : Heap} (hD : DI s out) {J : Fr → Heap → Prop} {Q : Exit → Fr → Heap → Prop} {fr : Fr} (h3 : fr 3 = .int .i64 s.length) (h4 : fr 4 = sv) (h5 : fr 5 = pv) (h6 : fr 6 = .slice (some ⟨H2.length, 0, none⟩) s.length 0) (h8 : fr 8 = .int .i64 1)
    (hJ : ∀ (fr : Fr) (g : Heap) (out' : List Nat), fr 3 = .int .i64 s.length → fr 4 = sv → fr 5 = pv → fr 6 = .slice (some ⟨H2.length, 0, none⟩) s.length 0 → DI s out' → out'.sum < out.sum → J fr (H2 ++ .row ⟨out'.map vU, 1, 0, true⟩ :: g))
    (hQ : ∀ (fr : Fr) (g : Heap), DomsOf s out → fr 2 = .slice (some ⟨H2.length, 0, none⟩) s.length 0 → Q .ret fr (H2 ++ .row ⟨out.map vU, 1, 0, true⟩ :: g)) :
    awp prog (.loop domsB) (BlockK 2 (SeqK (awp prog domsT (JumpK 0 J Q)) (JumpK 0 J Q))) fr (H2 ++ .row ⟨out.map vU, 1, 0, true⟩ :: g) := by
  have hlim : lim = 1048576 := rfl
  refine loop_rule (fun m fr H' => fr 3 = .int .i64 s.length ∧ fr 4 = sv ∧ fr 5 = pv ∧ fr 6 = .slice (some ⟨H2.length, 0, none⟩) s.length 0 ∧ ∃ (i : Nat) (g : Heap), fr 8 = .int .i64 i ∧ H' = H2 ++ .row ⟨out.map vU, 1, 0, true⟩ :: g ∧ m = 65 - i ∧ 1 ≤ i ∧ i ≤ 64 ∧
    ∀ (j x : Nat), 0 < j → j < i → Come s j → out[j]? = some x → ∀ k, x.testBit k = true ↔ FB s out j k) ?_ (n := 64) ⟨h3, h4, h5, h6, 1, g, h8, rfl, rfl, by omega, by omega, fun j x h1 h2 => by omega⟩
  clear h3 h4 h5 h6 h8 fr g
  rintro m fr H' ⟨h3, h4, h5, h6, i, g, h8, rfl, rfl, hi1, hi2, hfix⟩
  obtain ⟨i', hi'⟩ : ∃ j, j = i + 1 := ⟨_, rfl⟩
  have wi : IntKind.i64.wrap ((i : Int) + 1) = (i' : Int) := by rw [wrap_i64 (by omega) (by omega)]; omega
  have hs4 := hseen.app (.row ⟨out.map vU, 1, 0, true⟩ :: g)
  have hp4 := hpreds.app (.row ⟨out.map vU, 1, 0, true⟩ :: g)
  by_cases hlt : i < s.length
  · obtain ⟨b, hb⟩ : ∃ b, seen[i]? = some b := ⟨_, List.getElem?_eq_getElem (by omega)⟩
    obtain ⟨p, e1, e2⟩ := L1.at hs4 hb
    cases b with
    | false =>
      have hnc : ¬ Come s i := fun hc => by rw [(hcome i).2 hc] at hb; cases hb
      simp [domsB, domsRest, c_Doms, h3, h4, h5, h6, h8, hlt, e1, e2, wi]
      exact ⟨65 - i', by omega, i', rfl, rfl, by omega, by omega, fun j x h1 h2 h3 h4 => by
        by_cases e : j = i
        · subst e; exact absurd h3 hnc
        · exact hfix j x h1 (by omega) h3 h4⟩
    | true =>
      have hc : Come s i := (hcome i).1 hb
      obtain ⟨q, w, e3, e4, e5⟩ := L2.at hp4 (preds_at hlt)
      obtain ⟨bl, hbl⟩ : ∃ bl, bl = backs s s.length i := ⟨_, rfl⟩
      rw [← hbl] at e5
      have hblen : bl.length ≤ 64 := by have := backs_len s s.length i; rw [hbl]; omega
      simp [domsB, domsRest, c_Doms, h3, h4, h5, h6, h8, hlt, e1, e2]
      refine All_spec hn ?_
      simp [callK_def, h3, h4, h5, h6, h8, e3, e4, e5.len]
      obtain ⟨H3, hH3⟩ : ∃ H3, H3 = H2 ++ Ob.row ⟨out.map vU, 1, 0, true⟩ :: g := ⟨_, rfl⟩
      rw [← hH3] at hs4 hp4 e2 e4 e5 ⊢
      have hcell : ∀ (a x : Nat), out[a]? = some x → H3.cell? H2.length a 0 = some (vU x) := by
        intro a x ha
        rw [hH3]; simp [Heap.cell?, Heap.row?, ha]
      refine loop_rule (fun m fr H' => H' = H3 ∧ fr 3 = .int .i64 s.length ∧ fr 4 = sv ∧ fr 5 = pv ∧ fr 6 = .slice (some ⟨H2.length, 0, none⟩) s.length 0 ∧ fr 8 = .int .i64 i ∧ fr 66 = w ∧ fr 67 = .int .i64 bl.length ∧
        ∃ (t x : Nat), fr 68 = .int .i64 t ∧ fr 9 = vU x ∧ m = bl.length - t ∧ t ≤ bl.length ∧ x < 18446744073709551616 ∧ ∀ k, x.testBit k = true ↔ MB s out i t k) ?_ (n := bl.length) ?_
      · clear h3 h4 h5 h6 h8 fr
        rintro m fr H' ⟨rfl, h3, h4, h5, h6, h8, h66, h67, t, x, h68, h9, rfl, ht, hx, hM⟩
        obtain ⟨t', ht'⟩ : ∃ j, j = t + 1 := ⟨_, rfl⟩
        have wt : IntKind.i64.wrap ((t : Int) + 1) = (t' : Int) := by rw [wrap_i64 (by omega) (by omega)]; omega
        by_cases htl : t < bl.length
        · obtain ⟨p2, f1, f2⟩ := L1.at e5 (List.getElem?_eq_getElem htl)
          have htl' : t < (backs s s.length i).length := hbl ▸ htl
          obtain ⟨a, ha, hal, _⟩ := backs_mem.1 (List.getElem_mem htl')
          have hat : bl[t] = (a : Int) := by simp only [hbl]; exact ha
          rw [hat] at f2
          obtain ⟨b, hb'⟩ : ∃ b, seen[a]? = some b := ⟨_, List.getElem?_eq_getElem (by omega)⟩
          obtain ⟨p3, f3, f4⟩ := L1.at hs4 hb'
          cases b with
          | false =>
            have hnc : ¬ Come s a := fun hc => by rw [(hcome a).2 hc] at hb'; cases hb'
            simp [h3, h4, h5, h6, h8, h66, h67, h68, h9, htl, f1, f2, f3, f4, wt]
            exact ⟨_, by omega, t', rfl, x, rfl, rfl, by omega, hx, by rw [ht']; exact MB.skip htl' ha hnc hM⟩
          | true =>
            have hca : Come s a := (hcome a).1 hb'
            obtain ⟨z, hz⟩ : ∃ z, out[a]? = some z := ⟨_, List.getElem?_eq_getElem (by rw [hD.len]; omega)⟩
            have hzl := hD.lt z (List.mem_of_getElem? hz)
            have f5 := hcell a z hz
            have f6 := bits_and hx hzl
            simp [h3, h4, h5, h6, h8, h66, h67, h68, h9, htl, f1, f2, f3, f4, wt, hal, f5, f6]
            exact ⟨_, by omega, t', rfl, x &&& z, rfl, rfl, by omega, Nat.lt_of_le_of_lt Nat.and_le_left hx, by rw [ht']; exact MB.and htl' ha hca hz hM⟩
        · have htl' : t = bl.length := by omega
          rw [htl', hbl] at hM
          have hF := MB.done hM
          simp [h3, h4, h5, h6, h8, h66, h67, h68, h9, htl, fillL, cellsOf, setAll, newRow]
          have hi64 : i < 64 := by omega
          have hwn : withN x [(i : Int)] = x ||| 2 ^ i := by simp only [withN, List.foldl_cons, List.foldl_nil, bitN_nat hi64]
          obtain ⟨y, hy⟩ : ∃ y, y = x ||| 2 ^ i := ⟨_, rfl⟩
          rw [← hy] at hwn hF
          refine With_spec hx (L1.one (x := (i : Int)) (rw := true) (by simp)) (by simp [lim]) ?_
          rw [hwn]
          obtain ⟨z, hz⟩ : ∃ z, out[i]? = some z := ⟨_, List.getElem?_eq_getElem (by rw [hD.len]; omega)⟩
          have hil : i < out.length := by rw [hD.len]; omega
          have hil' : i + 1 ≤ out.length := hil
          have hzz : out[i] = z := (List.getElem?_eq_some_iff.1 hz).2
          subst hH3
          by_cases hyz : y = z
          · have hyz' : ((y : Int) = (z : Int)) := by omega
            simp [callK_def, h3, h4, h5, h6, h8, hlt, Heap.cell?, Heap.row?, hil, hzz, hyz, wi]
            exact ⟨65 - i', by omega, i', rfl, rfl, by omega, by omega, fun j x' h1 h2 h3 h4 => by
              by_cases e : j = i
              · subst e; rw [hz] at h4; cases h4; rw [← hyz]; exact hF
              · exact hfix j x' h1 (by omega) h3 h4⟩
          · have hyz' : ¬ ((y : Int) = (z : Int)) := by omega
            obtain ⟨g1, g2⟩ := hD.set hi1 hc hz hF hyz
            simp [callK_def, h3, h4, h5, h6, h8, hlt, Heap.cell?, Heap.row?, hil, hil', hzz, hyz, hyz', storeV, cellsOf, setAll]
            rw [show (List.map vU out).set i (vU y) = (out.set i y).map vU by rw [List.map_set]]
            exact hJ _ _ _ (by simp [h3]) (by simp [h4]) (by simp [h5]) (by simp [h6]) g1 g2
      · simp [h3, h4, h5, h6, h8]
        exact ⟨0, rfl, _, rfl, by simp, by simp, allN_lt hn, fun k => MB.zero⟩
  · have hdone : DomsOf s out := hD.done fun j x h1 h2 h3 => hfix j x h1 (by have := h2.lt; omega) h2 h3
    simp [domsB, domsT, domsRest, c_Doms, h3, h4, h5, h6, h8, hlt]
    exact hQ _ _ hdone (by simp [h6])

theorem DI.sum {s : List (List Int)} {out : List Nat} (h : DI s out) (hn : s.length ≤ 64) : out.sum < 65 * 18446744073709551616 := by
  have := sum_le out 18446744073709551616 fun x hx => Nat.le_of_lt (h.lt x hx)
  have : out.length * 18446744073709551616 ≤ 64 * 18446744073709551616 := Nat.mul_le_mul_right _ (by rw [h.len]; exact hn)
  omega

/-- What is set ahead of the passes. -/
structure Init (s : List (List Int)) (out : List Nat) (i : Nat) : Prop where
  len : out.length = s.length
  set : ∀ j x, 0 < j → j < i → out[j]? = some x → (Come s j → x = 2 ^ s.length - 1) ∧ (¬ Come s j → x = 0)

def DLoop (s : List (List Int)) (H : Heap) (m : Nat) (fr : Fr) (H' : Heap) : Prop := ∃ (seen : List Bool) (H2 : Heap) (sv pv : Value) (S1 S2 : Nat → Prop) (out : List Nat) (g : Heap), L1 vB S1 H2 sv seen ∧ seen.length = s.length ∧ (∀ i, seen[i]? = some true ↔ Come s i) ∧ L2 vI S2 H2 pv (preds s) ∧
    (∀ i, i < H.length → H2[i]? = H[i]?) ∧ H.length ≤ H2.length ∧ DI s out ∧ m = out.sum ∧ fr 3 = .int .i64 s.length ∧ fr 4 = sv ∧ fr 5 = pv ∧ fr 6 = .slice (some ⟨H2.length, 0, none⟩) s.length 0 ∧ H' = H2 ++ .row ⟨out.map vU, 1, 0, true⟩ :: g

set_option maxHeartbeats 4000000 in
theorem Doms_spec {H : Heap} {v : Value} {s : List (List Int)} {S : Nat → Prop} (hv : L2 vI S H v s) (hS : ∀ i, S i → i < H.length) (hn : s.length ≤ 64) (hsum : (s.map List.length).sum + s.length + 1 ≤ lim) :
    ACall prog 12 [v] H fun r H' => ∃ d, DomsOf s d ∧ L1 vU (From H.length) H' r d ∧ (∀ i, i < H.length → H'[i]? = H[i]?) ∧ H.length ≤ H'.length := by
  refine call_Doms (by simp) ?_
  have hlim : lim = 1048576 := rfl
  have hn' : ¬ (64 : Int) < (s.length : Int) := by omega
  simp [c_Doms, enterF]
  refine scope_rule (b := 65 * 18446744073709551616) (DLoop s H) ?_ ?_
  · rintro m fr H' ⟨seen, H2, sv, pv, S1, S2, out, g, k1, k2, k3, k4, k5, k6, hD, rfl, h3, h4, h5, h6, rfl⟩
    simp
    refine doms_pass hn k1 k2 k3 k4 hD (by simp [h3]) (by simp [h4]) (by simp [h5]) (by simp [h6]) (by simp) ?_ ?_
    · intro fr g out' q3 q4 q5 q6 hD' hlt
      exact ⟨out'.sum, hlt, seen, H2, sv, pv, S1, S2, out', g, k1, k2, k3, k4, k5, k6, hD', rfl, q3, q4, q5, q6, rfl⟩
    · intro fr g hdone q2
      simp [BodyK, resVs, resV, retV, q2]
      refine ⟨out, hdone, ?_, fun i hi => by rw [List.getElem?_append_left (by omega)]; exact k5 i hi, by omega⟩
      rw [← hdone.len]; exact L1.ofRow (rw := true) (by simp) k6
  · simp [enterF, hv.len, hn']
    refine (Reach_spec hv hS hsum).mono fun sv H1 => ?_
    rintro ⟨seen, hr, ⟨ext, rfl⟩, hsl, hcome⟩
    simp [callK_def, enterF]
    refine (Preds_spec (hv.app ext) (fun i h => by simp; omega) (by omega) (fun l hl => by have := len_le_sum hl; omega)).mono fun pv H2 => ?_
    rintro ⟨hp, hlow, hlen⟩
    have hs4 := hr.narrow.mono (fun _ h => h) fun i hi => (hlow i hi).symm
    have hnl : (s.length : Int) ≤ lim := by omega
    simp [callK_def, enterF, makeV, newRow, rep_one, hnl]
    refine loop_rule (fun m fr H' => fr 3 = .int .i64 s.length ∧ fr 4 = sv ∧ fr 5 = pv ∧ fr 6 = .slice (some ⟨H2.length, 0, none⟩) s.length 0 ∧ fr 23 = .int .i64 s.length ∧ ∃ (i : Nat) (out : List Nat), fr 24 = .int .i64 i ∧
      H' = H2 ++ [.row ⟨out.map vU, 1, 0, true⟩] ∧ m = s.length - i ∧ i ≤ s.length ∧ Init s out i) ?_ (n := s.length) ?_
    · rintro m fr H' ⟨h3, h4, h5, h6, h23, i, out, h24, rfl, rfl, hi, hI⟩
      obtain ⟨i', hi'⟩ : ∃ j, j = i + 1 := ⟨_, rfl⟩
      have wi : IntKind.i64.wrap ((i : Int) + 1) = (i' : Int) := by rw [wrap_i64 (by omega) (by omega)]; omega
      by_cases hlt : i < s.length
      · have hil : i < out.length := by rw [hI.len]; exact hlt
        have hil' : i + 1 ≤ out.length := hil
        have hnext : ∀ x, (0 < i → (Come s i → x = 2 ^ s.length - 1) ∧ (¬ Come s i → x = 0)) → Init s (out.set i x) i' := by
          intro x hx
          refine ⟨by simp [hI.len], fun j y h1 h2 h3 => ?_⟩
          by_cases e : j = i
          · subst e; rw [List.getElem?_set_self hil] at h3; cases h3; exact hx h1
          · rw [List.getElem?_set_ne (Ne.symm e)] at h3; exact hI.set j y h1 (by omega) h3
        simp [h3, h4, h5, h6, h23, h24, hlt]
        refine All_spec hn ?_
        by_cases hz : i = 0
        · subst hz
          have hpos : (0 : Int) < s.length := by omega
          have hp1 : 1 ≤ out.length := hil
          simp at wi
          have h24 : fr 24 = .int .i64 0 := h24
          simp [callK_def, h3, h4, h5, h6, h23, h24, hlt, hpos, hp1, storeV, cellsOf, setAll, Heap.row?, wi]
          exact ⟨s.length - i', by omega, i', rfl, out.set 0 0, (by rw [List.map_set]; rfl), rfl, by omega, hnext 0 fun h => by omega⟩
        · have hz' : ¬ ((i : Int) = 0) := by omega
          obtain ⟨b, hb⟩ : ∃ b, seen[i]? = some b := ⟨_, List.getElem?_eq_getElem (by omega)⟩
          obtain ⟨p, e1, e2⟩ := L1.at (hs4.app [.row ⟨(out.map vU).set i (vU (allN s.length)), 1, 0, true⟩]) hb
          cases b with
          | true =>
            have hc := (hcome i).1 hb
            simp [callK_def, h3, h4, h5, h6, h23, h24, hlt, storeV, cellsOf, setAll, Heap.row?, hil', hz, hz', wi, e1, e2]
            exact ⟨s.length - i', by omega, i', rfl, out.set i (allN s.length), by simp, rfl, by omega, hnext _ fun h => ⟨fun _ => rfl, fun h => absurd hc h⟩⟩
          | false =>
            have hc : ¬ Come s i := fun hc => by rw [(hcome i).2 hc] at hb; cases hb
            simp [callK_def, h3, h4, h5, h6, h23, h24, hlt, storeV, cellsOf, setAll, Heap.row?, hil', hz, hz', wi, e1, e2]
            exact ⟨s.length - i', by omega, i', rfl, out.set i 0, (by rw [List.map_set]; rfl), rfl, by omega, hnext 0 fun h => ⟨fun h => absurd h hc, fun _ => rfl⟩⟩
      · have hi2 : i = s.length := by omega
        subst hi2
        have pass : ∀ (out : List Nat) (g : Heap) (fr : Fr), DI s out → fr 3 = .int .i64 s.length → fr 4 = sv → fr 5 = pv → fr 6 = .slice (some ⟨H2.length, 0, none⟩) s.length 0 → fr 8 = .int .i64 1 →
            awp prog (.loop domsB) (BlockK 2 (SeqK (awp prog domsT (JumpK 0 (fun fr H' => ∃ k, k < 65 * 18446744073709551616 ∧ DLoop s H k fr H') (BodyK [RV.tmp 2] fun r H' => ∃ d, DomsOf s d ∧ L1 vU (From H.length) H' r d ∧ (∀ i, i < H.length → H'[i]? = H[i]?) ∧ H.length ≤ H'.length)))
              (JumpK 0 (fun fr H' => ∃ k, k < 65 * 18446744073709551616 ∧ DLoop s H k fr H') (BodyK [RV.tmp 2] fun r H' => ∃ d, DomsOf s d ∧ L1 vU (From H.length) H' r d ∧ (∀ i, i < H.length → H'[i]? = H[i]?) ∧ H.length ≤ H'.length))))
              fr (H2 ++ .row ⟨out.map vU, 1, 0, true⟩ :: g) := by
          intro out g fr hD q3 q4 q5 q6 q8
          have hlow2 : ∀ i, i < H.length → H2[i]? = H[i]? := fun i hi => by rw [hlow i (by simp; omega), List.getElem?_append_left hi]
          have hlen2 : H.length ≤ H2.length := by simp at hlen; omega
          refine doms_pass hn hs4 hsl hcome hp hD q3 q4 q5 q6 q8 ?_ ?_
          · intro fr g out' q3 q4 q5 q6 hD' hlt
            exact ⟨out'.sum, hD'.sum hn, seen, H2, sv, pv, _, _, out', g, hs4, hsl, hcome, hp, hlow2, hlen2, hD', rfl, q3, q4, q5, q6, rfl⟩
          · intro fr g hdone q2
            simp [BodyK, resVs, resV, retV, q2]
            refine ⟨out, hdone, ?_, fun i hi => by rw [List.getElem?_append_left (by omega)]; exact hlow2 i hi, by omega⟩
            rw [← hdone.len]; exact L1.ofRow (rw := true) (by simp) hlen2
        by_cases hpos : 0 < s.length
        · have hpos' : (0 : Int) < s.length := by omega
          have hp1 : 1 ≤ out.length := by rw [hI.len]; exact hpos
          have hD : DI s (out.set 0 1) := DI.new (by simp [hI.len]) hn (fun _ => List.getElem?_set_self (by omega)) fun i x h1 h2 => by
            rw [List.getElem?_set_ne (by omega)] at h2
            have := (List.getElem?_eq_some_iff.1 h2).1
            exact hI.set i x h1 (by rw [← hI.len]; exact this) h2
          have hw1 : withN 0 [0] = 1 := by decide
          simp [h3, h4, h5, h6, h23, h24, hpos, fillL, cellsOf, setAll, newRow]
          refine With_spec (s := 0) (by omega) (L1.one (x := 0) (rw := true) (by simp)) (by simp [lim]) ?_
          rw [hw1]
          simp [callK_def, h3, h4, h5, h6, hpos, hpos', hp1, storeV, cellsOf, setAll, Heap.row?]
          rw [show (List.map vU out).set 0 (vU 1) = (out.set 0 1).map vU by rw [List.map_set]]
          exact pass (out.set 0 1) [.row ⟨[.int .i64 0], 1, 0, true⟩] _ hD (by simp [h3]) (by simp [h4]) (by simp [h5]) (by simp [h6]) (by simp)
        · have hD : DI s out := DI.new hI.len hn (fun h => absurd h hpos) fun i x h1 h2 => by
            have := (List.getElem?_eq_some_iff.1 h2).1
            rw [hI.len] at this; omega
          simp [h3, h4, h5, h6, h23, h24, hpos]
          exact pass out [] _ hD (by simp [h3]) (by simp [h4]) (by simp [h5]) (by simp [h6]) (by simp)
    · simp
      exact ⟨0, rfl, List.replicate s.length 0, by simp, by simp, by simp, ⟨by simp, fun j x h1 h2 => by omega⟩⟩
end Am
