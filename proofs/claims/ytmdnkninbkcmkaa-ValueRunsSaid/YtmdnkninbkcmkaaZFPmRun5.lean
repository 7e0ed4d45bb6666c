/- The run of a program: what can go on, walked.
   No condition: plain lemmas. -/

import Derived.Test.YtmdnkninbkcmkaaZFPmRun4
import Derived.Test.YtmdnkninbkcmkaaZFPmCfgC
import Derived.Test.YtmdnkninbkcmkaaZFPmLoop
namespace Pm
set_option linter.unusedSimpArgs false
set_option linter.unusedVariables false
open Go Am
open Go.Proofs.Try (prog)

section
variable {p : Prog} {s : MS}
theorem vN_0 {i : Ins} : (vIns i)[0]? = some (v8 i.op) := Eq.trans rfl rfl
theorem vN_1 {i : Ins} : (vIns i)[1]? = some (vI i.a) := Eq.trans rfl rfl
theorem vN_2 {i : Ins} : (vIns i)[2]? = some (vI i.b) := Eq.trans rfl rfl
theorem vN_3 {i : Ins} : (vIns i)[3]? = some (vI i.c) := Eq.trans rfl rfl
theorem vS_0 : (vSt p s)[0]? = some (vI p.vars) := Eq.trans rfl rfl
theorem vS_1 : (vSt p s)[1]? = some (vI p.atoms) := Eq.trans rfl rfl
theorem vS_2 : (vSt p s)[2]? = some (vI p.locks) := Eq.trans rfl rfl
theorem vS_3 : (vSt p s)[3]? = some (vL vI p.chans) := Eq.trans rfl rfl
theorem vS_4 : (vSt p s)[4]? = some (vI p.groups) := Eq.trans rfl rfl
theorem vS_5 : (vSt p s)[5]? = some (vI p.onces) := Eq.trans rfl rfl
theorem vS_6 : (vSt p s)[6]? = some (vL (vM 4 vIns) p.threads) := Eq.trans rfl rfl
theorem vS_7 : (vSt p s)[7]? = some (vL vI s.at_) := Eq.trans rfl rfl
theorem vS_8 : (vSt p s)[8]? = some (vL vI s.g.began) := Eq.trans rfl rfl
theorem vS_9 : (vSt p s)[9]? = some (vL (vL vI) s.r) := Eq.trans rfl rfl
theorem vS_10 : (vSt p s)[10]? = some (vL vI s.g.vars) := Eq.trans rfl rfl
theorem vS_11 : (vSt p s)[11]? = some (vL vI s.g.atoms) := Eq.trans rfl rfl
theorem vS_12 : (vSt p s)[12]? = some (vL vI s.g.locks) := Eq.trans rfl rfl
theorem vS_13 : (vSt p s)[13]? = some (vL (vL vI) s.g.queue) := Eq.trans rfl rfl
theorem vS_14 : (vSt p s)[14]? = some (vL vI s.g.closed) := Eq.trans rfl rfl
theorem vS_15 : (vSt p s)[15]? = some (vL vI s.g.groups) := Eq.trans rfl rfl
theorem vS_16 : (vSt p s)[16]? = some (vL vI s.g.onces) := Eq.trans rfl rfl
theorem vS_17 : (vSt p s)[17]? = some (vL vI s.g.told) := Eq.trans rfl rfl
theorem vS_18 : (vSt p s)[18]? = some (vI s.g.trap) := Eq.trans rfl rfl
end
theorem gI_at {l : List Int} {x : Int} (h0 : 0 ≤ x) (h1 : x < l.length) : ∃ A : Nat, x = A ∧ (A : Int) < l.length ∧ A < l.length ∧ l[A]? = some (gI l x) := by
  obtain ⟨A, rfl⟩ : ∃ A : Nat, x = A := ⟨x.toNat, by omega⟩
  have hl : A < l.length := by omega
  refine ⟨A, rfl, h1, hl, ?_⟩
  unfold gI
  rw [show ((A : Int)).toNat = A by omega, List.getElem?_eq_getElem hl]
  rfl
theorem InsOk.many {p : Prog} {n : Nat} {i : Ins} (h : InsOk p n i) {k w : Nat} {m : Int} (hk : k < 3) (hw : wordAt i.op k = w) (h01 : w ≠ 0 ∧ w ≠ 1) (hm : manyP p n w = m) : 0 ≤ numAt i k ∧ numAt i k < m := by
  have := h.numOf hk
  rw [hw] at this
  have h2 := this.2 h01.1 h01.2
  rw [hm] at h2
  exact ⟨h2.1, h2.2.1⟩
section
variable {h : Heap} {K : Value → Heap → Prop}
theorem r4number_call {b : Bool} (hk : K (vI (numI b)) h) : PCall prog 45 [vB b] h K := by
  refine Pure.go (Pure.one (p := vI (numI b)) rfl fun h => ?_) hk
  refine call_r4number (by simp) ?_
  cases b <;> simp [c_r4number, BodyK, resVs, resV, retV, numI]
set_option maxHeartbeats 4000000 in
theorem r4blocked_call {p : Prog} {n : Nat} {s : MS} {i : Ins} (hs : Shape p s) (ho : InsOk p n i) (hk : K (vB (blockedM p.chans s.g i)) h) : PCall prog 66 [.agg (vSt p s).toArray, .agg (vIns i).toArray] h K := by
  refine Pure.go (Pure.one (p := vB (blockedM p.chans s.g i)) rfl fun h => ?_) hk
  refine call_r4blocked (by simp) ?_
  have h27 := ho.op
  have w0 : ∀ {w : Nat} {m : Int}, wordAt i.op 0 = w → w ≠ 0 ∧ w ≠ 1 → manyP p n w = m → 0 ≤ i.a ∧ i.a < m := fun h1 h2 h3 => ho.many (k := 0) (by omega) h1 h2 h3
  have w1 : ∀ {w : Nat} {m : Int}, wordAt i.op 1 = w → w ≠ 0 ∧ w ≠ 1 → manyP p n w = m → 0 ≤ i.b ∧ i.b < m := fun h1 h2 h3 => ho.many (k := 1) (by omega) h1 h2 h3
  by_cases o13 : i.op = 13
  · have hw := w0 (w := 7) (by rw [o13]; rfl) (by decide) rfl
    obtain ⟨A, hA0, hA1, hA, hA2⟩ := gI_at (l := s.g.locks) hw.1 (by rw [hs.locks]; exact hw.2)
    have e : blockedM p.chans s.g i = decide ((gI s.g.locks i.a) ≠ 0) := by unfold blockedM; simp only [o13]
    rw [e]
    obtain ⟨y, hy⟩ : ∃ y, y = gI s.g.locks i.a := ⟨_, rfl⟩
    rw [← hy] at hA2 ⊢
    simp [new_box, app_box, len_box, cell_box, cell_box0, cells_box, cells_box0, store_box, store_box0, cellB_bx, cellsB_bx, storeB_bx, BodyK, resVs, resV, retV, box_all, cast_lit, wrap_1, wrap_2, wrap_3, wrap_4, c_r4blocked, -cellsOf_agg, vSt_len, vSt_take, vSt_of, vS_0, vS_1, vS_2, vS_3, vS_4, vS_5, vS_6, vS_7, vS_8, vS_9, vS_10, vS_11, vS_12, vS_13, vS_14, vS_15, vS_16, vS_17, vS_18, vIns_len, take_vIns, cellsOf_vIns, vN_0, vN_1, vN_2, vN_3, o13, hA0, hA1, hA2]
  by_cases o15 : i.op = 15
  · have hw := w0 (w := 7) (by rw [o15]; rfl) (by decide) rfl
    obtain ⟨A, hA0, hA1, hA, hA2⟩ := gI_at (l := s.g.locks) hw.1 (by rw [hs.locks]; exact hw.2)
    have e : blockedM p.chans s.g i = decide ((gI s.g.locks i.a) = -1) := by unfold blockedM; simp only [o15]
    rw [e]
    obtain ⟨y, hy⟩ : ∃ y, y = gI s.g.locks i.a := ⟨_, rfl⟩
    rw [← hy] at hA2 ⊢
    simp [new_box, app_box, len_box, cell_box, cell_box0, cells_box, cells_box0, store_box, store_box0, cellB_bx, cellsB_bx, storeB_bx, BodyK, resVs, resV, retV, box_all, cast_lit, wrap_1, wrap_2, wrap_3, wrap_4, c_r4blocked, -cellsOf_agg, vSt_len, vSt_take, vSt_of, vS_0, vS_1, vS_2, vS_3, vS_4, vS_5, vS_6, vS_7, vS_8, vS_9, vS_10, vS_11, vS_12, vS_13, vS_14, vS_15, vS_16, vS_17, vS_18, vIns_len, take_vIns, cellsOf_vIns, vN_0, vN_1, vN_2, vN_3, o15, hA0, hA1, hA2]
  by_cases o20 : i.op = 20
  · have hw := w0 (w := 9) (by rw [o20]; rfl) (by decide) rfl
    obtain ⟨A, hA0, hA1, hA, hA2⟩ := gI_at (l := s.g.closed) hw.1 (by rw [hs.closed]; exact hw.2)
    obtain ⟨A', hA0', hB1, hB, hB2⟩ := gI_at (l := p.chans) hw.1 hw.2
    obtain rfl : A = A' := by omega
    have hq := gL_at (q := s.g.queue) hw.1 (by rw [hs.queue]; exact hw.2)
    have hql : (A : Int) < s.g.queue.length := by rw [hs.queue]; exact hB1
    rw [hA0, show ((A : Int)).toNat = A by omega] at hq
    have e : blockedM p.chans s.g i = decide (gI s.g.closed i.a = 0 ∧ ((gL s.g.queue i.a).length : Int) = gI p.chans i.a) := by unfold blockedM; simp only [o20]
    rw [e]
    obtain ⟨y, hy⟩ : ∃ y, y = gI s.g.closed i.a := ⟨_, rfl⟩
    obtain ⟨z, hz⟩ : ∃ z, z = gI p.chans i.a := ⟨_, rfl⟩
    rw [← hy] at hA2 ⊢
    rw [← hz] at hB2 ⊢
    rw [hA0]
    obtain ⟨q, hqq⟩ : ∃ q, q = gL s.g.queue (A : Int) := ⟨_, rfl⟩
    rw [← hqq] at hq ⊢
    by_cases hy0 : y = 0
    · simp [new_box, app_box, len_box, cell_box, cell_box0, cells_box, cells_box0, store_box, store_box0, cellB_bx, cellsB_bx, storeB_bx, BodyK, resVs, resV, retV, box_all, cast_lit, wrap_1, wrap_2, wrap_3, wrap_4, c_r4blocked, -cellsOf_agg, vSt_len, vSt_take, vSt_of, vS_0, vS_1, vS_2, vS_3, vS_4, vS_5, vS_6, vS_7, vS_8, vS_9, vS_10, vS_11, vS_12, vS_13, vS_14, vS_15, vS_16, vS_17, vS_18, vIns_len, take_vIns, cellsOf_vIns, vN_0, vN_1, vN_2, vN_3, o20, hA0, hA1, hA2, hB1, hB2, hq, hql, hy0]
    · simp [new_box, app_box, len_box, cell_box, cell_box0, cells_box, cells_box0, store_box, store_box0, cellB_bx, cellsB_bx, storeB_bx, BodyK, resVs, resV, retV, box_all, cast_lit, wrap_1, wrap_2, wrap_3, wrap_4, c_r4blocked, -cellsOf_agg, vSt_len, vSt_take, vSt_of, vS_0, vS_1, vS_2, vS_3, vS_4, vS_5, vS_6, vS_7, vS_8, vS_9, vS_10, vS_11, vS_12, vS_13, vS_14, vS_15, vS_16, vS_17, vS_18, vIns_len, take_vIns, cellsOf_vIns, vN_0, vN_1, vN_2, vN_3, o20, hA0, hA1, hA2, hB1, hB2, hq, hql, hy0]
  by_cases o21 : i.op = 21
  · have hw := w1 (w := 9) (by rw [o21]; rfl) (by decide) rfl
    obtain ⟨A, hA0, hA1, hA, hA2⟩ := gI_at (l := s.g.closed) hw.1 (by rw [hs.closed]; exact hw.2)
    have hq := gL_at (q := s.g.queue) hw.1 (by rw [hs.queue]; exact hw.2)
    have hql : (A : Int) < s.g.queue.length := by rw [hs.queue, ← hs.closed]; exact hA1
    rw [hA0, show ((A : Int)).toNat = A by omega] at hq
    have e : blockedM p.chans s.g i = decide (gI s.g.closed i.b = 0 ∧ (gL s.g.queue i.b).length = 0) := by unfold blockedM; simp only [o21]
    rw [e]
    obtain ⟨y, hy⟩ : ∃ y, y = gI s.g.closed i.b := ⟨_, rfl⟩
    rw [← hy] at hA2 ⊢
    rw [hA0]
    obtain ⟨q, hqq⟩ : ∃ q, q = gL s.g.queue (A : Int) := ⟨_, rfl⟩
    rw [← hqq] at hq ⊢
    by_cases hy0 : y = 0
    · simp [new_box, app_box, len_box, cell_box, cell_box0, cells_box, cells_box0, store_box, store_box0, cellB_bx, cellsB_bx, storeB_bx, BodyK, resVs, resV, retV, box_all, cast_lit, wrap_1, wrap_2, wrap_3, wrap_4, c_r4blocked, -cellsOf_agg, vSt_len, vSt_take, vSt_of, vS_0, vS_1, vS_2, vS_3, vS_4, vS_5, vS_6, vS_7, vS_8, vS_9, vS_10, vS_11, vS_12, vS_13, vS_14, vS_15, vS_16, vS_17, vS_18, vIns_len, take_vIns, cellsOf_vIns, vN_0, vN_1, vN_2, vN_3, o21, hA0, hA1, hA2, hq, hql, hy0]
    · simp [new_box, app_box, len_box, cell_box, cell_box0, cells_box, cells_box0, store_box, store_box0, cellB_bx, cellsB_bx, storeB_bx, BodyK, resVs, resV, retV, box_all, cast_lit, wrap_1, wrap_2, wrap_3, wrap_4, c_r4blocked, -cellsOf_agg, vSt_len, vSt_take, vSt_of, vS_0, vS_1, vS_2, vS_3, vS_4, vS_5, vS_6, vS_7, vS_8, vS_9, vS_10, vS_11, vS_12, vS_13, vS_14, vS_15, vS_16, vS_17, vS_18, vIns_len, take_vIns, cellsOf_vIns, vN_0, vN_1, vN_2, vN_3, o21, hA0, hA1, hA2, hq, hql, hy0]
  by_cases o25 : i.op = 25
  · have hw := w0 (w := 10) (by rw [o25]; rfl) (by decide) rfl
    obtain ⟨A, hA0, hA1, hA, hA2⟩ := gI_at (l := s.g.groups) hw.1 (by rw [hs.groups]; exact hw.2)
    have e : blockedM p.chans s.g i = decide (0 < (gI s.g.groups i.a)) := by unfold blockedM; simp only [o25]
    rw [e]
    obtain ⟨y, hy⟩ : ∃ y, y = gI s.g.groups i.a := ⟨_, rfl⟩
    rw [← hy] at hA2 ⊢
    simp [new_box, app_box, len_box, cell_box, cell_box0, cells_box, cells_box0, store_box, store_box0, cellB_bx, cellsB_bx, storeB_bx, BodyK, resVs, resV, retV, box_all, cast_lit, wrap_1, wrap_2, wrap_3, wrap_4, c_r4blocked, -cellsOf_agg, vSt_len, vSt_take, vSt_of, vS_0, vS_1, vS_2, vS_3, vS_4, vS_5, vS_6, vS_7, vS_8, vS_9, vS_10, vS_11, vS_12, vS_13, vS_14, vS_15, vS_16, vS_17, vS_18, vIns_len, take_vIns, cellsOf_vIns, vN_0, vN_1, vN_2, vN_3, o25, hA0, hA1, hA2]
  by_cases o26 : i.op = 26
  · have hw := w1 (w := 11) (by rw [o26]; rfl) (by decide) rfl
    obtain ⟨A, hA0, hA1, hA, hA2⟩ := gI_at (l := s.g.onces) hw.1 (by rw [hs.onces]; exact hw.2)
    have e : blockedM p.chans s.g i = decide ((gI s.g.onces i.b) = 1) := by unfold blockedM; simp only [o26]
    rw [e]
    obtain ⟨y, hy⟩ : ∃ y, y = gI s.g.onces i.b := ⟨_, rfl⟩
    rw [← hy] at hA2 ⊢
    simp [new_box, app_box, len_box, cell_box, cell_box0, cells_box, cells_box0, store_box, store_box0, cellB_bx, cellsB_bx, storeB_bx, BodyK, resVs, resV, retV, box_all, cast_lit, wrap_1, wrap_2, wrap_3, wrap_4, c_r4blocked, -cellsOf_agg, vSt_len, vSt_take, vSt_of, vS_0, vS_1, vS_2, vS_3, vS_4, vS_5, vS_6, vS_7, vS_8, vS_9, vS_10, vS_11, vS_12, vS_13, vS_14, vS_15, vS_16, vS_17, vS_18, vIns_len, take_vIns, cellsOf_vIns, vN_0, vN_1, vN_2, vN_3, o26, hA0, hA1, hA2]
  have e : blockedM p.chans s.g i = false := by
    unfold blockedM
    split <;> first | rfl | (rename_i hh; exact absurd hh (by assumption))
  rw [e]
  have z13 : ¬ (i.op : Int) = 13 := by omega
  have z15 : ¬ (i.op : Int) = 15 := by omega
  have z20 : ¬ (i.op : Int) = 20 := by omega
  have z21 : ¬ (i.op : Int) = 21 := by omega
  have z25 : ¬ (i.op : Int) = 25 := by omega
  have z26 : ¬ (i.op : Int) = 26 := by omega
  simp [new_box, app_box, len_box, cell_box, cell_box0, cells_box, cells_box0, store_box, store_box0, cellB_bx, cellsB_bx, storeB_bx, BodyK, resVs, resV, retV, box_all, cast_lit, wrap_1, wrap_2, wrap_3, wrap_4, c_r4blocked, -cellsOf_agg, vSt_len, vSt_take, vSt_of, vS_0, vS_1, vS_2, vS_3, vS_4, vS_5, vS_6, vS_7, vS_8, vS_9, vS_10, vS_11, vS_12, vS_13, vS_14, vS_15, vS_16, vS_17, vS_18, vIns_len, take_vIns, cellsOf_vIns, vN_0, vN_1, vN_2, vN_3, z13, z15, z20, z21, z25, z26, o13, o15, o20, o21, o25, o26]
set_option maxHeartbeats 4000000 in
theorem r4Can_call {p : Prog} {s : MS} {k : Int} (hp : SoundP p) (hs : Shape p s) (hk : K (vB (canM p s k)) h) : PCall prog 44 [.agg (vSt p s).toArray, vI k] h K := by
  refine Pure.go (Pure.one (p := vB (canM p s k)) rfl fun h => ?_) hk
  refine call_r4Can (by simp) ?_
  by_cases h0 : k < 0
  · have e : canM p s k = false := by unfold canM; simp; omega
    rw [e]
    simp [new_box, app_box, len_box, cell_box, cell_box0, cells_box, cells_box0, store_box, store_box0, cellB_bx, cellsB_bx, storeB_bx, BodyK, resVs, resV, retV, box_all, cast_lit, wrap_1, wrap_2, wrap_3, wrap_4, c_r4Can, -cellsOf_agg, vSt_len, vSt_take, vSt_of, vS_0, vS_1, vS_2, vS_3, vS_4, vS_5, vS_6, vS_7, vS_8, vS_9, vS_10, vS_11, vS_12, vS_13, vS_14, vS_15, vS_16, vS_17, vS_18, vIns_len, take_vIns, cellsOf_vIns, vN_0, vN_1, vN_2, vN_3, h0]
  by_cases h1 : (s.at_.length : Int) ≤ k
  · have e : canM p s k = false := by unfold canM; simp; omega
    rw [e]
    simp [new_box, app_box, len_box, cell_box, cell_box0, cells_box, cells_box0, store_box, store_box0, cellB_bx, cellsB_bx, storeB_bx, BodyK, resVs, resV, retV, box_all, cast_lit, wrap_1, wrap_2, wrap_3, wrap_4, c_r4Can, -cellsOf_agg, vSt_len, vSt_take, vSt_of, vS_0, vS_1, vS_2, vS_3, vS_4, vS_5, vS_6, vS_7, vS_8, vS_9, vS_10, vS_11, vS_12, vS_13, vS_14, vS_15, vS_16, vS_17, vS_18, vIns_len, take_vIns, cellsOf_vIns, vN_0, vN_1, vN_2, vN_3, h0, h1]
  obtain ⟨n, rfl⟩ : ∃ n : Nat, k = n := ⟨k.toNat, by omega⟩
  have hn : n < s.at_.length := by omega
  have hnt : n < p.threads.length := by rw [← hs.at_]; exact hn
  obtain ⟨B, hB0, hB1, hB, hB2⟩ := gI_at (l := s.g.began) (x := (n : Int)) (by omega) (by rw [hs.began]; omega)
  obtain rfl : n = B := by omega
  obtain ⟨A, hA0, hA1, hA, hA2⟩ := gI_at (l := s.at_) (x := (n : Int)) (by omega) (by omega)
  obtain rfl : n = A := by omega
  have ht : p.threads[n]? = some p.threads[n] := List.getElem?_eq_getElem hnt
  obtain ⟨g0, g1⟩ := hs.pc n _ _ hA2 ht
  obtain ⟨a, ha⟩ : ∃ a : Nat, gI s.at_ n = a := ⟨(gI s.at_ n).toNat, by omega⟩
  rw [ha] at hA2 g1
  obtain ⟨bg, hbg⟩ : ∃ bg, bg = gI s.g.began n := ⟨_, rfl⟩
  obtain ⟨t, htt⟩ : ∃ t, t = p.threads[n] := ⟨_, rfl⟩
  rw [← hbg] at hB2
  rw [← htt] at ht g1
  have hnp : (n : Int) < p.threads.length := by omega
  have hins : insAt p s n = t[a]? := by unfold insAt; rw [ht, hA2]; simp
  have hcan : canM p s n = (decide (bg ≠ 0) && decide (s.g.trap ≠ 1) && match t[a]? with | some i => !blockedM p.chans s.g i | none => false) := by
    unfold canM
    rw [show ((n : Int)).toNat = n by omega, hins, ← hbg]
    have z1 : decide (0 ≤ (n : Int)) = true := by simp
    have z2 : decide ((n : Int) < (s.at_.length : Int)) = true := by simp; omega
    rw [z1, z2, Bool.true_and, Bool.true_and]
    rfl
  rw [hcan]
  have h1' : (n : Int) < s.at_.length := by omega
  by_cases hb0 : bg = 0
  · rw [hb0] at hB2
    simp [new_box, app_box, len_box, cell_box, cell_box0, cells_box, cells_box0, store_box, store_box0, cellB_bx, cellsB_bx, storeB_bx, BodyK, resVs, resV, retV, box_all, cast_lit, wrap_1, wrap_2, wrap_3, wrap_4, c_r4Can, -cellsOf_agg, vSt_len, vSt_take, vSt_of, vS_0, vS_1, vS_2, vS_3, vS_4, vS_5, vS_6, vS_7, vS_8, vS_9, vS_10, vS_11, vS_12, vS_13, vS_14, vS_15, vS_16, vS_17, vS_18, vIns_len, take_vIns, cellsOf_vIns, vN_0, vN_1, vN_2, vN_3, h0, h1, hA1, hA2, hB1, hB2, hb0]
  by_cases hend : t.length ≤ a
  · have hend' : (t.length : Int) ≤ a := by omega
    have hn0 : t[a]? = none := List.getElem?_eq_none hend
    simp [new_box, app_box, len_box, cell_box, cell_box0, cells_box, cells_box0, store_box, store_box0, cellB_bx, cellsB_bx, storeB_bx, BodyK, resVs, resV, retV, box_all, cast_lit, wrap_1, wrap_2, wrap_3, wrap_4, c_r4Can, -cellsOf_agg, vSt_len, vSt_take, vSt_of, vS_0, vS_1, vS_2, vS_3, vS_4, vS_5, vS_6, vS_7, vS_8, vS_9, vS_10, vS_11, vS_12, vS_13, vS_14, vS_15, vS_16, vS_17, vS_18, vIns_len, take_vIns, cellsOf_vIns, vN_0, vN_1, vN_2, vN_3, h0, h1, hA1, hA2, hB1, hB2, hb0, hend, hend', ht, hnp, hn0]
  have hend' : ¬ (t.length : Int) ≤ a := by omega
  have hta : t[a]? = some t[a] := List.getElem?_eq_getElem (by omega)
  obtain ⟨c, hc⟩ : ∃ c, c = t[a] := ⟨_, rfl⟩
  rw [← hc] at hta
  have hat : (a : Int) < t.length := by omega
  have hok := (hp.code t (List.mem_of_getElem? ht)).2 c (List.mem_of_getElem? hta)
  obtain ⟨tr, htr⟩ : ∃ tr, tr = s.g.trap := ⟨_, rfl⟩
  rw [← htr]
  by_cases htr1 : tr = 1
  · simp [new_box, app_box, len_box, cell_box, cell_box0, cells_box, cells_box0, store_box, store_box0, cellB_bx, cellsB_bx, storeB_bx, BodyK, resVs, resV, retV, box_all, cast_lit, wrap_1, wrap_2, wrap_3, wrap_4, c_r4Can, -cellsOf_agg, vSt_len, vSt_take, vSt_of, vS_0, vS_1, vS_2, vS_3, vS_4, vS_5, vS_6, vS_7, vS_8, vS_9, vS_10, vS_11, vS_12, vS_13, vS_14, vS_15, vS_16, vS_17, vS_18, vIns_len, take_vIns, cellsOf_vIns, vN_0, vN_1, vN_2, vN_3, h0, h1, hA1, hA2, hB1, hB2, hb0, hend, hend', ht, hnp, ← htr, htr1]
  simp [new_box, app_box, len_box, cell_box, cell_box0, cells_box, cells_box0, store_box, store_box0, cellB_bx, cellsB_bx, storeB_bx, BodyK, resVs, resV, retV, box_all, cast_lit, wrap_1, wrap_2, wrap_3, wrap_4, c_r4Can, -cellsOf_agg, vSt_len, vSt_take, vSt_of, vS_0, vS_1, vS_2, vS_3, vS_4, vS_5, vS_6, vS_7, vS_8, vS_9, vS_10, vS_11, vS_12, vS_13, vS_14, vS_15, vS_16, vS_17, vS_18, vIns_len, take_vIns, cellsOf_vIns, vN_0, vN_1, vN_2, vN_3, h0, h1, hA1, hA2, hB1, hB2, hb0, hend, hend', ht, hnp, ← htr, htr1, hta, hat]
  refine r4blocked_call hs hok ?_
  simp [new_box, app_box, len_box, cell_box, cell_box0, cells_box, cells_box0, store_box, store_box0, cellB_bx, cellsB_bx, storeB_bx, BodyK, resVs, resV, retV, box_all, cast_lit, wrap_1, wrap_2, wrap_3, wrap_4, callK_def]
end
end Pm
