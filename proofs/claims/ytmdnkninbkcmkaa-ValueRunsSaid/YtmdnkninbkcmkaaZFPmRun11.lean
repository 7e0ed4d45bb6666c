/- Numbers that are known are so in every run.
   No condition: plain lemmas. -/

import Derived.Test.YtmdnkninbkcmkaaZFPmRun10
import Derived.Test.YtmdnkninbkcmkaaZFPmRun3
import Derived.Test.YtmdnkninbkcmkaaZFPmVal10
namespace Pm
set_option linter.unusedSimpArgs false
set_option linter.unusedVariables false
open Go Am
open Go.Proofs.Try (prog)

theorem setAll_vSt2 {p : Prog} {s : MS} {z : List Value} (h : z.length = 19) : setAll z 0 (vSt p s) = vSt p s := setAll_all (by rw [vSt_len, h])
theorem vPr_of {p : Prog} : cellsOf (.agg (vProg p).toArray) = some (vProg p) := rfl
theorem vPr_len {p : Prog} : (vProg p).length = 7 := rfl
theorem vPr_take {p : Prog} : List.take 7 (vProg p) = vProg p := rfl
theorem vPr_6 {p : Prog} : (vProg p)[6]? = some (vL (vM 4 vIns) p.threads) := Eq.trans rfl rfl
theorem setAll_vPr {p : Prog} {z : List Value} (h : z.length = 7) : setAll z 0 (vProg p) = vProg p := setAll_all (by rw [vPr_len, h])

/-- What is known of every thread, of a state. -/
def RelW (p : Prog) (k i : Nat) (r r' : List Int) : Prop := r' = r ∧ ∀ t v, p.threads[k]? = some t → Least t v → KnowsAt v t i r
theorem pair_w {p : Prog} (hp : SoundP p) : Pair p p (RelW p) := by
  refine ⟨rfl, fun k t t' h h' => by rw [h] at h'; cases h'; rfl, rfl, fun k t t' i c c' r r' g ht ht' hc hc' h4 h4' ⟨hr, hr2⟩ => ?_⟩
  rw [ht] at ht'; cases ht'
  rw [hc] at hc'; cases hc'
  subst hr
  refine ⟨rfl, rfl, rfl, fun j hj => ⟨rfl, fun t' v ht' hv => ?_⟩⟩
  rw [ht] at ht'; cases ht'
  exact (hr2 t v ht hv).next hv ((hp.code t (List.mem_of_getElem? ht)).2 c (List.mem_of_getElem? hc)) hc h4 k g hj
theorem sim_w {p : Prog} : Sim (RelW p) (newM p) (newM p) := by
  refine ⟨rfl, rfl, fun k i r r' h1 h2 h3 => ?_⟩
  rw [h2] at h3; cases h3
  refine ⟨rfl, fun t v ht hv => ?_⟩
  rw [newM_at h1, newM_r h2]
  exact .start hv
section
variable {h : Heap}
set_option maxHeartbeats 8000000 in
theorem ValueRuns_spec' (h : Heap) (l : List (List Nat)) (c : List Nat) (hl : Short l ∧ ∀ c ∈ l, Bytes c) (hc : ∀ x ∈ c, x ≤ 255) : PCall prog 4 [vL (vL v8) l, vL v8 c] h fun r _ => r = .bool true := by
  refine call_ValueRuns (by simp) ?_
  have hlim : lim = 1048576 := rfl
  have hp := make_sound l
  simp [-pwp_seq, new_box, app_box, len_box, cell_box, cell_box0, cells_box, cells_box0, store_box, store_box0, cellB_bx, cellsB_bx, storeB_bx, BodyK, resVs, resV, retV, box_all, cast_lit, wrap_1, wrap_2, wrap_3, wrap_4, c_ValueRuns]
  refine Make_ok hl ?_
  obtain ⟨p, hpe⟩ : ∃ p, p = makeP l := ⟨_, rfl⟩
  rw [← hpe] at hp ⊢
  simp [-pwp_seq, new_box, app_box, len_box, cell_box, cell_box0, cells_box, cells_box0, store_box, store_box0, cellB_bx, cellsB_bx, storeB_bx, BodyK, resVs, resV, retV, box_all, cast_lit, wrap_1, wrap_2, wrap_3, wrap_4, callK_def, -cellsOf_agg, vSt_len, vSt_take, vSt_of, vS_0, vS_1, vS_2, vS_3, vS_4, vS_5, vS_6, vS_7, vS_8, vS_9, vS_10, vS_11, vS_12, vS_13, vS_14, vS_15, vS_16, vS_17, vS_18, setAll_vSt2, vPr_of, setAll_vPr, vPr_len, vPr_take, vPr_6]
  refine r4New_call hp ?_
  simp [-pwp_seq, new_box, app_box, len_box, cell_box, cell_box0, cells_box, cells_box0, store_box, store_box0, cellB_bx, cellsB_bx, storeB_bx, BodyK, resVs, resV, retV, box_all, cast_lit, wrap_1, wrap_2, wrap_3, wrap_4, callK_def, -cellsOf_agg, vSt_len, vSt_take, vSt_of, vS_0, vS_1, vS_2, vS_3, vS_4, vS_5, vS_6, vS_7, vS_8, vS_9, vS_10, vS_11, vS_12, vS_13, vS_14, vS_15, vS_16, vS_17, vS_18, setAll_vSt2, vPr_of, setAll_vPr, vPr_len, vPr_take, vPr_6]
  refine Picks_call hc ?_
  obtain ⟨ps, hps⟩ : ∃ ps, ps = picksOf c := ⟨_, rfl⟩
  rw [← hps]
  have hpl : ps.length ≤ 60 := by rw [hps]; unfold picksOf; simp; omega
  simp [-pwp_seq, new_box, app_box, len_box, cell_box, cell_box0, cells_box, cells_box0, store_box, store_box0, cellB_bx, cellsB_bx, storeB_bx, BodyK, resVs, resV, retV, box_all, cast_lit, wrap_1, wrap_2, wrap_3, wrap_4, callK_def, -cellsOf_agg, vSt_len, vSt_take, vSt_of, vS_0, vS_1, vS_2, vS_3, vS_4, vS_5, vS_6, vS_7, vS_8, vS_9, vS_10, vS_11, vS_12, vS_13, vS_14, vS_15, vS_16, vS_17, vS_18, setAll_vSt2, vPr_of, setAll_vPr, vPr_len, vPr_take, vPr_6]
  rw [pwp_seq]
  simp [-pwp_seq, new_box, app_box, len_box, cell_box, cell_box0, cells_box, cells_box0, store_box, store_box0, cellB_bx, cellsB_bx, storeB_bx, BodyK, resVs, resV, retV, box_all, cast_lit, wrap_1, wrap_2, wrap_3, wrap_4]
  refine loop_l (σ := Nat × MS × Heap) (fun x => [(5, ptr h.length), (6, ptr (h.length + 1)), (8, vL vI ps), (9, vI x.1)]) (fun x => h ++ (bx (vProg p) 7 :: bx (vSt p x.2.1) 19 :: x.2.2)) (fun x => x.1 ≤ ps.length ∧ Shape p x.2.1 ∧ Sim (RelW p) x.2.1 x.2.1 ∧ x.2.1.g.told.length ≤ x.1) (fun x => ps.length - x.1) (0, newM p, []) (by simp) (by simp) ⟨by simp, newM_shape hp, sim_w, by simp [newM]⟩ ?_
  rintro ⟨i, s0, g0⟩ fr ⟨hi, hs0, hw0, ht0⟩
  simp only at hi hs0 hw0 ht0 ⊢
  by_cases hlt : i < ps.length
  · obtain ⟨i1, hi1, wi⟩ := wrap_next (show i < lim by omega)
    have hif : (i : Int) < ps.length := by omega
    have hx : ps[i]? = some ps[i] := List.getElem?_eq_getElem hlt
    obtain ⟨x, hxx⟩ : ∃ x, x = ps[i] := ⟨_, rfl⟩
    rw [← hxx] at hx
    rw [pwp_seq]
    simp [-pwp_seq, new_box, app_box, len_box, cell_box, cell_box0, cells_box, cells_box0, store_box, store_box0, cellB_bx, cellsB_bx, storeB_bx, BodyK, resVs, resV, retV, box_all, cast_lit, wrap_1, wrap_2, wrap_3, wrap_4, hif]
    rw [pwp_seq]
    simp [-pwp_seq, new_box, app_box, len_box, cell_box, cell_box0, cells_box, cells_box0, store_box, store_box0, cellB_bx, cellsB_bx, storeB_bx, BodyK, resVs, resV, retV, box_all, cast_lit, wrap_1, wrap_2, wrap_3, wrap_4, -cellsOf_agg, vSt_len, vSt_take, vSt_of, vS_0, vS_1, vS_2, vS_3, vS_4, vS_5, vS_6, vS_7, vS_8, vS_9, vS_10, vS_11, vS_12, vS_13, vS_14, vS_15, vS_16, vS_17, vS_18, setAll_vSt2, vPr_of, setAll_vPr, vPr_len, vPr_take, vPr_6, hx, hif]
    refine r4Step_call hp hs0 (by omega) ?_
    obtain ⟨hs1, ht1⟩ := stepM_shape hp hs0 x
    have hw1 := (hw0.step (pair_w hp) hp hp hs0 hs0 x).1
    obtain ⟨s, hse⟩ : ∃ s, s = (stepM p s0 x).1 := ⟨_, rfl⟩
    rw [← hse] at hs1 ht1 hw1 ⊢
    clear hs0 hw0
    have hsa : setAll (vSt p s0) 0 (vSt p s) = vSt p s := setAll_vSt2 vSt_len
    simp [-pwp_seq, new_box, app_box, len_box, cell_box, cell_box0, cells_box, cells_box0, store_box, store_box0, cellB_bx, cellsB_bx, storeB_bx, BodyK, resVs, resV, retV, box_all, cast_lit, wrap_1, wrap_2, wrap_3, wrap_4, callK_def, -cellsOf_agg, vSt_len, vSt_take, vSt_of, vS_0, vS_1, vS_2, vS_3, vS_4, vS_5, vS_6, vS_7, vS_8, vS_9, vS_10, vS_11, vS_12, vS_13, vS_14, vS_15, vS_16, vS_17, vS_18, setAll_vSt2, vPr_of, setAll_vPr, vPr_len, vPr_take, vPr_6, hsa]
    refine loop_l (σ := Nat × Heap) (fun x => [(5, ptr h.length), (6, ptr (h.length + 1)), (8, vL vI ps), (9, vI i), (10, vI x.1)]) (fun x => h ++ (bx (vProg p) 7 :: bx (vSt p s) 19 :: x.2)) (fun x => x.1 ≤ p.threads.length) (fun x => p.threads.length - x.1) (0, g0) (by simp) (by simp) (by simp) ?_
    rintro ⟨k, g1⟩ fr hk
    simp only at hk ⊢
    have hth := hp.threads
    by_cases hkt : k < p.threads.length
    · obtain ⟨k1, hk1, wk⟩ := wrap_next (show k < lim by omega)
      have hkf : (k : Int) < p.threads.length := by omega
      have hkr : k < s.r.length := by rw [hs1.r]; exact hkt
      have hka : k < s.at_.length := by rw [hs1.at_]; exact hkt
      have hkrI : (k : Int) < s.r.length := by omega
      have hkaI : (k : Int) < s.at_.length := by omega
      have ht : p.threads[k]? = some p.threads[k] := List.getElem?_eq_getElem hkt
      obtain ⟨t, htt⟩ : ∃ t, t = p.threads[k] := ⟨_, rfl⟩
      rw [← htt] at ht
      obtain ⟨htl, hto⟩ := hp.code t (List.mem_of_getElem? ht)
      have ha : s.at_[k]? = some s.at_[k] := List.getElem?_eq_getElem hka
      obtain ⟨p0, p1⟩ := hs1.pc k _ t ha ht
      obtain ⟨a, haa⟩ : ∃ a : Nat, s.at_[k] = a := ⟨s.at_[k].toNat, by omega⟩
      rw [haa] at ha p1
      have hr : s.r[k]? = some s.r[k] := List.getElem?_eq_getElem hkr
      obtain ⟨r, hrr⟩ : ∃ r, r = s.r[k] := ⟨_, rfl⟩
      rw [← hrr] at hr
      have r4 := hs1.r4 r (List.mem_of_getElem? hr)
      rw [pwp_seq]
      simp [-pwp_seq, new_box, app_box, len_box, cell_box, cell_box0, cells_box, cells_box0, store_box, store_box0, cellB_bx, cellsB_bx, storeB_bx, BodyK, resVs, resV, retV, box_all, cast_lit, wrap_1, wrap_2, wrap_3, wrap_4, -cellsOf_agg, vSt_len, vSt_take, vSt_of, vS_0, vS_1, vS_2, vS_3, vS_4, vS_5, vS_6, vS_7, vS_8, vS_9, vS_10, vS_11, vS_12, vS_13, vS_14, vS_15, vS_16, vS_17, vS_18, setAll_vSt2, vPr_of, setAll_vPr, vPr_len, vPr_take, vPr_6, hkf]
      rw [pwp_seq]
      simp [-pwp_seq, new_box, app_box, len_box, cell_box, cell_box0, cells_box, cells_box0, store_box, store_box0, cellB_bx, cellsB_bx, storeB_bx, BodyK, resVs, resV, retV, box_all, cast_lit, wrap_1, wrap_2, wrap_3, wrap_4, -cellsOf_agg, vSt_len, vSt_take, vSt_of, vS_0, vS_1, vS_2, vS_3, vS_4, vS_5, vS_6, vS_7, vS_8, vS_9, vS_10, vS_11, vS_12, vS_13, vS_14, vS_15, vS_16, vS_17, vS_18, setAll_vSt2, vPr_of, setAll_vPr, vPr_len, vPr_take, vPr_6, ht, hkf]
      refine vOf_call (by omega) (fun c hc => by have := (hto c hc).op; omega) fun v hv => ?_
      have hvl := hv.len
      have know := (hw1.regs k a r r ha hr hr).2 t v ht hv
      simp [-pwp_seq, new_box, app_box, len_box, cell_box, cell_box0, cells_box, cells_box0, store_box, store_box0, cellB_bx, cellsB_bx, storeB_bx, BodyK, resVs, resV, retV, box_all, cast_lit, wrap_1, wrap_2, wrap_3, wrap_4, callK_def]
      rw [pwp_seq]
      simp [-pwp_seq, new_box, app_box, len_box, cell_box, cell_box0, cells_box, cells_box0, store_box, store_box0, cellB_bx, cellsB_bx, storeB_bx, BodyK, resVs, resV, retV, box_all, cast_lit, wrap_1, wrap_2, wrap_3, wrap_4, -cellsOf_agg, vSt_len, vSt_take, vSt_of, vS_0, vS_1, vS_2, vS_3, vS_4, vS_5, vS_6, vS_7, vS_8, vS_9, vS_10, vS_11, vS_12, vS_13, vS_14, vS_15, vS_16, vS_17, vS_18, setAll_vSt2, vPr_of, setAll_vPr, vPr_len, vPr_take, vPr_6, ha, hkaI, ht, hkf]
      by_cases hend : t.length ≤ a
      · have hend' : (t.length : Int) ≤ a := by omega
        simp [new_box, app_box, len_box, cell_box, cell_box0, cells_box, cells_box0, store_box, store_box0, cellB_bx, cellsB_bx, storeB_bx, BodyK, resVs, resV, retV, box_all, cast_lit, wrap_1, wrap_2, wrap_3, wrap_4, hend', hend, wk]
        exact .go (k1, g1) (by simp only []; omega) (by simp) rfl (by simp only []; omega)
      · have hend' : ¬ (t.length : Int) ≤ a := by omega
        obtain ⟨hcome, hsat⟩ := know (by omega)
        simp [-pwp_seq, new_box, app_box, len_box, cell_box, cell_box0, cells_box, cells_box0, store_box, store_box0, cellB_bx, cellsB_bx, storeB_bx, BodyK, resVs, resV, retV, box_all, cast_lit, wrap_1, wrap_2, wrap_3, wrap_4, hend', hend]
        rw [pwp_seq]
        simp [-pwp_seq, new_box, app_box, len_box, cell_box, cell_box0, cells_box, cells_box0, store_box, store_box0, cellB_bx, cellsB_bx, storeB_bx, BodyK, resVs, resV, retV, box_all, cast_lit, wrap_1, wrap_2, wrap_3, wrap_4, -cellsOf_agg, vSt_len, vSt_take, vSt_of, vS_0, vS_1, vS_2, vS_3, vS_4, vS_5, vS_6, vS_7, vS_8, vS_9, vS_10, vS_11, vS_12, vS_13, vS_14, vS_15, vS_16, vS_17, vS_18, setAll_vSt2, vPr_of, setAll_vPr, vPr_len, vPr_take, vPr_6, hvl, ht, hkf]
        have hva : a < v.length := by omega
        have hvaI : (a : Int) < v.length := by omega
        have hV : v[a]? = some v[a] := List.getElem?_eq_getElem hva
        obtain ⟨V, hVV⟩ : ∃ V, V = v[a] := ⟨_, rfl⟩
        rw [← hVV] at hV
        have hrow : rowF v a = V := by unfold rowF; rw [hV]; rfl
        rw [hrow] at hsat
        have hvaT : (a : Int) < t.length := by omega
        refine loop_l (σ := Nat × Heap) (fun x => [(5, ptr h.length), (6, ptr (h.length + 1)), (8, vL vI ps), (9, vI i), (10, vI k), (11, vM 8 c4 v), (12, vI x.1)]) (fun x => h ++ (bx (vProg p) 7 :: bx (vSt p s) 19 :: x.2)) (fun x => x.1 ≤ 4) (fun x => 4 - x.1) (0, g1) (by simp) (by simp) (by simp) ?_
        rintro ⟨j, g2⟩ fr hj
        simp only at hj ⊢
        by_cases hj4 : j < 4
        · have hjf : (j : Int) < 4 := by omega
          obtain ⟨j1, hj1, wj⟩ := wrap_next (show j < lim by omega)
          have hjr : (j : Int) < r.length := by omega
          have hjr' : j < r.length := by omega
          have hrj : r[j]? = some (gI r j) := by
            unfold gI
            rw [show ((j : Int)).toNat = j by omega, List.getElem?_eq_getElem hjr']
            rfl
          obtain ⟨y, hy⟩ : ∃ y, y = gI r j := ⟨_, rfl⟩
          have hs := hsat j hj4
          rw [← hy] at hs hrj
          rw [pwp_seq]
          simp [-pwp_seq, new_box, app_box, len_box, cell_box, cell_box0, cells_box, cells_box0, store_box, store_box0, cellB_bx, cellsB_bx, storeB_bx, BodyK, resVs, resV, retV, box_all, cast_lit, wrap_1, wrap_2, wrap_3, wrap_4, hjf]
          rw [pwp_seq]
          have hj3 : j = 0 ∨ j = 1 ∨ j = 2 ∨ j = 3 := by omega
          rcases hj3 with rfl | rfl | rfl | rfl <;> rcases hs with e | e <;> simp only [V4.at] at e <;>
          · simp at e
            have hcv : ∀ (k : Nat) (n : Int), cellsOf (.agg #[v8 k, vI n]) = some [v8 k, vI n] := fun _ _ => rfl
            simp [new_box, app_box, len_box, cell_box, cell_box0, cells_box, cells_box0, store_box, store_box0, cellB_bx, cellsB_bx, storeB_bx, BodyK, resVs, resV, retV, box_all, cast_lit, wrap_1, wrap_2, wrap_3, wrap_4, -cellsOf_agg, vSt_len, vSt_take, vSt_of, vS_0, vS_1, vS_2, vS_3, vS_4, vS_5, vS_6, vS_7, vS_8, vS_9, vS_10, vS_11, vS_12, vS_13, vS_14, vS_15, vS_16, vS_17, vS_18, setAll_vSt2, vPr_of, setAll_vPr, vPr_len, vPr_take, vPr_6, ha, hkaI, hr, hkrI, hV, hvaI, hvaT, hjr, hrj, c4, e, oneV, anyV, wj, hcv]
            exact .go (j1, g2 ++ [_]) (by simp only []; omega) (by simp [hj1]) rfl (by simp only []; omega)
        · obtain rfl : j = 4 := by omega
          rw [pwp_seq]
          simp [new_box, app_box, len_box, cell_box, cell_box0, cells_box, cells_box0, store_box, store_box0, cellB_bx, cellsB_bx, storeB_bx, BodyK, resVs, resV, retV, box_all, cast_lit, wrap_1, wrap_2, wrap_3, wrap_4, wk]
          exact .go (k1, g2) (by simp only []; omega) (by simp) rfl (by simp only []; omega)
    · obtain rfl : k = p.threads.length := by omega
      rw [pwp_seq]
      simp [new_box, app_box, len_box, cell_box, cell_box0, cells_box, cells_box0, store_box, store_box0, cellB_bx, cellsB_bx, storeB_bx, BodyK, resVs, resV, retV, box_all, cast_lit, wrap_1, wrap_2, wrap_3, wrap_4, -cellsOf_agg, vSt_len, vSt_take, vSt_of, vS_0, vS_1, vS_2, vS_3, vS_4, vS_5, vS_6, vS_7, vS_8, vS_9, vS_10, vS_11, vS_12, vS_13, vS_14, vS_15, vS_16, vS_17, vS_18, setAll_vSt2, vPr_of, setAll_vPr, vPr_len, vPr_take, vPr_6, wi]
      exact .go (i1, s, g1) (by simp only []; omega) (by simp) (by simp) ⟨by simp only []; omega, hs1, hw1, by simp only []; omega⟩
  · obtain rfl : i = ps.length := by omega
    rw [pwp_seq]
    simp [new_box, app_box, len_box, cell_box, cell_box0, cells_box, cells_box0, store_box, store_box0, cellB_bx, cellsB_bx, storeB_bx, BodyK, resVs, resV, retV, box_all, cast_lit, wrap_1, wrap_2, wrap_3, wrap_4]
    refine known14_call ?_
    simp [new_box, app_box, len_box, cell_box, cell_box0, cells_box, cells_box0, store_box, store_box0, cellB_bx, cellsB_bx, storeB_bx, BodyK, resVs, resV, retV, box_all, cast_lit, wrap_1, wrap_2, wrap_3, wrap_4, callK_def]
theorem ValueRuns_spec (l : List (List Nat)) (c : List Nat) (hl : Short l ∧ ∀ c ∈ l, Bytes c) (hc : Bytes c) : PCall prog 4 [vL (vL v8) l, vL v8 c] [] fun r _ => r = .bool true := ValueRuns_spec' [] l c hl hc.2
end
end Pm
