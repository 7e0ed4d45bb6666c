/- Registers that are yet to be read: in code that reads nothing nothing is; walked.
   No condition: plain lemmas. -/

import Derived.Test.YtdohgmnflhjgjaaZAPmLive7
namespace Pm
set_option linter.unusedSimpArgs false
set_option linter.unusedVariables false
open Go Am
open Go.Proofs.Try (prog)

theorem set_any {k : Nat} {l : List Ins} {i i1 : Nat} {x : Ins} (hx : l[i]? = some x) (hi : i1 = i + 1) : (l.take i1).any (isSet k) = ((l.take i).any (isSet k) || isSet k x) := by
  rw [take_snoc' hx hi, List.any_append]; simp
set_option maxHeartbeats 4000000 in
theorem LiveNone_spec (c : List Nat) (r : Nat) (hc : Bytes c) (hr : r ≤ 255) : PCall prog 5 [vL v8 c, v8 r] [] fun r _ => r = .bool true := by
  refine call_LiveNone (by simp) ?_
  have hcl : c.length < 9223372036854775808 := hc.1
  have hlim : lim = 1048576 := rfl
  obtain ⟨m, hm⟩ : ∃ m, m = min c.length 40 := ⟨_, rfl⟩
  obtain ⟨cc, hcc⟩ : ∃ cc, cc = (c.take m).map noneIns := ⟨_, rfl⟩
  have hccl : cc.length = m := by rw [hcc]; simp; omega
  simp [-pwp_seq, new_box, app_box, len_box, cell_box, cell_box0, cells_box, cells_box0, store_box, store_box0, cellB_bx, cellsB_bx, storeB_bx, BodyK, resVs, resV, retV, box_all, cast_lit, wrap_1, wrap_2, wrap_3, wrap_4, c_LiveNone]
  refine seq_l (fun x : Value × Heap => [(1, v8 r), (5, x.1)]) (fun x => x.2) (fun x => AccM 4 vIns 0 x.2 x.1 cc ∧ ∀ (id : Nat) (r : Row), x.2[id]? = some (.row r) → r.esz = 4) ?_ ?_
  simp [-pwp_seq, new_box, app_box, len_box, cell_box, cell_box0, cells_box, cells_box0, store_box, store_box0, cellB_bx, cellsB_bx, storeB_bx, BodyK, resVs, resV, retV, box_all, cast_lit, wrap_1, wrap_2, wrap_3, wrap_4]
  refine loop_l (σ := Nat × Value × Heap) (fun x => [(0, vL v8 c), (1, v8 r), (5, x.2.1), (6, vI x.1)]) (fun x => x.2.2)
    (fun x => x.1 ≤ m ∧ AccM 4 vIns 0 x.2.2 x.2.1 (cc.take x.1) ∧ ∀ (id : Nat) (r : Row), x.2.2[id]? = some (.row r) → r.esz = 4) (fun x => m - x.1) (0, nilS, []) (by simp) rfl ⟨by omega, .nil, fun id r h => by simp at h⟩ ?_
  rintro ⟨i, v, H⟩ fr ⟨hi, ha, he⟩
  simp only at hi ha he ⊢
  have hv : ∀ H : Heap, AccM 4 vIns 0 H v (cc.take i) → cellsOf v = some [v] := fun H ha => by
    rcases ha with ⟨e, _⟩ | ⟨id, ver, e, _⟩ <;> rw [e] <;> rfl
  by_cases hlt : i < m
  · obtain ⟨i1, hi1, wi⟩ := wrap_next (show i < lim by omega)
    have hif : (i : Int) < c.length := by omega
    have hi40 : (i : Int) < 40 := by omega
    obtain ⟨x, hx⟩ : ∃ x, c[i]? = some x := ⟨_, List.getElem?_eq_getElem (by omega)⟩
    have hxb : x ≤ 255 := hc.2 x (List.mem_of_getElem? hx)
    have hci : cc[i]? = some (noneIns x) := by rw [hcc, List.getElem?_map, List.getElem?_take, if_pos hlt, hx]; rfl
    obtain ⟨q, hq⟩ : ∃ q, q = x / 4 := ⟨_, rfl⟩
    obtain ⟨a, haa⟩ : ∃ a, a = q % 4 := ⟨_, rfl⟩
    obtain ⟨k, hk⟩ : ∃ k, k = x % 4 := ⟨_, rfl⟩
    have e1 : (x : Int).tdiv 4 = (q : Int) := by rw [Int.tdiv_eq_ediv_of_nonneg (by omega)]; omega
    have e2 : (q : Int).tmod 4 = (a : Int) := by rw [Int.tmod_eq_emod_of_nonneg (by omega)]; omega
    have e3 : (x : Int).tmod 4 = (k : Int) := by rw [Int.tmod_eq_emod_of_nonneg (by omega)]; omega
    have w1 : IntKind.u8.wrap (q : Int) = q := wrap_u8 (by omega) (by omega)
    have w2 : IntKind.u8.wrap (a : Int) = a := wrap_u8 (by omega) (by omega)
    have w3 : IntKind.u8.wrap (k : Int) = k := wrap_u8 (by omega) (by omega)
    have w4 : IntKind.i64.wrap (a : Int) = a := wrap_i64 (by omega) (by omega)
    rw [pwp_seq]
    simp [-pwp_seq, new_box, app_box, len_box, cell_box, cell_box0, cells_box, cells_box0, store_box, store_box0, cellB_bx, cellsB_bx, storeB_bx, BodyK, resVs, resV, retV, box_all, cast_lit, wrap_1, wrap_2, wrap_3, wrap_4, hif, hi40]
    rw [pwp_seq]
    simp [-pwp_seq, new_box, app_box, len_box, cell_box, cell_box0, cells_box, cells_box0, store_box, store_box0, cellB_bx, cellsB_bx, storeB_bx, BodyK, resVs, resV, retV, box_all, cast_lit, wrap_1, wrap_2, wrap_3, wrap_4, hx, e1, e2, e3, w1, w2, w3, w4]
    have hins : noneIns x = if k = 0 then ⟨0, 0, 0, 0⟩ else if k = 1 then ⟨1, a, 0, 0⟩ else if k = 2 then ⟨7, a, 0, 0⟩ else ⟨13, 0, 0, 0⟩ := by
      unfold noneIns; rw [hk, haa, hq]
    have hnew : ((cc.take i).length + [noneIns x].length) ≤ lim := by simp; omega
    have k4 : k = 0 ∨ k = 1 ∨ k = 2 ∨ k = 3 := by omega
    rcases k4 with rfl | rfl | rfl | rfl <;>
    · simp at hins
      rw [hins] at hci hnew
      simp [new_box, app_box, len_box, cell_box, cell_box0, cells_box, cells_box0, store_box, store_box0, cellB_bx, cellsB_bx, storeB_bx, BodyK, resVs, resV, retV, box_all, cast_lit, wrap_1, wrap_2, wrap_3, wrap_4]
      refine AccM.apps2 (AccM.ext ha Keeps.app) (Nat.zero_le _) (m := [noneIns x]) (by rw [hins]; exact pElems_box (m := 1) rfl rfl) (by rw [hins]; exact hnew) fun v' h' p1 a1 a2 a3 a4 => ?_
      simp [new_box, app_box, len_box, cell_box, cell_box0, cells_box, cells_box0, store_box, store_box0, cellB_bx, cellsB_bx, storeB_bx, BodyK, resVs, resV, retV, box_all, cast_lit, wrap_1, wrap_2, wrap_3, wrap_4, wi]
      refine .go (i1, v', h') (by simp only []; omega) (by simp) rfl ⟨by simp only []; omega, ?_, fun id r hr => ?_⟩
      · simp only []; rw [hins] at a1; rw [take_snoc' hci hi1]; exact a1
      · rcases pApp_esz p1 hr with h | h
        · exact h
        · rw [List.getElem?_append] at h
          split at h
          · exact he id r h
          · have hid := (List.getElem?_eq_some_iff.1 h).1
            simp only [List.length_cons, List.length_nil] at hid
            have : id - H.length = 0 ∨ id - H.length = 1 := by omega
            rcases this with e | e <;> rw [e] at h <;> simp [bx] at h <;> rw [← h]
  · obtain rfl : i = m := by omega
    rw [List.take_of_length_le (by omega)] at ha
    by_cases hcl1 : (i : Int) < c.length
    · have h40 : ¬ (i : Int) < 40 := by omega
      simp [new_box, app_box, len_box, cell_box, cell_box0, cells_box, cells_box0, store_box, store_box0, cellB_bx, cellsB_bx, storeB_bx, BodyK, resVs, resV, retV, box_all, cast_lit, wrap_1, wrap_2, wrap_3, wrap_4, hcl1, h40]
      exact .go (v, H) (by simp) rfl ⟨ha, he⟩
    · simp [new_box, app_box, len_box, cell_box, cell_box0, cells_box, cells_box0, store_box, store_box0, cellB_bx, cellsB_bx, storeB_bx, BodyK, resVs, resV, retV, box_all, cast_lit, wrap_1, wrap_2, wrap_3, wrap_4, hcl1]
      exact .go (v, H) (by simp) rfl ⟨ha, he⟩
  rintro ⟨v, H⟩ fr ⟨ha, he⟩
  simp only at ha he ⊢
  have hno : ∀ r i, ¬ Lv cc r i := fun r i => by rw [hcc]; exact none_lv
  have hcco : ∀ x ∈ cc, x.op ≤ 255 := fun x hx => by
    rw [hcc] at hx
    obtain ⟨y, _, rfl⟩ := List.mem_map.1 hx
    exact (none_uses y).2.1
  obtain ⟨k, hk⟩ : ∃ k, k = r % 4 := ⟨_, rfl⟩
  have hk4 : k < 4 := by omega
  have e3 : (r : Int).tmod 4 = (k : Int) := by rw [Int.tmod_eq_emod_of_nonneg (by omega)]; omega
  have w3 : IntKind.u8.wrap (k : Int) = k := wrap_u8 (by omega) (by omega)
  have w4 : IntKind.i64.wrap (k : Int) = k := wrap_i64 (by omega) (by omega)
  simp [-pwp_seq, new_box, app_box, len_box, cell_box, cell_box0, cells_box, cells_box0, store_box, store_box0, cellB_bx, cellsB_bx, storeB_bx, BodyK, resVs, resV, retV, box_all, cast_lit, wrap_1, wrap_2, wrap_3, wrap_4]
  refine pOps_still (by simp) (PCallS.lend (e := 1) (args' := [vM 4 vIns cc]) ⟨AccM.inl (b := 0) ha fun _ => rfl, trivial⟩ (fun id r h _ => by rw [he id r h]; decide) (lAhead_call hcco (by omega) fun a hA => ⟨⟨a.length, a.map vU, rfl, by simp⟩, ?_⟩))
  have hA' : Aheads cc a := by unfold AheadsL at hA; rwa [if_neg (by omega)] at hA
  have hal := hA'.len
  have hz : ∀ j, gN a j = 0 := fun j => Nat.eq_of_testBit_eq fun r => by
    rw [Nat.zero_testBit]
    cases hb : (gN a j).testBit r with
    | false => rfl
    | true => exact absurd ((hA'.bit j r).1 hb) (hno r j)
  simp [-pwp_seq, new_box, app_box, len_box, cell_box, cell_box0, cells_box, cells_box0, store_box, store_box0, cellB_bx, cellsB_bx, storeB_bx, BodyK, resVs, resV, retV, box_all, cast_lit, wrap_1, wrap_2, wrap_3, wrap_4]
  rw [pwp_seq]
  simp [-pwp_seq, new_box, app_box, len_box, cell_box, cell_box0, cells_box, cells_box0, store_box, store_box0, cellB_bx, cellsB_bx, storeB_bx, BodyK, resVs, resV, retV, box_all, cast_lit, wrap_1, wrap_2, wrap_3, wrap_4]
  refine loop_l (σ := Nat) (fun j => [(1, v8 r), (5, v), (7, vL vU a), (8, vI j)]) (fun _ => H) (fun j => j ≤ a.length) (fun j => a.length - j) 0 (by simp) rfl (by simp) ?_
  intro j fr hj
  by_cases hlt : j < a.length
  · obtain ⟨j1, hj1, wj⟩ := wrap_next (show j < lim by omega)
    have hjf : (j : Int) < a.length := by omega
    have haj : a[j]? = some 0 := by rw [← hz j]; exact gN_at hlt
    have hag : a[j]'hlt = 0 := (List.getElem?_eq_some_iff.1 haj).2
    simp [new_box, app_box, len_box, cell_box, cell_box0, cells_box, cells_box0, store_box, store_box0, cellB_bx, cellsB_bx, storeB_bx, BodyK, resVs, resV, retV, box_all, cast_lit, wrap_1, wrap_2, wrap_3, wrap_4, hjf, haj, hag, wj]
    exact .go j1 (by omega) (by simp) rfl (by omega)
  · have hjf : ¬ (j : Int) < a.length := by omega
    have hlen : pLen v = some (vI cc.length) := ha.len
    simp [-pwp_seq, new_box, app_box, len_box, cell_box, cell_box0, cells_box, cells_box0, store_box, store_box0, cellB_bx, cellsB_bx, storeB_bx, BodyK, resVs, resV, retV, box_all, cast_lit, wrap_1, wrap_2, wrap_3, wrap_4, hjf]
    rw [pwp_seq]
    simp [-pwp_seq, new_box, app_box, len_box, cell_box, cell_box0, cells_box, cells_box0, store_box, store_box0, cellB_bx, cellsB_bx, storeB_bx, BodyK, resVs, resV, retV, box_all, cast_lit, wrap_1, wrap_2, wrap_3, wrap_4, hjf, e3, w3, w4]
    rw [pwp_seq]
    simp [-pwp_seq, new_box, app_box, len_box, cell_box, cell_box0, cells_box, cells_box0, store_box, store_box0, cellB_bx, cellsB_bx, storeB_bx, BodyK, resVs, resV, retV, box_all, cast_lit, wrap_1, wrap_2, wrap_3, wrap_4]
    obtain ⟨sb, hsb⟩ : ∃ sb : Nat → Bool, sb = fun j => (cc.take j).any (isSet k) := ⟨_, rfl⟩
    refine loop_l (σ := Nat) (fun j => [(5, v), (7, vL vU a), (9, vI k), (10, vB (sb j)), (11, vI j)]) (fun _ => H) (fun j => j ≤ cc.length) (fun j => cc.length - j) 0 (by simp [hsb]) rfl (by simp) ?_
    clear hj hlt hjf
    intro j fr hj
    by_cases hlt : j < cc.length
    · obtain ⟨j1, hj1, wj⟩ := wrap_next (show j < lim by omega)
      have hjf : (j : Int) < cc.length := by omega
      obtain ⟨y, hy⟩ : ∃ y, c[j]? = some y := ⟨_, List.getElem?_eq_getElem (by omega)⟩
      have hcj : cc[j]? = some (noneIns y) := by rw [hcc, List.getElem?_map, List.getElem?_take, if_pos (by omega), hy]; rfl
      have hstep : sb j1 = (sb j || isSet k (noneIns y)) := by rw [hsb]; exact set_any hcj hj1
      obtain ⟨q, hq⟩ : ∃ q, q = sb j := ⟨_, rfl⟩
      rw [← hq] at hstep
      rcases ha with ⟨_, h0, _⟩ | ⟨id, ver, rfl, _, hrow, _⟩
      · omega
      have hR : RowM 4 vIns H id ver 4 cc := hrow
      have c0 := hR.cell (r := j) (j := 0) (by omega)
      have c1 := hR.cell (r := j) (j := 1) (by omega)
      rw [hcj] at c0 c1
      simp only [Option.bind_some, Nat.add_zero] at c0 c1
      rw [← hq]
      cases q with
      | true =>
        simp [new_box, app_box, len_box, cell_box, cell_box0, cells_box, cells_box0, store_box, store_box0, cellB_bx, cellsB_bx, storeB_bx, BodyK, resVs, resV, retV, box_all, cast_lit, wrap_1, wrap_2, wrap_3, wrap_4, hjf, hlen, wj]
        exact .go j1 (by omega) (by simp [hstep]) rfl (by omega)
      | false =>
        rcases none_cases y with e | ⟨b, hb, e⟩ | ⟨b, hb, e⟩ | e <;> rw [e] at c0 c1 hstep <;> simp [vIns] at c0 c1
        · simp [new_box, app_box, len_box, cell_box, cell_box0, cells_box, cells_box0, store_box, store_box0, cellB_bx, cellsB_bx, storeB_bx, BodyK, resVs, resV, retV, box_all, cast_lit, wrap_1, wrap_2, wrap_3, wrap_4, hjf, hlen, wj, c0, c1]
          exact .go j1 (by omega) (by simp [hstep, isSet]) rfl (by omega)
        · simp [new_box, app_box, len_box, cell_box, cell_box0, cells_box, cells_box0, store_box, store_box0, cellB_bx, cellsB_bx, storeB_bx, BodyK, resVs, resV, retV, box_all, cast_lit, wrap_1, wrap_2, wrap_3, wrap_4, hjf, hlen, wj, c0, c1]
          exact .go j1 (by omega) (by simp [hstep, isSet]) rfl (by omega)
        · simp [new_box, app_box, len_box, cell_box, cell_box0, cells_box, cells_box0, store_box, store_box0, cellB_bx, cellsB_bx, storeB_bx, BodyK, resVs, resV, retV, box_all, cast_lit, wrap_1, wrap_2, wrap_3, wrap_4, hjf, hlen, wj, c0, c1]
          exact .go j1 (by omega) (by simp [hstep, isSet]) rfl (by omega)
        · simp [new_box, app_box, len_box, cell_box, cell_box0, cells_box, cells_box0, store_box, store_box0, cellB_bx, cellsB_bx, storeB_bx, BodyK, resVs, resV, retV, box_all, cast_lit, wrap_1, wrap_2, wrap_3, wrap_4, hjf, hlen, wj, c0, c1]
          exact .go j1 (by omega) (by simp [hstep, isSet]) rfl (by omega)
    · obtain rfl : j = cc.length := by omega
      have hjf : ¬ (cc.length : Int) < cc.length := by omega
      have hq : sb cc.length = cc.any (isSet k) := by rw [hsb]; simp
      obtain ⟨q, hqq⟩ : ∃ q, q = cc.any (isSet k) := ⟨_, rfl⟩
      rw [hq, ← hqq]
      rw [pwp_seq]
      simp [-pwp_seq, new_box, app_box, len_box, cell_box, cell_box0, cells_box, cells_box0, store_box, store_box0, cellB_bx, cellsB_bx, storeB_bx, BodyK, resVs, resV, retV, box_all, cast_lit, wrap_1, wrap_2, wrap_3, wrap_4, hjf, hlen]
      refine AccM.apps (AccM.ext ha Keeps.app) (Nat.zero_le _) (m := [⟨9, k, 0, 0⟩]) (pElems_box (m := 0) rfl rfl) (by simp; omega) fun v' h' a1 a2 a3 a4 => ?_
      simp [-pwp_seq, new_box, app_box, len_box, cell_box, cell_box0, cells_box, cells_box0, store_box, store_box0, cellB_bx, cellsB_bx, storeB_bx, BodyK, resVs, resV, retV, box_all, cast_lit, wrap_1, wrap_2, wrap_3, wrap_4]
      refine AccM.frz a1 (fun _ => rfl) fun h2 b1 b2 b3 => ?_
      have hl2 : (cc ++ [(⟨9, k, 0, 0⟩ : Ins)]).length = m + 1 := by simp [hccl]
      have hlen' : pLen v' = some (vI ((cc ++ [(⟨9, k, 0, 0⟩ : Ins)]).length)) := a1.len
      rw [hl2] at hlen'
      simp [-pwp_seq, new_box, app_box, len_box, cell_box, cell_box0, cells_box, cells_box0, store_box, store_box0, cellB_bx, cellsB_bx, storeB_bx, BodyK, resVs, resV, retV, box_all, cast_lit, wrap_1, wrap_2, wrap_3, wrap_4]
      refine lAhead_call (code := cc ++ [⟨9, k, 0, 0⟩]) (fun x hx => by
        rcases List.mem_append.1 hx with h | h
        · exact hcco x h
        · rw [List.mem_singleton.1 h]; show (9 : Nat) ≤ 255; omega) (by rw [hl2]; omega) fun b hB => ?_
      have hB' : Aheads (cc ++ [⟨9, k, 0, 0⟩]) b := by unfold AheadsL at hB; rwa [if_neg (by rw [hl2]; omega)] at hB
      have hbl : b.length = m + 1 := by rw [hB'.len, hl2]
      have hb0 := gN_at (l := b) (i := 0) (by omega)
      have hbit : (gN b 0).testBit k = !q := by
        rw [Bool.eq_iff_iff, hB'.bit, hcc, none_print hk4, hqq, hcc, List.any_map]
        simp
      simp [-pwp_seq, new_box, app_box, len_box, cell_box, cell_box0, cells_box, cells_box0, store_box, store_box0, cellB_bx, cellsB_bx, storeB_bx, BodyK, resVs, resV, retV, box_all, cast_lit, wrap_1, wrap_2, wrap_3, wrap_4, callK_def]
      refine known15_call ?_
      have wi : IntKind.i64.wrap (m : Int) = m := wrap_i64 (by omega) (by omega)
      have hbg : b[0]'(by omega) = gN b 0 := (List.getElem?_eq_some_iff.1 hb0).2
      have h0i : 0 < m + 1 := by omega
      simp [-pwp_seq, new_box, app_box, len_box, cell_box, cell_box0, cells_box, cells_box0, store_box, store_box0, cellB_bx, cellsB_bx, storeB_bx, BodyK, resVs, resV, retV, box_all, cast_lit, wrap_1, wrap_2, wrap_3, wrap_4, callK_def, hlen', hal, hccl, hbl, wi, hbg]
      refine RHas_call (hB'.lt 0) ?_
      rw [hasB_nat (by omega), hbit]
      simp [-pwp_seq, new_box, app_box, len_box, cell_box, cell_box0, cells_box, cells_box0, store_box, store_box0, cellB_bx, cellsB_bx, storeB_bx, BodyK, resVs, resV, retV, box_all, cast_lit, wrap_1, wrap_2, wrap_3, wrap_4, callK_def]
end Pm
