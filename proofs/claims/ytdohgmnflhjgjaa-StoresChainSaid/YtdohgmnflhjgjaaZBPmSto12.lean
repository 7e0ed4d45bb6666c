/- Stores that none can read: one behind the other, walked.
   No condition: plain lemmas. -/

import Derived.Test.YtdohgmnflhjgjaaZBPmSto11
namespace Pm
set_option linter.unusedSimpArgs false
set_option linter.unusedVariables false
open Go Am
open Go.Proofs.Try (prog)

def chainIns (x : Nat) : Ins := ⟨8, ((x % 8 : Nat) : Int), ((x / 8 % 4 : Nat) : Int), 0⟩
def unI : Ins := ⟨14, 0, 0, 0⟩
/-- None of them stores it any more. -/
def lastOf (cc : List Ins) (i j a : Nat) : Bool := !((cc.take j).drop (i + 1)).any (lays a)
theorem lastOf_start (cc : List Ins) (i a : Nat) : lastOf cc i (i + 1) a = true := by
  unfold lastOf
  rw [List.drop_eq_nil_of_le (by simp; omega)]; rfl
theorem lastOf_step {cc : List Ins} {i j j1 a : Nat} {x : Ins} (hx : cc[j]? = some x) (hj : i + 1 ≤ j) (hj1 : j1 = j + 1) : lastOf cc i j1 a = (lastOf cc i j a && !lays a x) := by
  have hl := (List.getElem?_eq_some_iff.1 hx).1
  unfold lastOf
  rw [take_snoc' hx hj1, List.drop_append_of_le_length (by simp; omega), List.any_append]
  simp
theorem ndS_stores {a : Nat} : ∀ (l : List Ins), (∀ c ∈ l, c.op = 8) → ndS a (l ++ [unI]) = !l.any (lays a)
  | [], _ => by
    show (wants a unI || (!lays a unI && false)) = true
    simp [wants, unI, show relOp 14 = true from rfl]
  | c :: l, h => by
    have e := ndS_stores (a := a) l fun d hd => h d (List.mem_cons_of_mem _ hd)
    have h8 := h c List.mem_cons_self
    show (wants a c || (!lays a c && ndS a (l ++ [unI]))) = _
    rw [e]
    simp [wants, h8, show relOp 8 = false from rfl]
theorem chain_strt {cc : List Ins} (h : ∀ c ∈ cc, c.op = 8) : Strt (cc ++ [unI]) := by
  intro c hc
  rcases List.mem_append.1 hc with h1 | h1
  · have := h c h1; omega
  · rw [List.mem_singleton.1 h1]; decide
theorem chain_out {cc : List Ins} (h : ∀ c ∈ cc, c.op = 8) {i a : Nat} {c : Ins} (hc : cc[i]? = some c) (ha : c.a = (a : Int)) (ha8 : a < 8) : (outS (cc ++ [unI]))[i]? = some (if lastOf cc i cc.length a = true then c else nopI) := by
  have hl := (List.getElem?_eq_some_iff.1 hc).1
  have hc' : (cc ++ [unI])[i]? = some c := by rw [List.getElem?_append_left hl, hc]
  have e : goneS ((cc ++ [unI]).drop (i + 1)) c = !lastOf cc i cc.length a := by
    have h8 := h c (List.mem_of_getElem? hc)
    have ea : c.a.toNat = a := by omega
    unfold goneS lastOf
    rw [ea, List.drop_append_of_le_length (by omega), ndS_stores _ (fun d hd => h d (List.mem_of_mem_drop hd)), List.take_length]
    simp [h8, ha, show (0 : Int) ≤ (a : Int) by omega, show (a : Int) < 8 by omega]
  rw [outS_at, hc', Option.map_some, e]
  cases lastOf cc i cc.length a <;> rfl
/-- It is not written any more; it can still be read. -/
theorem AccM.frzR {b : Nat} {H : Heap} {v : Value} {l : List Ins} (ha : AccM 4 vIns b H v l) (hne : 0 < l.length) : ∃ id ver H', v = .slice (some ⟨id, 0, none⟩) l.length ver ∧ frzV H 4 v = some (vM 4 vIns l, H') ∧ H'[id]? = some (.row ⟨l.flatMap vIns, 4, ver, false⟩) := by
  rcases ha with ⟨_, h0, _⟩ | ⟨id, ver, rfl, h2, h3, h4⟩
  · omega
  · have hid := (List.getElem?_eq_some_iff.1 h3).1
    have hs : seg (l.flatMap vIns) 0 (l.length * 4) = l.flatMap vIns := by unfold seg; rw [List.drop_zero, List.take_of_length_le (by omega)]
    refine ⟨id, ver, H.set id (.row ⟨l.flatMap vIns, 4, ver, false⟩), rfl, ?_, by rw [List.getElem?_set_self hid]⟩
    have hc : (l.flatMap vIns).all closedC = true := closed_flat (fun _ => rfl) l
    simp only [frzV, frzC, Heap.row?, h3, if_true, hs, hc]
    rw [if_pos ⟨by omega, trivial⟩]
    rfl
theorem rowB_cells {H : Heap} {k ver r : Nat} {b : Bool} {l : List Ins} {x : Ins} (h : H[k]? = some (.row ⟨l.flatMap vIns, 4, ver, b⟩)) (hx : l[r]? = some x) : H.cells? k (r * 4) ver 4 = some (vIns x) := by
  have hr := (List.getElem?_eq_some_iff.1 hx).1
  have hfl : (l.flatMap vIns).length = l.length * 4 := flat_len (e := 4) (fun _ => rfl) l
  simp only [Heap.cells?, Heap.row?, h, if_true]
  rw [if_pos (by omega), flat_seg (e := 4) (fun _ => rfl) l r x hx]
theorem rowB_cell {H : Heap} {k ver r j : Nat} {b : Bool} {l : List Ins} {x : Ins} (h : H[k]? = some (.row ⟨l.flatMap vIns, 4, ver, b⟩)) (hx : l[r]? = some x) (hj : j < 4) : H.cell? k (r * 4 + j) ver = (vIns x)[j]? := by
  simp only [Heap.cell?, Heap.row?, h, if_true]
  rw [flat_at (e := 4) (fun _ => rfl) l r j hj, hx]
  rfl
set_option maxHeartbeats 4000000 in
theorem StoresChain_spec (c : List Nat) (hc : Bytes c) : PCall prog 14 [vL v8 c] [] fun r _ => r = .bool true := by
  refine call_StoresChain (by simp) ?_
  have hcl : c.length < 9223372036854775808 := hc.1
  have hlim : lim = 1048576 := rfl
  obtain ⟨m, hm⟩ : ∃ m, m = min c.length 40 := ⟨_, rfl⟩
  obtain ⟨cc, hcc⟩ : ∃ cc, cc = (c.take m).map chainIns := ⟨_, rfl⟩
  have hccl : cc.length = m := by rw [hcc]; simp; omega
  have hcc8 : ∀ x ∈ cc, x.op = 8 := fun x hx => by
    rw [hcc] at hx
    obtain ⟨y, _, rfl⟩ := List.mem_map.1 hx
    rfl
  simp [-pwp_seq, new_box, app_box, len_box, cell_box, cell_box0, cells_box, cells_box0, store_box, store_box0, cellB_bx, cellsB_bx, storeB_bx, BodyK, resVs, resV, retV, box_all, cast_lit, wrap_1, wrap_2, wrap_3, wrap_4, c_StoresChain]
  refine seq_l (fun x : Value × Heap => [(3, x.1)]) (fun x => x.2) (fun x => AccM 4 vIns 0 x.2 x.1 cc) ?_ ?_
  · simp [-pwp_seq, new_box, app_box, len_box, cell_box, cell_box0, cells_box, cells_box0, store_box, store_box0, cellB_bx, cellsB_bx, storeB_bx, BodyK, resVs, resV, retV, box_all, cast_lit, wrap_1, wrap_2, wrap_3, wrap_4]
    refine loop_l (σ := Nat × Value × Heap) (fun x => [(0, vL v8 c), (3, x.2.1), (4, vI x.1)]) (fun x => x.2.2)
      (fun x => x.1 ≤ m ∧ AccM 4 vIns 0 x.2.2 x.2.1 (cc.take x.1)) (fun x => m - x.1) (0, nilS, []) (by simp) rfl ⟨by omega, .nil⟩ ?_
    rintro ⟨i, v, H⟩ fr ⟨hi, ha⟩
    simp only at hi ha ⊢
    by_cases hlt : i < m
    · obtain ⟨i1, hi1, wi⟩ := wrap_next (show i < lim by omega)
      have hif : (i : Int) < c.length := by omega
      have hi40 : (i : Int) < 40 := by omega
      obtain ⟨x, hx⟩ : ∃ x, c[i]? = some x := ⟨_, List.getElem?_eq_getElem (by omega)⟩
      have hxb : x ≤ 255 := hc.2 x (List.mem_of_getElem? hx)
      have hci : cc[i]? = some (chainIns x) := by rw [hcc, List.getElem?_map, List.getElem?_take, if_pos hlt, hx]; rfl
      obtain ⟨q, hq⟩ : ∃ q, q = x / 8 := ⟨_, rfl⟩
      obtain ⟨b, hbb⟩ : ∃ b, b = q % 4 := ⟨_, rfl⟩
      obtain ⟨a, haa⟩ : ∃ a, a = x % 8 := ⟨_, rfl⟩
      have e1 : (x : Int).tdiv 8 = (q : Int) := by rw [Int.tdiv_eq_ediv_of_nonneg (by omega)]; omega
      have e2 : (q : Int).tmod 4 = (b : Int) := by rw [Int.tmod_eq_emod_of_nonneg (by omega)]; omega
      have e3 : (x : Int).tmod 8 = (a : Int) := by rw [Int.tmod_eq_emod_of_nonneg (by omega)]; omega
      have w1 : IntKind.u8.wrap (q : Int) = q := wrap_u8 (by omega) (by omega)
      have w2 : IntKind.u8.wrap (b : Int) = b := wrap_u8 (by omega) (by omega)
      have w3 : IntKind.u8.wrap (a : Int) = a := wrap_u8 (by omega) (by omega)
      have w4 : IntKind.i64.wrap (a : Int) = a := wrap_i64 (by omega) (by omega)
      have w5 : IntKind.i64.wrap (b : Int) = b := wrap_i64 (by omega) (by omega)
      have hins : chainIns x = ⟨8, a, b, 0⟩ := by unfold chainIns; rw [haa, hbb, hq]
      rw [hins] at hci
      simp [new_box, app_box, len_box, cell_box, cell_box0, cells_box, cells_box0, store_box, store_box0, cellB_bx, cellsB_bx, storeB_bx, BodyK, resVs, resV, retV, box_all, cast_lit, wrap_1, wrap_2, wrap_3, wrap_4, hif, hi40, hx, e1, e2, e3, w1, w2, w3, w4, w5]
      refine AccM.apps (AccM.ext ha Keeps.app) (Nat.zero_le _) (m := [⟨8, a, b, 0⟩]) (pElems_lit4 (m := 0) (cs := vIns ⟨8, a, b, 0⟩) rfl rfl) (by simp; omega) fun v' h' a1 a2 a3 a4 => ?_
      rw [← take_snoc' hci hi1] at a1
      simp [new_box, app_box, len_box, cell_box, cell_box0, cells_box, cells_box0, store_box, store_box0, cellB_bx, cellsB_bx, storeB_bx, BodyK, resVs, resV, retV, box_all, cast_lit, wrap_1, wrap_2, wrap_3, wrap_4, wi]
      exact .go (i1, v', h') (by simp only []; omega) (by simp) rfl ⟨by simp only []; omega, a1⟩
    · obtain rfl : i = m := by omega
      rw [List.take_of_length_le (by omega)] at ha
      by_cases hcl1 : (i : Int) < c.length
      · have h40 : ¬ (i : Int) < 40 := by omega
        simp [new_box, app_box, len_box, cell_box, cell_box0, cells_box, cells_box0, store_box, store_box0, cellB_bx, cellsB_bx, storeB_bx, BodyK, resVs, resV, retV, box_all, cast_lit, wrap_1, wrap_2, wrap_3, wrap_4, hcl1, h40]
        exact .go (v, H) (by simp) rfl ha
      · simp [new_box, app_box, len_box, cell_box, cell_box0, cells_box, cells_box0, store_box, store_box0, cellB_bx, cellsB_bx, storeB_bx, BodyK, resVs, resV, retV, box_all, cast_lit, wrap_1, wrap_2, wrap_3, wrap_4, hcl1]
        exact .go (v, H) (by simp) rfl ha
  rintro ⟨v, H⟩ fr ha
  simp only at ha ⊢
  have hlen0 : pLen v = some (vI cc.length) := ha.len
  simp [-pwp_seq, new_box, app_box, len_box, cell_box, cell_box0, cells_box, cells_box0, store_box, store_box0, cellB_bx, cellsB_bx, storeB_bx, BodyK, resVs, resV, retV, box_all, cast_lit, wrap_1, wrap_2, wrap_3, wrap_4, hlen0]
  refine AccM.apps (AccM.ext ha Keeps.app) (Nat.zero_le _) (m := [unI]) (pElems_lit4 (m := 0) (cs := vIns unI) rfl rfl) (by simp; omega) fun v' h' a1 a2 a3 a4 => ?_
  obtain ⟨code, hcode⟩ : ∃ code, code = cc ++ [unI] := ⟨_, rfl⟩
  rw [← hcode] at a1
  have hcodl : code.length = m + 1 := by rw [hcode]; simp [hccl]
  obtain ⟨id, ver, H1, f1, f2, f3⟩ := AccM.frzR a1 (by omega)
  have hid := (List.getElem?_eq_some_iff.1 f3).1
  simp [-pwp_seq, new_box, app_box, len_box, cell_box, cell_box0, cells_box, cells_box0, store_box, store_box0, cellB_bx, cellsB_bx, storeB_bx, BodyK, resVs, resV, retV, box_all, cast_lit, wrap_1, wrap_2, wrap_3, wrap_4, f2]
  refine sCode_call (code := code) (fun x hx => by
    rw [hcode] at hx
    rcases List.mem_append.1 hx with h | h
    · have := hcc8 x h; omega
    · rw [List.mem_singleton.1 h]; decide) (by omega) fun out fm hS => ?_
  obtain ⟨rfl, rfl⟩ := hS.eq (by rw [hcode]; exact chain_strt hcc8) (by omega)
  have hol : (outS code).length = code.length := (stored_straight (by rw [hcode]; exact chain_strt hcc8)).len
  have hlen' : pLen v' = some (vI code.length) := a1.len
  simp [-pwp_seq, new_box, app_box, len_box, cell_box, cell_box0, cells_box, cells_box0, store_box, store_box0, cellB_bx, cellsB_bx, storeB_bx, BodyK, resVs, resV, retV, box_all, cast_lit, wrap_1, wrap_2, wrap_3, wrap_4, callK_def, vEdit]
  rw [pwp_seq]
  simp [-pwp_seq, new_box, app_box, len_box, cell_box, cell_box0, cells_box, cells_box0, store_box, store_box0, cellB_bx, cellsB_bx, storeB_bx, BodyK, resVs, resV, retV, box_all, cast_lit, wrap_1, wrap_2, wrap_3, wrap_4, hlen', hol]
  obtain ⟨HH, hHH⟩ : ∃ HH, HH = H1 ++ [bx [vM 4 vIns (outS code), vL vI (ownL code.length)] 2] := ⟨_, rfl⟩
  rw [← hHH]
  have hrow : HH[id]? = some (.row ⟨code.flatMap vIns, 4, ver, false⟩) := by rw [hHH, List.getElem?_append_left hid]; exact f3
  have hbox : RowV HH H1.length 0 2 [vM 4 vIns (outS code), vL vI (ownL code.length)] := by rw [hHH]; simp [RowV, bx]
  have hb0 : HH.cell? H1.length 0 0 = some (vM 4 vIns (outS code)) := by rw [hbox.cell]; rfl
  rw [pwp_seq]
  simp [-pwp_seq, new_box, app_box, len_box, cell_box, cell_box0, cells_box, cells_box0, store_box, store_box0, cellB_bx, cellsB_bx, storeB_bx, BodyK, resVs, resV, retV, box_all, cast_lit, wrap_1, wrap_2, wrap_3, wrap_4, f1]
  refine loop_l (σ := Nat) (fun i => [(3, .slice (some ⟨id, 0, none⟩) code.length ver), (5, vI cc.length), (6, ptr H1.length), (7, vI i)]) (fun _ => HH) (fun i => i ≤ cc.length) (fun i => cc.length - i) 0 (by simp) rfl (by simp) ?_
  intro i fr hi
  by_cases hlt : i < cc.length
  · obtain ⟨i1, hi1, wi⟩ := wrap_next (show i < lim by omega)
    have hif : (i : Int) < cc.length := by omega
    have hin : i < code.length := by omega
    obtain ⟨x, hx⟩ : ∃ x, cc[i]? = some x := ⟨_, List.getElem?_eq_getElem hlt⟩
    have hxc : code[i]? = some x := by rw [hcode, List.getElem?_append_left hlt, hx]
    obtain ⟨y, hy⟩ : ∃ y, c[i]? = some y := ⟨_, List.getElem?_eq_getElem (by omega)⟩
    obtain ⟨a, ha2⟩ : ∃ a, a = y % 8 := ⟨_, rfl⟩
    have hxa : x.a = (a : Int) := by
      have : cc[i]? = some (chainIns y) := by rw [hcc, List.getElem?_map, List.getElem?_take, if_pos (by omega), hy]; rfl
      rw [hx] at this; cases this
      rw [ha2]; rfl
    have ha8 : a < 8 := by omega
    have hout := chain_out hcc8 hx hxa ha8
    rw [← hcode] at hout
    have ci1 : HH.cell? id (i * 4 + 1) ver = some (vI a) := by rw [rowB_cell hrow hxc (by omega), ← hxa]; rfl
    have cis : HH.cells? id (i * 4) ver 4 = some (vIns x) := rowB_cells hrow hxc
    rw [pwp_seq]
    simp [-pwp_seq, new_box, app_box, len_box, cell_box, cell_box0, cells_box, cells_box0, store_box, store_box0, cellB_bx, cellsB_bx, storeB_bx, BodyK, resVs, resV, retV, box_all, cast_lit, wrap_1, wrap_2, wrap_3, wrap_4, hif]
    rw [pwp_seq]
    simp [-pwp_seq, new_box, app_box, len_box, cell_box, cell_box0, cells_box, cells_box0, store_box, store_box0, cellB_bx, cellsB_bx, storeB_bx, BodyK, resVs, resV, retV, box_all, cast_lit, wrap_1, wrap_2, wrap_3, wrap_4]
    refine seq_l (σ := Unit) (fun _ => [(3, .slice (some ⟨id, 0, none⟩) code.length ver), (5, vI cc.length), (6, ptr H1.length), (7, vI i), (8, vB (lastOf cc i cc.length a))]) (fun _ => HH) (fun _ => True) ?_ ?_
    · simp [-pwp_seq, new_box, app_box, len_box, cell_box, cell_box0, cells_box, cells_box0, store_box, store_box0, cellB_bx, cellsB_bx, storeB_bx, BodyK, resVs, resV, retV, box_all, cast_lit, wrap_1, wrap_2, wrap_3, wrap_4, wi]
      refine loop_l (σ := Nat) (fun j => [(3, .slice (some ⟨id, 0, none⟩) code.length ver), (5, vI cc.length), (6, ptr H1.length), (7, vI i), (8, vB (lastOf cc i j a)), (9, vI j)]) (fun _ => HH) (fun j => i + 1 ≤ j ∧ j ≤ cc.length) (fun j => cc.length - j) i1 (by rw [hi1, lastOf_start]; simp) rfl (by omega) ?_
      rintro j fr ⟨hj0, hj⟩
      by_cases hjlt : j < cc.length
      · obtain ⟨j1, hj1, wj⟩ := wrap_next (show j < lim by omega)
        have hjf : (j : Int) < cc.length := by omega
        have hjn : j < code.length := by omega
        obtain ⟨z, hz⟩ : ∃ z, cc[j]? = some z := ⟨_, List.getElem?_eq_getElem hjlt⟩
        have hzc : code[j]? = some z := by rw [hcode, List.getElem?_append_left hjlt, hz]
        have cj1 : HH.cell? id (j * 4 + 1) ver = some (vI z.a) := by rw [rowB_cell hrow hzc (by omega)]; rfl
        have hst := lastOf_step (a := a) hz hj0 hj1
        have h8z := hcc8 z (List.mem_of_getElem? hz)
        cases hq : lastOf cc i j a with
        | true =>
          by_cases hza : z.a = (a : Int)
          · have hl1 : lastOf cc i j1 a = false := by rw [hst, hq]; simp [lays, h8z, hza]
            rw [pwp_seq]
            simp [new_box, app_box, len_box, cell_box, cell_box0, cells_box, cells_box0, store_box, store_box0, cellB_bx, cellsB_bx, storeB_bx, BodyK, resVs, resV, retV, box_all, cast_lit, wrap_1, wrap_2, wrap_3, wrap_4, hjf, hjn, hin, cj1, ci1, hza, wj]
            exact .go j1 (by omega) (by simp [hl1]) rfl (by omega)
          · have hl1 : lastOf cc i j1 a = true := by rw [hst, hq]; simp [lays, h8z, hza]
            rw [pwp_seq]
            simp [new_box, app_box, len_box, cell_box, cell_box0, cells_box, cells_box0, store_box, store_box0, cellB_bx, cellsB_bx, storeB_bx, BodyK, resVs, resV, retV, box_all, cast_lit, wrap_1, wrap_2, wrap_3, wrap_4, hjf, hjn, hin, cj1, ci1, hza, wj]
            exact .go j1 (by omega) (by simp [hl1]) rfl (by omega)
        | false =>
          have hl1 : lastOf cc i j1 a = false := by rw [hst, hq]; rfl
          rw [pwp_seq]
          simp [new_box, app_box, len_box, cell_box, cell_box0, cells_box, cells_box0, store_box, store_box0, cellB_bx, cellsB_bx, storeB_bx, BodyK, resVs, resV, retV, box_all, cast_lit, wrap_1, wrap_2, wrap_3, wrap_4, hjf, wj]
          exact .go j1 (by omega) (by simp [hl1]) rfl (by omega)
      · obtain rfl : j = cc.length := by omega
        have hjf : ¬ (cc.length : Int) < cc.length := by omega
        rw [pwp_seq]
        simp [new_box, app_box, len_box, cell_box, cell_box0, cells_box, cells_box0, store_box, store_box0, cellB_bx, cellsB_bx, storeB_bx, BodyK, resVs, resV, retV, box_all, cast_lit, wrap_1, wrap_2, wrap_3, wrap_4, hjf]
        exact .go () (by simp) rfl trivial
    rintro _ fr _
    cases hq : lastOf cc i cc.length a with
    | true =>
      rw [hq] at hout
      simp [new_box, app_box, len_box, cell_box, cell_box0, cells_box, cells_box0, store_box, store_box0, cellB_bx, cellsB_bx, storeB_bx, BodyK, resVs, resV, retV, box_all, cast_lit, wrap_1, wrap_2, wrap_3, wrap_4, hb0, hin, cis, hout, wi, -eqAV_agg, eqAV_I, -cellsOf_agg, vIns_len, take_vIns, cellsOf_vIns, setAll_ins]
      exact .go i1 (by omega) (by simp) rfl (by omega)
    | false =>
      rw [hq] at hout
      have hzz : eqAV [0, 0, 0, 0] true (.agg (vIns nopI).toArray) (.agg #[.int .u8 0, .int .i64 0, .int .i64 0, .int .i64 0]) = some (.bool false) := rfl
      simp [new_box, app_box, len_box, cell_box, cell_box0, cells_box, cells_box0, store_box, store_box0, cellB_bx, cellsB_bx, storeB_bx, BodyK, resVs, resV, retV, box_all, cast_lit, wrap_1, wrap_2, wrap_3, wrap_4, hb0, hin, hout, hzz, wi, -eqAV_agg, eqAV_I, -cellsOf_agg, vIns_len, take_vIns, cellsOf_vIns, setAll_ins]
      exact .go i1 (by omega) (by simp) rfl (by omega)
  · obtain rfl : i = cc.length := by omega
    have hif : ¬ (cc.length : Int) < cc.length := by omega
    rw [pwp_seq]
    simp [new_box, app_box, len_box, cell_box, cell_box0, cells_box, cells_box0, store_box, store_box0, cellB_bx, cellsB_bx, storeB_bx, BodyK, resVs, resV, retV, box_all, cast_lit, wrap_1, wrap_2, wrap_3, wrap_4, hif]
    refine known18_call ?_
    simp [new_box, app_box, len_box, cell_box, cell_box0, cells_box, cells_box0, store_box, store_box0, cellB_bx, cellsB_bx, storeB_bx, BodyK, resVs, resV, retV, box_all, cast_lit, wrap_1, wrap_2, wrap_3, wrap_4, callK_def]
end Pm
