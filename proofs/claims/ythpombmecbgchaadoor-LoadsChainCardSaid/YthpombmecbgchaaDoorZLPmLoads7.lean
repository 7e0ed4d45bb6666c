/- Loads of what is known: one behind the other, walked.
   No condition: plain lemmas. -/

import Derived.Test.YthpombmecbgchaaDoorZLPmLoads6
namespace Pm
set_option linter.unusedSimpArgs false
set_option linter.unusedVariables false
open Go Am
open Go.Proofs.Tryd (prog)

def ldI (a v : Nat) : Ins := ⟨7, (a : Int), (v : Int), 0⟩
theorem firstI_low {s n : Nat} (hn : n < 64) (h1 : s.testBit n = true) (h2 : ∀ j, j < n → s.testBit j = false) : firstI s 0 = n := by
  have e : List.range 64 = List.range' 0 n ++ n :: List.range' (n + 1) (63 - n) := by
    rw [List.range_eq_range', show (64 : Nat) = n + (1 + (63 - n)) by omega, ← List.range'_append_1, ← List.range'_append_1]
    simp
  have z1 : (List.range' 0 n).filter (fun i => s.testBit i) = [] := by
    rw [List.filter_eq_nil_iff]
    intro i hi
    have h0 := List.mem_range'_1.1 hi
    rw [h2 i (by omega)]; simp
  unfold firstI bitsI
  rw [e, List.filter_append, List.filter_cons, z1, if_pos h1]
  simp
theorem ld_take : ∀ v : Fin 8, ∀ a : Fin 3, (takeN (ldI (a.val + 1) v.val)).testBit (4 * v.val) = false := by decide +kernel
theorem ld_add : ∀ v : Fin 8, (addN (ldI 0 v.val)).testBit (4 * v.val) = true := by decide +kernel
theorem ld_facts : ∀ v : Fin 8, (factsN (v.val : Int)).testBit (4 * v.val) = true ∧ ∀ j : Fin 32, j.val < 4 * v.val → (factsN (v.val : Int)).testBit j.val = false := by decide +kernel
theorem thru_bit {c : Ins} {x r : Nat} : (thruN c x).testBit r = (x.testBit r && !(takeN c).testBit r || (addN c).testBit r) := by
  unfold thruN; rw [Nat.testBit_or, andN_bit]
def chain17 (v : Nat) (l : List Nat) : List Ins := ldI 0 v :: l.map fun a => ldI (a + 1) v
theorem chain17_kn {v : Nat} (hv : v < 8) {l : List Nat} (hl : ∀ a ∈ l, a < 3) : ∀ i, i < l.length + 1 → (kn (chain17 v l) (i + 1)).testBit (4 * v) = true
  | 0, _ => by
    show (thruN (ldI 0 v) 0).testBit (4 * v) = true
    rw [thru_bit, ld_add ⟨v, hv⟩]; simp
  | i + 1, h => by
    have ih := chain17_kn hv hl i (by omega)
    obtain ⟨a, ha⟩ : ∃ a, l[i]? = some a := ⟨_, List.getElem?_eq_getElem (by omega)⟩
    have hc : (chain17 v l)[i + 1]? = some (ldI (a + 1) v) := by
      unfold chain17
      rw [List.getElem?_cons_succ, List.getElem?_map, ha]; rfl
    have e : kn (chain17 v l) (i + 1 + 1) = thruN (ldI (a + 1) v) (kn (chain17 v l) (i + 1)) := by
      show (match (chain17 v l)[i + 1]? with | some c => thruN c (kn (chain17 v l) (i + 1)) | none => 0) = _
      rw [hc]
    rw [e, thru_bit, ih, ld_take ⟨v, hv⟩ ⟨a, hl a (List.mem_of_getElem? ha)⟩]; simp
theorem chain17_strt {v : Nat} {l : List Nat} : Strt (chain17 v l) := by
  intro c hc
  unfold chain17 at hc
  rcases List.mem_cons.1 hc with rfl | hc
  · show (7 : Nat) ≠ 10 ∧ (7 : Nat) ≠ 11
    decide
  · obtain ⟨a, _, rfl⟩ := List.mem_map.1 hc
    show (7 : Nat) ≠ 10 ∧ (7 : Nat) ≠ 11
    decide
theorem chain17_out {v : Nat} (hv : v < 8) {l : List Nat} (hl : ∀ a ∈ l, a < 3) {i a : Nat} (ha : l[i]? = some a) : ldIns (ldI (a + 1) v) (kn (chain17 v l) (i + 1)) = ⟨2, ((a + 1 : Nat) : Int), 0, 0⟩ := by
  have hi := (List.getElem?_eq_some_iff.1 ha).1
  have hb := chain17_kn hv hl i (by omega)
  obtain ⟨f1, f2⟩ := ld_facts ⟨v, hv⟩
  simp only at f1 f2
  have hf : factI (ldI (a + 1) v) (kn (chain17 v l) (i + 1)) = ((4 * v : Nat) : Int) := by
    refine firstI_low (by omega) ?_ fun j hj => ?_
    · rw [Nat.testBit_and, hb]; show (true && (factsN (v : Int)).testBit (4 * v)) = true; rw [f1]; rfl
    · rw [Nat.testBit_and]
      show (_ && (factsN (v : Int)).testBit j) = false
      rw [f2 ⟨j, by omega⟩ hj, Bool.and_false]
  unfold ldIns
  rw [if_pos (show (ldI (a + 1) v).op = 7 from rfl), hf, if_neg (by omega), if_neg]
  · have : ((4 * v : Nat) : Int).tmod 4 = 0 := by rw [Int.tmod_eq_emod_of_nonneg (by omega)]; omega
    rw [this]; rfl
  · show ¬ ((4 * v : Nat) : Int).tmod 4 = ((a + 1 : Nat) : Int)
    rw [Int.tmod_eq_emod_of_nonneg (by omega)]; omega
theorem chain17_first {v : Nat} {l : List Nat} : ldIns (ldI 0 v) (kn (chain17 v l) 0) = ldI 0 v := by
  have hf : factI (ldI 0 v) 0 = -1 := by
    show firstI (0 &&& factsN (v : Int)) 0 = -1
    rw [Nat.zero_and]; decide
  show ldIns (ldI 0 v) 0 = _
  unfold ldIns
  rw [if_pos (show (ldI 0 v).op = 7 from rfl), hf, if_pos (by decide)]
set_option maxHeartbeats 4000000 in
theorem LoadsChain_spec (x : Nat) (c : List Nat) (hx : x ≤ 255) (hc : Bytes c) : PCall prog 5 [v8 x, vL v8 c] [] fun r _ => r = .bool true := by
  refine call_LoadsChain (by simp) ?_
  have hcl : c.length < 9223372036854775808 := hc.1
  have hlim : lim = 1048576 := rfl
  obtain ⟨v, hv⟩ : ∃ v, v = x % 8 := ⟨_, rfl⟩
  have hv8 : v < 8 := by omega
  obtain ⟨m, hm⟩ : ∃ m, m = min c.length 40 := ⟨_, rfl⟩
  obtain ⟨l, hl⟩ : ∃ l, l = (c.take m).map fun y => y % 3 := ⟨_, rfl⟩
  have hll : l.length = m := by rw [hl]; simp; omega
  have hl3 : ∀ a ∈ l, a < 3 := fun a ha => by
    rw [hl] at ha
    obtain ⟨y, _, rfl⟩ := List.mem_map.1 ha
    omega
  obtain ⟨code, hcode⟩ : ∃ code, code = chain17 v l := ⟨_, rfl⟩
  have hcl1 : code.length = m + 1 := by rw [hcode]; simp [chain17, hll]
  have hc0 : code[0]? = some (ldI 0 v) := by rw [hcode]; rfl
  have hcs : ∀ i a, l[i]? = some a → code[i + 1]? = some (ldI (a + 1) v) := fun i a ha => by rw [hcode]; unfold chain17; rw [List.getElem?_cons_succ, List.getElem?_map, ha]; rfl
  have e1 : (x : Int).tmod 8 = (v : Int) := by rw [Int.tmod_eq_emod_of_nonneg (by omega)]; omega
  have w1 : IntKind.u8.wrap (v : Int) = v := wrap_u8 (by omega) (by omega)
  have w2 : IntKind.i64.wrap (v : Int) = v := wrap_i64 (by omega) (by omega)
  have htk0 : code.take 1 = [ldI 0 v] := by rw [hcode]; rfl
  simp [-pwp_seq, new_box, app_box, len_box, cell_box, cell_box0, cells_box, cells_box0, store_box, store_box0, cellB_bx, cellsB_bx, storeB_bx, BodyK, resVs, resV, retV, box_all, cast_lit, wrap_1, wrap_2, wrap_3, wrap_4, c_LoadsChain, e1, w1, w2]
  refine seq_l (fun x : Value × Heap => [(6, x.1)]) (fun x => x.2) (fun x => AccM 4 vIns 0 x.2 x.1 code) ?_ ?_
  · simp [-pwp_seq, new_box, app_box, len_box, cell_box, cell_box0, cells_box, cells_box0, store_box, store_box0, cellB_bx, cellsB_bx, storeB_bx, BodyK, resVs, resV, retV, box_all, cast_lit, wrap_1, wrap_2, wrap_3, wrap_4]
    refine loop_l (σ := Nat × Value × Heap) (fun x => [(1, vL v8 c), (5, vI v), (6, x.2.1), (7, vI x.1)]) (fun x => x.2.2)
      (fun x => x.1 ≤ m ∧ AccM 4 vIns 0 x.2.2 x.2.1 (code.take (x.1 + 1))) (fun x => m - x.1) (0, .slice (some ⟨0, 0, none⟩) 1 0, [bx (vIns (ldI 0 v)) 4]) (by simp) rfl ⟨by omega, by rw [htk0]; exact .inr ⟨0, 0, rfl, by omega, rfl, rfl⟩⟩ ?_
    rintro ⟨i, sv, H⟩ fr ⟨hi, ha⟩
    simp only at hi ha ⊢
    by_cases hlt : i < m
    · obtain ⟨i1, hi1, wi⟩ := wrap_next (show i < lim by omega)
      have hif : (i : Int) < c.length := by omega
      have hi40 : (i : Int) < 40 := by omega
      obtain ⟨y, hy⟩ : ∃ y, c[i]? = some y := ⟨_, List.getElem?_eq_getElem (by omega)⟩
      have hyb : y ≤ 255 := hc.2 y (List.mem_of_getElem? hy)
      obtain ⟨a, haa⟩ : ∃ a, a = y % 3 := ⟨_, rfl⟩
      have hla : l[i]? = some a := by rw [hl, List.getElem?_map, List.getElem?_take, if_pos hlt, hy, haa]; rfl
      obtain ⟨a1, ha1⟩ : ∃ a1, a1 = a + 1 := ⟨_, rfl⟩
      have hci := hcs i a hla
      rw [← ha1] at hci
      have f1 : (y : Int).tmod 3 = (a : Int) := by rw [Int.tmod_eq_emod_of_nonneg (by omega)]; omega
      have g1 : IntKind.u8.wrap (a : Int) = a := wrap_u8 (by omega) (by omega)
      have g2 : IntKind.i64.wrap (a : Int) = a := wrap_i64 (by omega) (by omega)
      have g3 : IntKind.i64.wrap (1 + (a : Int)) = (a1 : Int) := by rw [wrap_i64 (by omega) (by omega)]; omega
      rw [pwp_seq]
      simp [new_box, app_box, len_box, cell_box, cell_box0, cells_box, cells_box0, store_box, store_box0, cellB_bx, cellsB_bx, storeB_bx, BodyK, resVs, resV, retV, box_all, cast_lit, wrap_1, wrap_2, wrap_3, wrap_4, hif, hi40, hy, f1, g1, g2, g3]
      refine AccM.apps (AccM.ext ha Keeps.app) (Nat.zero_le _) (m := [ldI a1 v]) (pElems_lit4 (m := 0) (cs := vIns (ldI a1 v)) rfl rfl) (by simp; omega) fun v' h' k1 k2 k3 k4 => ?_
      rw [← take_snoc' hci rfl] at k1
      simp [new_box, app_box, len_box, cell_box, cell_box0, cells_box, cells_box0, store_box, store_box0, cellB_bx, cellsB_bx, storeB_bx, BodyK, resVs, resV, retV, box_all, cast_lit, wrap_1, wrap_2, wrap_3, wrap_4, wi]
      exact .go (i1, v', h') (by simp only []; omega) (by simp) rfl ⟨by simp only []; omega, by rw [hi1]; exact k1⟩
    · obtain rfl : i = m := by omega
      rw [List.take_of_length_le (by omega)] at ha
      by_cases hcl1 : (i : Int) < c.length
      · have h40 : ¬ (i : Int) < 40 := by omega
        rw [pwp_seq]
        simp [new_box, app_box, len_box, cell_box, cell_box0, cells_box, cells_box0, store_box, store_box0, cellB_bx, cellsB_bx, storeB_bx, BodyK, resVs, resV, retV, box_all, cast_lit, wrap_1, wrap_2, wrap_3, wrap_4, hcl1, h40]
        exact .go (sv, H) (by simp) rfl ha
      · rw [pwp_seq]
        simp [new_box, app_box, len_box, cell_box, cell_box0, cells_box, cells_box0, store_box, store_box0, cellB_bx, cellsB_bx, storeB_bx, BodyK, resVs, resV, retV, box_all, cast_lit, wrap_1, wrap_2, wrap_3, wrap_4, hcl1]
        exact .go (sv, H) (by simp) rfl ha
  rintro ⟨sv, H⟩ fr ha
  simp only at ha ⊢
  obtain ⟨id, ver, H1, f1, f2, f3⟩ := AccM.frzR ha (by omega)
  have hid := (List.getElem?_eq_some_iff.1 f3).1
  have hlen' : pLen sv = some (vI code.length) := ha.len
  simp [-pwp_seq, new_box, app_box, len_box, cell_box, cell_box0, cells_box, cells_box0, store_box, store_box0, cellB_bx, cellsB_bx, storeB_bx, BodyK, resVs, resV, retV, box_all, cast_lit, wrap_1, wrap_2, wrap_3, wrap_4, f2]
  refine dCode_call (code := code) (fun y hy => by
    rw [hcode] at hy
    unfold chain17 at hy
    rcases List.mem_cons.1 hy with rfl | hy
    · show (7 : Nat) ≤ 255; decide
    · obtain ⟨a, _, rfl⟩ := List.mem_map.1 hy
      show (7 : Nat) ≤ 255; decide) (by omega) fun out fm hS => ?_
  obtain ⟨hol, rfl, ho⟩ := hS.straight (by rw [hcode]; exact chain17_strt) (by omega)
  have ho0 : out[0]? = some (ldI 0 v) := by rw [ho 0 _ hc0, hcode, chain17_first]
  have hos : ∀ i a, l[i]? = some a → out[i + 1]? = some ⟨2, ((a + 1 : Nat) : Int), 0, 0⟩ := fun i a hla => by rw [ho _ _ (hcs i a hla), hcode, chain17_out hv8 hl3 hla]
  obtain ⟨HH, hHH⟩ : ∃ HH, HH = H1 ++ [bx [vM 4 vIns out, vL vI (ownL code.length)] 2] := ⟨_, rfl⟩
  have hrow : HH[id]? = some (.row ⟨code.flatMap vIns, 4, ver, false⟩) := by rw [hHH, List.getElem?_append_left hid]; exact f3
  have hbox : RowV HH H1.length 0 2 [vM 4 vIns out, vL vI (ownL code.length)] := by rw [hHH]; simp [RowV, bx]
  have hb0 : HH.cell? H1.length 0 0 = some (vM 4 vIns out) := by rw [hbox.cell]; rfl
  have cs0 : HH.cells? id (0 * 4) ver 4 = some (vIns (ldI 0 v)) := rowB_cells hrow hc0
  have hcpos : 0 < code.length := by omega
  have hopos : 0 < out.length := by omega
  have hog : out[0]'hopos = ldI 0 v := (List.getElem?_eq_some_iff.1 ho0).2
  simp [-pwp_seq, new_box, app_box, len_box, cell_box, cell_box0, cells_box, cells_box0, store_box, store_box0, cellB_bx, cellsB_bx, storeB_bx, BodyK, resVs, resV, retV, box_all, cast_lit, wrap_1, wrap_2, wrap_3, wrap_4, callK_def, vEdit]
  rw [pwp_seq]
  rw [← hHH]
  have cs0' : HH.cells? id 0 ver 4 = some (vIns (ldI 0 v)) := by simpa using cs0
  simp [-pwp_seq, new_box, app_box, len_box, cell_box, cell_box0, cells_box, cells_box0, store_box, store_box0, cellB_bx, cellsB_bx, storeB_bx, BodyK, resVs, resV, retV, box_all, cast_lit, wrap_1, wrap_2, wrap_3, wrap_4, hlen', hol, hb0, f1, ho0, hog, cs0', hcpos, -eqAV_agg, eqAV_I, -cellsOf_agg, vIns_len, take_vIns, cellsOf_vIns, setAll_ins]
  rw [pwp_seq]
  simp [-pwp_seq, new_box, app_box, len_box, cell_box, cell_box0, cells_box, cells_box0, store_box, store_box0, cellB_bx, cellsB_bx, storeB_bx, BodyK, resVs, resV, retV, box_all, cast_lit, wrap_1, wrap_2, wrap_3, wrap_4]
  refine loop_l (σ := Nat) (fun i => [(6, .slice (some ⟨id, 0, none⟩) code.length ver), (8, ptr H1.length), (9, vI i)]) (fun _ => HH) (fun i => 1 ≤ i ∧ i ≤ code.length) (fun i => code.length - i) 1 (by simp) rfl (by omega) ?_
  rintro i fr ⟨hi1, hi⟩
  by_cases hlt : i < code.length
  · obtain ⟨j, rfl⟩ : ∃ j, i = j + 1 := ⟨i - 1, by omega⟩
    obtain ⟨a, hla⟩ : ∃ a, l[j]? = some a := ⟨_, List.getElem?_eq_getElem (by omega)⟩
    have hxc := hcs j a hla
    have hout := hos j a hla
    obtain ⟨i, hij⟩ : ∃ i, i = j + 1 := ⟨_, rfl⟩
    rw [← hij] at hxc hout hlt hi ⊢
    obtain ⟨i1, hi1', wi⟩ := wrap_next (show i < lim by omega)
    have hif : (i : Int) < code.length := by omega
    obtain ⟨a1, ha1⟩ : ∃ a1, a1 = a + 1 := ⟨_, rfl⟩
    rw [← ha1] at hxc hout
    have ci1 : HH.cell? id (i * 4 + 1) ver = some (vI a1) := by rw [rowB_cell hrow hxc (by omega)]; rfl
    have hzz : eqAV [0, 0, 0, 0] true (.agg (vIns ⟨2, (a1 : Int), 0, 0⟩).toArray) (.agg #[.int .u8 2, .int .i64 a1, .int .i64 0, .int .i64 0]) = some (.bool false) := by
      refine (eqAV_I (x := ⟨2, (a1 : Int), 0, 0⟩) (y := ⟨2, (a1 : Int), 0, 0⟩) (g := true)).trans ?_
      rw [if_pos rfl, decide_eq_true rfl]; rfl
    rw [pwp_seq]
    simp [-pwp_seq, new_box, app_box, len_box, cell_box, cell_box0, cells_box, cells_box0, store_box, store_box0, cellB_bx, cellsB_bx, storeB_bx, BodyK, resVs, resV, retV, box_all, cast_lit, wrap_1, wrap_2, wrap_3, wrap_4, hif]
    rw [pwp_seq]
    simp [new_box, app_box, len_box, cell_box, cell_box0, cells_box, cells_box0, store_box, store_box0, cellB_bx, cellsB_bx, storeB_bx, BodyK, resVs, resV, retV, box_all, cast_lit, wrap_1, wrap_2, wrap_3, wrap_4, hb0, hlt, hout, ci1, hzz, wi, -eqAV_agg, -cellsOf_agg, vIns_len, take_vIns, cellsOf_vIns, setAll_ins]
    exact .go i1 (by omega) (by simp) rfl (by omega)
  · obtain rfl : i = code.length := by omega
    have hif : ¬ (code.length : Int) < code.length := by omega
    rw [pwp_seq]
    simp [new_box, app_box, len_box, cell_box, cell_box0, cells_box, cells_box0, store_box, store_box0, cellB_bx, cellsB_bx, storeB_bx, BodyK, resVs, resV, retV, box_all, cast_lit, wrap_1, wrap_2, wrap_3, wrap_4, hif]
    refine known17_call ?_
    simp [new_box, app_box, len_box, cell_box, cell_box0, cells_box, cells_box0, store_box, store_box0, cellB_bx, cellsB_bx, storeB_bx, BodyK, resVs, resV, retV, box_all, cast_lit, wrap_1, wrap_2, wrap_3, wrap_4, callK_def]
end Pm
