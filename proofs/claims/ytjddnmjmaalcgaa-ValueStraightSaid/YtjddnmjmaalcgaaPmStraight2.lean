/- Numbers that are known: code that reckons numbers alone: the walk.
   No condition: plain lemmas. -/
import Derived.Test.YtjddnmjmaalcgaaPmStraight
import Derived.Test.YtjddnmjmaalcgaaPmStC
namespace Pm
set_option linter.unusedSimpArgs false
set_option linter.unusedVariables false
open Go Am
open Go.Proofs.Try (prog)

/-- The code, so far. -/
def stCode (c : List Nat) (t : Nat) : List Ins := (List.range t).map fun k => stIns (c[2 * k]?.getD 0) (c[2 * k + 1]?.getD 0)
theorem stCode_succ {c : List Nat} {t a b : Nat} (ha : c[2 * t]? = some a) (hb : c[2 * t + 1]? = some b) : stCode c (t + 1) = stCode c t ++ [stIns a b] := by
  simp [stCode, List.range_succ, ha, hb]
theorem stCode_calc (c : List Nat) (t : Nat) : ∀ x ∈ stCode c t, Calc x := by
  intro x hx
  obtain ⟨k, _, rfl⟩ := List.mem_map.1 hx
  exact stIns_calc _ _
def ops6 : List Value := [v8 1, v8 2, v8 3, v8 4, v8 5, v8 6]
theorem ops6_at {k : Nat} (h : k < 6) : ops6[k]? = some (v8 (k + 1)) := by
  have : k = 0 ∨ k = 1 ∨ k = 2 ∨ k = 3 ∨ k = 4 ∨ k = 5 := by omega
  rcases this with rfl | rfl | rfl | rfl | rfl | rfl <;> rfl
set_option maxHeartbeats 4000000 in
theorem ValueStraight_spec' (h : Heap) (c : List Nat) (hb : Bytes c) : PCall prog 9 [vL v8 c] h fun r _ => r = .bool true := by
  refine call_ValueStraight2 (by simp) ?_
  simp [-pwp_seq, new_box, app_box, len_box, cell_box, cell_box0, cells_box, cells_box0, store_box, store_box0, cellB_bx, cellsB_bx, storeB_bx, BodyK, resVs, resV, retV, box_all, cast_lit, wrap_1, wrap_2, wrap_3, wrap_4, c_ValueStraight2]
  refine seq_rule (fun fr H => ∃ t v, t ≤ 20 ∧ fr 3 = v ∧ fr 4 = .pointer (some ⟨h.length, 0, some 0⟩) ∧ AccM 4 vIns (h.length + 2) H v (stCode c t) ∧ RowV H h.length 0 1 [vI 0, vI 0, vI 0, vI 0] ∧ h.length + 2 ≤ H.length) ?_ ?_
  rotate_left
  · rintro fr H ⟨t, v, ht, f3, f4, acc, rr, hH⟩
    simp [f3, f4, -pwp_seq]
    refine acc.pushK (x := ⟨0, 0, 0, 0⟩) (by omega) (by simp [stCode, lim]; omega) rfl rfl fun v' H4 p1 p2 p3 p4 => ?_
    simp [f3, f4, -pwp_seq]
    refine p1.frz (fun _ => rfl) fun H5 q1 q2 q3 => ?_
    have rr5 : RowV H5 h.length 0 1 [vI 0, vI 0, vI 0, vI 0] := rr.keep (by rw [q1.2 _ (by omega), p2.2 _ (by omega)])
    obtain ⟨code, hcode⟩ : ∃ code, code = stCode c t ++ [(⟨0, 0, 0, 0⟩ : Ins)] := ⟨_, rfl⟩
    rw [← hcode]
    have hlen : code.length = t + 1 := by rw [hcode]; simp [stCode]
    simp [f3, f4, -pwp_seq]
    refine vOf_call (code := code) (by omega) (fun x hx => ?_) fun out ho => ?_
    · rw [hcode] at hx
      rcases List.mem_append.1 hx with hx | hx
      · have := (stCode_calc c t x hx).op; omega
      · simp at hx; subst hx; simp
    · have hcalc := stCode_calc c t
      have hst : ∀ x ∈ code, x.op ≠ 10 ∧ x.op ≠ 11 := by
        intro x hx
        rw [hcode] at hx
        rcases List.mem_append.1 hx with hx | hx
        · have := (hcalc x hx).op; omega
        · simp at hx; subst hx; simp
      have hout := ho.unique (straight_least hst)
      have hat : ∀ i, i < code.length → out[i]? = some (valR (runR code i)) := by
        intro i hi
        rw [hout, List.getElem?_map, List.getElem?_range hi, Option.map_some, hcode, runV_calc hcalc i (by simp [stCode]; omega)]
      have hol := ho.len
      simp [callK_def, hol, -pwp_seq]
      rw [pwp_seq]
      simp [hol, -pwp_seq]
      rw [pwp_seq]
      simp [-pwp_seq]
      refine loop_r (σ := Nat) (fun i fr H => fr 3 = vM 4 vIns code ∧ fr 4 = .pointer (some ⟨h.length, 0, some 0⟩) ∧ fr 8 = vM 8 c4 out ∧ fr 9 = vI i ∧ i ≤ code.length ∧ RowV H h.length 0 1 ((runR code i).map vI)) (fun i => code.length - i) ?_ 0 ⟨by simp, by simp [f4], by simp, by simp, by simp, rr5⟩
      clear f3 f4
      rintro i fr H ⟨f3, f4, f8, f9, hi, rr⟩
      rw [pwp_seq]
      by_cases hin : i < code.length
      · have hii : (i : Int) < code.length := by omega
        obtain ⟨x, hx⟩ : ∃ x, code[i]? = some x := ⟨_, List.getElem?_eq_getElem hin⟩
        simp [f3, f4, f8, f9, hii, -pwp_seq]
        rw [pwp_seq]
        simp [-pwp_seq]
        obtain ⟨r0, r1, r2, r3, hR⟩ := len4 (runR_len code i)
        have ho' := hat i hin
        have hcell : ∀ j, H.cell? h.length j 0 = ([r0, r1, r2, r3].map vI)[j]? := fun j => by rw [← hR]; exact rr.cell j
        have hv4 : valR (runR code i) = ⟨oneV r0, oneV r1, oneV r2, oneV r3⟩ := by rw [hR]; rfl
        rw [hv4] at ho'
        refine seq_rule (fun fr H' => fr 3 = vM 4 vIns code ∧ fr 4 = .pointer (some ⟨h.length, 0, some 0⟩) ∧ fr 8 = vM 8 c4 out ∧ fr 9 = vI i ∧ H' = H) ?_ ?_
        · simp [f3, f4, f8, f9, -pwp_seq]
          refine loop_n 5 ?_
          rw [rounds_one, pwp_seq]
          simp [f3, f4, f8, f9, ho', c4, oneV, hcell, wrap_1]
          rw [rounds_one, pwp_seq]
          simp [f3, f4, f8, f9, ho', c4, oneV, hcell, wrap_2]
          rw [rounds_one, pwp_seq]
          simp [f3, f4, f8, f9, ho', c4, oneV, hcell, wrap_3]
          rw [rounds_one, pwp_seq]
          simp [f3, f4, f8, f9, ho', c4, oneV, hcell, wrap_4]
          rw [rounds_one, pwp_seq]
          simp [f3, f4, f8, f9]
        · clear f3 f4 f8 f9
          rintro fr H ⟨f3, f4, f8, f9, rfl⟩
          obtain ⟨R, hRR⟩ : ∃ R, R = runR code i := ⟨_, rfl⟩
          have hRl : R.length = 4 := by rw [hRR]; exact runR_len code i
          rw [← hRR] at rr
          have hx6 : x.op ≤ 6 ∧ (0 ≤ x.a ∧ x.a < 4) ∧ (0 ≤ x.b ∧ x.b < 4) ∧ (0 ≤ x.c ∧ x.c < 4) := by
            have hm := List.mem_of_getElem? hx
            rw [hcode] at hm
            rcases List.mem_append.1 hm with hm | hm
            · have := hcalc x hm
              exact ⟨this.op.2, this.a, this.b, this.c⟩
            · simp at hm; subst hm; decide
          obtain ⟨hx6, hxa, hxb, hxc⟩ := hx6
          have hHl := rr.lt
          have r0' : RowV (Am.newRow H [.int .u8 0, .int .i64 0, .int .i64 0, .int .i64 0] 4) H.length 0 4 [.int .u8 0, .int .i64 0, .int .i64 0, .int .i64 0] := .new
          obtain ⟨H2, s2, r2', e2'⟩ := r0'.store (n := 4) rfl (cs := [v8 x.op, vI x.a, vI x.b, vI x.c]) rfl rfl
          have rr2 : RowV H2 h.length 0 1 (R.map vI) := (rr.old (e := 4)).same e2' (by omega)
          have hca : H2.cell? h.length x.a.toNat 0 = some (vI (rg R x.a)) := by rw [rr2.cell]; exact rg_at hRl hxa
          have hcb : H2.cell? h.length x.b.toNat 0 = some (vI (rg R x.b)) := by rw [rr2.cell]; exact rg_at hRl hxb
          have hcc : H2.cell? h.length x.c.toNat 0 = some (vI (rg R x.c)) := by rw [rr2.cell]; exact rg_at hRl hxc
          have hc2 : ∀ j, H2.cell? H.length j 0 = ([v8 x.op, vI x.a, vI x.b, vI x.c] : List Value)[j]? := r2'.cell
          obtain ⟨i1, hi1, wi⟩ := wrap_next (show i < lim by simp [lim]; omega)
          simp [f3, f4, f8, f9, hx, vIns, s2, hc2, hca, hxa, -pwp_seq]
          refine seq_rule (fun fr H' => fr 3 = vM 4 vIns code ∧ fr 4 = .pointer (some ⟨h.length, 0, some 0⟩) ∧ fr 8 = vM 8 c4 out ∧ fr 9 = vI i ∧ fr 11 = .pointer (some ⟨H.length, 0, some 0⟩) ∧ fr 12 = vI (numR x R) ∧ H' = H2) ?_ ?_
          · obtain ⟨o, ho1⟩ : ∃ o, o = x.op := ⟨_, rfl⟩
            have hnum : numR x R = numR x R := rfl
            conv at hnum => rhs; unfold numR
            rw [← ho1] at hnum hx6 hc2
            have e : o = 0 ∨ o = 1 ∨ o = 2 ∨ o = 3 ∨ o = 4 ∨ o = 5 ∨ o = 6 := by omega
            rcases e with rfl | rfl | rfl | rfl | rfl | rfl | rfl
            · simp at hnum
              simp [f3, f4, f8, f9, hc2]
              rw [hnum]
            · simp at hnum
              simp [f3, f4, f8, f9, hc2]
              rw [hnum]
            · simp at hnum
              simp [f3, f4, f8, f9, hc2, hca, hcb, hcc, hxb, hxc]
              exact hnum.symm
            · simp at hnum
              simp [f3, f4, f8, f9, hc2, hca, hcb, hcc, hxb, hxc]
              exact hnum.symm
            · simp at hnum
              simp [f3, f4, f8, f9, hc2, hca, hcb, hcc, hxb, hxc]
              exact hnum.symm
            · simp at hnum
              simp [f3, f4, f8, f9, hc2, hca, hcb, hcc, hxb, hxc]
              exact hnum.symm
            · by_cases hlt : rg R x.b < rg R x.c
              · simp [hlt] at hnum
                simp [f3, f4, f8, f9, hc2, hca, hcb, hcc, hxb, hxc, hlt]
                rw [hnum]
              · simp [hlt] at hnum
                simp [f3, f4, f8, f9, hc2, hca, hcb, hcc, hxb, hxc, hlt]
                rw [hnum]
          · clear f3 f4 f8 f9
            rintro fr H' ⟨f3, f4, f8, f9, f11, f12, rfl⟩
            obtain ⟨H3, s3, r3', e3'⟩ := rr2.set (j := x.a.toNat) (by simp; omega) (v := vI (numR x R)) rfl
            have hstep : runR code (i + 1) = R.set x.a.toNat (numR x R) := by rw [runR_succ hx, ← hRR]; rfl
            simp [f3, f4, f8, f9, f11, f12, hc2, hxa, s3, wi]
            refine .go i1 (by omega) ⟨by simp [f3], by simp [f4], by simp [f8], by simp, by omega, ?_⟩
            rw [hi1, hstep, List.map_set]
            exact r3'
      · have hii : ¬ (i : Int) < code.length := by omega
        simp [f3, f4, f8, f9, hii]
        refine known14_call ?_
        simp [callK_def, BodyK, resVs, resV, retV]
  simp [-pwp_seq, new_box, app_box, len_box, cell_box, cell_box0, cells_box, cells_box0, store_box, store_box0, cellB_bx, cellsB_bx, storeB_bx, BodyK, resVs, resV, retV, box_all, cast_lit, wrap_1, wrap_2, wrap_3, wrap_4]
  refine loop_r (σ := Nat × Value) (fun x fr H => fr 0 = vL v8 c ∧ fr 3 = x.2 ∧ fr 4 = .pointer (some ⟨h.length, 0, some 0⟩) ∧ fr 5 = .slice (some ⟨h.length + 1, 0, none⟩) 6 0 ∧ fr 6 = vI ((2 * x.1 : Nat) : Int) ∧ x.1 ≤ 20 ∧ AccM 4 vIns (h.length + 2) H x.2 (stCode c x.1) ∧
    RowV H h.length 0 1 [vI 0, vI 0, vI 0, vI 0] ∧ RowV H (h.length + 1) 0 1 ops6 ∧ h.length + 2 ≤ H.length) (fun x => 20 - x.1) ?_ (0, nilS) ⟨by simp, by simp, by simp, by simp, by simp, by simp, AccM.nil, by simp [RowV, bx], by simp [RowV, bx, ops6], by simp⟩
  rintro ⟨t, v⟩ fr H ⟨f0, f3, f4, f5, f6, ht, acc, rr, ro, hH⟩
  simp only at f3 f6 ht acc
  obtain ⟨i, hi⟩ : ∃ i, i = 2 * t := ⟨_, rfl⟩
  rw [← hi] at f6
  obtain ⟨i1, hi1, wi1⟩ := wrap_next (show i < lim by simp [lim]; omega)
  rw [pwp_seq]
  by_cases hlt : i + 1 < c.length ∧ i < 40
  · have g1 : (i1 : Int) < c.length := by omega
    have g2 : (i : Int) < 40 := by omega
    obtain ⟨a, ha⟩ : ∃ a, c[i]? = some a := ⟨_, List.getElem?_eq_getElem (by omega)⟩
    obtain ⟨b, hbv⟩ : ∃ b, c[i1]? = some b := ⟨_, List.getElem?_eq_getElem (by omega)⟩
    have ha8 := hb.2 a (List.mem_of_getElem? ha)
    have hb8 := hb.2 b (List.mem_of_getElem? hbv)
    obtain ⟨o0, ho0⟩ : ∃ r, r = a % 6 := ⟨_, rfl⟩
    obtain ⟨A, hA⟩ : ∃ r, r = b % 4 := ⟨_, rfl⟩
    obtain ⟨b4, hb4⟩ : ∃ r, r = b / 4 := ⟨_, rfl⟩
    obtain ⟨B, hB⟩ : ∃ r, r = b4 % 4 := ⟨_, rfl⟩
    obtain ⟨b16, hb16⟩ : ∃ r, r = b / 16 := ⟨_, rfl⟩
    obtain ⟨C, hC⟩ : ∃ r, r = b16 % 4 := ⟨_, rfl⟩
    have e1 : (a : Int).tmod 6 = (o0 : Int) := by rw [Int.tmod_eq_emod_of_nonneg (by omega)]; omega
    have e2 : (b : Int).tmod 4 = (A : Int) := by rw [Int.tmod_eq_emod_of_nonneg (by omega)]; omega
    have e3 : (b : Int).tdiv 4 = (b4 : Int) := by rw [Int.tdiv_eq_ediv_of_nonneg (by omega)]; omega
    have e4 : (b4 : Int).tmod 4 = (B : Int) := by rw [Int.tmod_eq_emod_of_nonneg (by omega)]; omega
    have e5 : (b : Int).tdiv 16 = (b16 : Int) := by rw [Int.tdiv_eq_ediv_of_nonneg (by omega)]; omega
    have e6 : (b16 : Int).tmod 4 = (C : Int) := by rw [Int.tmod_eq_emod_of_nonneg (by omega)]; omega
    have w1 : IntKind.u8.wrap (b4 : Int) = b4 := wrap_u8 (by omega) (by omega)
    have w2 : IntKind.u8.wrap (b16 : Int) = b16 := wrap_u8 (by omega) (by omega)
    have w3 : IntKind.i64.wrap (A : Int) = A := wrap_i64 (by omega) (by omega)
    have w4 : IntKind.i64.wrap (B : Int) = B := wrap_i64 (by omega) (by omega)
    have w5 : IntKind.i64.wrap (C : Int) = C := wrap_i64 (by omega) (by omega)
    have hop : H.cell? (h.length + 1) o0 0 = some (v8 (o0 + 1)) := by rw [ro.cell]; exact ops6_at (by omega)
    have ho6 : (o0 : Int) < 6 := by omega
    obtain ⟨o, ho⟩ : ∃ o, o = o0 + 1 := ⟨_, rfl⟩
    rw [← ho] at hop
    simp [f0, f3, f4, f5, f6, wi1, g1, g2, -pwp_seq]
    rw [pwp_seq]
    simp [f0, f3, f4, f5, f6, wi1, g1, g2, ha, hbv, e1, e2, e3, e4, e5, e6, w1, w2, w3, w4, w5, hop, ho6, -pwp_seq]
    have r0 : RowV (Am.newRow H [.int .u8 0, .int .i64 0, .int .i64 0, .int .i64 0] 4) H.length 0 4 [.int .u8 0, .int .i64 0, .int .i64 0, .int .i64 0] := .new
    obtain ⟨H2, s2, r2, e2'⟩ := r0.store (n := 4) rfl (cs := [.int .u8 o, .int .i64 A, .int .i64 B, .int .i64 0]) rfl rfl
    have k2 : Keeps H.length H H2 := (Keeps.new (.refl _ _) (Nat.le_refl _) _ 4).trans (e2'.keeps (Nat.le_refl _))
    have l2 : H2.length = H.length + 1 := by rw [e2'.2, len_new]
    simp [s2, -pwp_seq]
    have hins : stIns a b = ⟨o, A, B, if o = 1 ∨ o = 2 then 0 else (C : Int)⟩ := by
      simp only [stIns, ← ho0, ← ho, ← hA]
      rw [← hb4, ← hB, ← hb16, ← hC]
    refine seq_rule (fun fr H3 => fr 0 = vL v8 c ∧ fr 3 = v ∧ fr 4 = .pointer (some ⟨h.length, 0, some 0⟩) ∧ fr 5 = .slice (some ⟨h.length + 1, 0, none⟩) 6 0 ∧ fr 6 = vI i ∧ fr 7 = .pointer (some ⟨H.length, 0, some 0⟩) ∧
      RowV H3 H.length 0 4 (vIns (stIns a b)) ∧ Keeps H.length H H3) ?_ ?_
    · have hc2 : ∀ j, H2.cell? H.length j 0 = _ := r2.cell
      by_cases o1 : o = 1
      · rw [hins, if_pos (.inl o1)]
        subst o1
        simp [hc2, f0, f3, f4, f5, f6]
        exact ⟨r2, k2⟩
      · by_cases o2 : o = 2
        · rw [hins, if_pos (.inr o2)]
          rw [o2] at hc2 r2
          simp [hc2, f0, f3, f4, f5, f6, o2, cast_lit]
          exact ⟨r2, k2⟩
        · have hn : ¬ (o = 1 ∨ o = 2) := by omega
          rw [hins, if_neg hn]
          obtain ⟨H3, s3, r3, e3'⟩ := r2.set (j := 3) (by simp) (v := .int .i64 C) rfl
          simp [hc2, f0, f3, f4, f5, f6, o1, o2, cast_lit, wi1, hbv, e5, e6, w2, w5, s3]
          exact ⟨r3, k2.trans (e3'.keeps (Nat.le_refl _))⟩
    · clear f0 f3 f4 f5 f6
      rintro fr H3 ⟨f0, f3, f4, f5, f6, f7, r3, k3⟩
      obtain ⟨C', hC'⟩ : ∃ x, x = (if o = 1 ∨ o = 2 then 0 else (C : Int)) := ⟨_, rfl⟩
      rw [← hC'] at hins
      have hxs : vIns (stIns a b) = [.int .u8 o, .int .i64 A, .int .i64 B, .int .i64 C'] := by rw [hins]; rfl
      rw [hxs] at r3
      have hcs : H3.cells? H.length 0 0 4 = some [.int .u8 o, .int .i64 A, .int .i64 B, .int .i64 C'] := r3.cells rfl
      have acc3 := acc.ext k3
      have hl3 : H.length + 1 ≤ H3.length := r3.lt
      simp [f0, f3, f4, f5, f6, f7, hcs, -pwp_seq]
      refine acc3.pushK (by omega) (by simp [stCode, lim]; omega) hxs rfl fun v' H4 p1 p2 p3 p4 => ?_
      simp [f0, f3, f4, f5, f6, f7, -pwp_seq]
      have wi2 : IntKind.i64.wrap ((i : Int) + 2) = ((2 * (t + 1) : Nat) : Int) := by rw [wrap_i64 (by omega) (by omega)]; omega
      have hkeep : ∀ j, j < h.length + 2 → H4[j]? = H[j]? := fun j hj => by rw [p2.2 j hj, k3.2 j (by omega)]
      have hacc : AccM 4 vIns (h.length + 2) H4 v' (stCode c (t + 1)) := by
        rw [stCode_succ (a := a) (b := b) (by rw [← hi]; exact ha) (by rw [← hi, ← hi1]; exact hbv)]
        exact p1
      exact .go (t + 1, v') (by simp only []; omega) ⟨by simp [f0], by simp, by simp [f4], by simp [f5], by rw [wi2]; simp, by simp only []; omega, hacc, rr.keep (hkeep _ (by omega)), ro.keep (hkeep _ (by omega)), by have := p2.1; omega⟩
  · by_cases g1 : (i1 : Int) < c.length
    · have g2 : ¬ (i : Int) < 40 := by omega
      simp [f0, f3, f4, f5, f6, wi1, g1, g2]
      exact ⟨t, ht, acc, rr, hH⟩
    · simp [f0, f3, f4, f5, f6, wi1, g1]
      exact ⟨t, ht, acc, rr, hH⟩
theorem ValueStraight_spec (c : List Nat) (hb : Bytes c) : PCall prog 9 [vL v8 c] [] fun r _ => r = .bool true := ValueStraight_spec' [] c hb
end Pm
