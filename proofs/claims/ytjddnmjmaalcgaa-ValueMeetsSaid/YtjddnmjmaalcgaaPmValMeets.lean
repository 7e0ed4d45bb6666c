/- Numbers that are known: it does not matter which comes first.
   No condition: plain lemmas. -/
import Derived.Test.YtjddnmjmaalcgaaPmVal10
namespace Pm
set_option linter.unusedSimpArgs false
set_option linter.unusedVariables false
open Go Am
open Go.Proofs.Try (prog)

theorem meetV_self {a : Val} (ha : Bare a) : meetV a a = a := (meetV_least ha ha (.refl _) (.refl _)).antisymm (meetV_left ha)
theorem meetV_comm {a b : Val} (ha : Bare a) (hb : Bare b) : meetV a b = meetV b a :=
  (meetV_least ha hb (meetV_right ha) (meetV_left hb)).antisymm (meetV_least hb ha (meetV_right hb) (meetV_left ha))
theorem meetV_assoc {a b c : Val} (ha : Bare a) (hb : Bare b) (hc : Bare c) : meetV (meetV a b) c = meetV a (meetV b c) := by
  have ab := meetV_bare a b; have bc := meetV_bare b c
  have h1 := meetV_bare (meetV a b) c; have h2 := meetV_bare a (meetV b c)
  refine leV.antisymm ?_ ?_
  · exact meetV_least ab hc (meetV_least ha hb (meetV_left ha) ((meetV_left hb).trans bc h2 (meetV_right bc))) ((meetV_right hc).trans bc h2 (meetV_right bc))
  · exact meetV_least ha bc ((meetV_left ha).trans ab h1 (meetV_left ab)) (meetV_least hb hc ((meetV_right hb).trans ab h1 (meetV_left ab)) (meetV_right hc))
theorem meetV_more {a b : Val} (ha : Bare a) (hb : Bare b) : meetV (meetV a b) a = meetV a b :=
  (meetV_least (meetV_bare _ _) ha (.refl _) (meetV_left ha)).antisymm (meetV_left (meetV_bare _ _))
/-- A value, by choices. -/
def kv (k : Nat) (n : Int) : Val := if k = 1 then ⟨1, n.tmod 3⟩ else ⟨k, 0⟩
theorem kv_bare {k : Nat} {n : Int} (h : k ≤ 2) : Bare (kv k n) := by
  unfold kv
  have : k = 0 ∨ k = 1 ∨ k = 2 := by omega
  rcases this with rfl | rfl | rfl
  · rfl
  · exact bare_one _
  · rfl
theorem mod3_wrap (n : Int) : IntKind.i64.wrap (n.tmod 3) = n.tmod 3 := by
  have h1 := Int.tmod_lt_of_pos n (show (0 : Int) < 3 by decide)
  have h2 := Int.lt_tmod_of_pos n (show (0 : Int) < 3 by decide)
  exact wrap_i64 (by omega) (by omega)
set_option maxHeartbeats 2000000 in
theorem ValueMeets_spec' (h : Heap) (n m o : Int) (k : Nat) (hk : k ≤ 255) : PCall prog 12 [.int .i8 n, .int .i8 m, .int .i8 o, v8 k] h fun r _ => r = .bool true := by
  refine call_ValueMeets (by simp) ?_
  obtain ⟨ka, hka⟩ : ∃ r, r = k % 3 := ⟨_, rfl⟩
  obtain ⟨k3, hk3⟩ : ∃ r, r = k / 3 := ⟨_, rfl⟩
  obtain ⟨k9, hk9⟩ : ∃ r, r = k / 9 := ⟨_, rfl⟩
  obtain ⟨kb, hkb⟩ : ∃ r, r = k3 % 3 := ⟨_, rfl⟩
  obtain ⟨kc, hkc⟩ : ∃ r, r = k9 % 3 := ⟨_, rfl⟩
  have e1 : (k : Int).tmod 3 = (ka : Int) := by rw [Int.tmod_eq_emod_of_nonneg (by omega)]; omega
  have e2 : (k : Int).tdiv 3 = (k3 : Int) := by rw [Int.tdiv_eq_ediv_of_nonneg (by omega)]; omega
  have e3 : (k : Int).tdiv 9 = (k9 : Int) := by rw [Int.tdiv_eq_ediv_of_nonneg (by omega)]; omega
  have e4 : (k3 : Int).tmod 3 = (kb : Int) := by rw [Int.tmod_eq_emod_of_nonneg (by omega)]; omega
  have e5 : (k9 : Int).tmod 3 = (kc : Int) := by rw [Int.tmod_eq_emod_of_nonneg (by omega)]; omega
  have w1 : IntKind.u8.wrap (k3 : Int) = k3 := wrap_u8 (by omega) (by omega)
  have w2 : IntKind.u8.wrap (k9 : Int) = k9 := wrap_u8 (by omega) (by omega)
  have wn := mod3_wrap n; have wm := mod3_wrap m; have wo := mod3_wrap o
  obtain ⟨a, ha⟩ : ∃ a, a = kv ka n := ⟨_, rfl⟩
  obtain ⟨b, hb⟩ : ∃ a, a = kv kb m := ⟨_, rfl⟩
  obtain ⟨c, hc⟩ : ∃ a, a = kv kc o := ⟨_, rfl⟩
  have ba : Bare a := by rw [ha]; exact kv_bare (by omega)
  have bb : Bare b := by rw [hb]; exact kv_bare (by omega)
  have bc : Bare c := by rw [hc]; exact kv_bare (by omega)
  simp [-pwp_seq, new_box, app_box, len_box, cell_box, cell_box0, cells_box, cells_box0, store_box, store_box0, cellB_bx, cellsB_bx, storeB_bx, BodyK, resVs, resV, retV, box_all, cast_lit, wrap_1, wrap_2, wrap_3, wrap_4, c_ValueMeets, e1, e2, e3, e4, e5, w1, w2]
  refine seq_rule (fun fr h' => fr 0 = .int .i8 n ∧ fr 1 = .int .i8 m ∧ fr 2 = .int .i8 o ∧ fr 9 = .pointer (some ⟨h.length, 0, some 0⟩) ∧ fr 10 = .pointer (some ⟨h.length + 1, 0, some 0⟩) ∧ fr 11 = .pointer (some ⟨h.length + 2, 0, some 0⟩) ∧
    h' = h ++ [bx (cV a) 2, bx [v8 kb, vI 0] 2, bx [v8 kc, vI 0] 2]) ?_ ?_
  · by_cases k1 : ka = 1
    · simp [new_box, app_box, len_box, cell_box, cell_box0, cells_box, cells_box0, store_box, store_box0, cellB_bx, cellsB_bx, storeB_bx, BodyK, resVs, resV, retV, box_all, cast_lit, wrap_1, wrap_2, wrap_3, wrap_4, k1, ha, kv, cV, wn]
      rfl
    · simp [new_box, app_box, len_box, cell_box, cell_box0, cells_box, cells_box0, store_box, store_box0, cellB_bx, cellsB_bx, storeB_bx, BodyK, resVs, resV, retV, box_all, cast_lit, wrap_1, wrap_2, wrap_3, wrap_4, k1, ha, kv, cV]
  rintro fr _ ⟨f0, f1, f2, f9, f10, f11, rfl⟩
  refine seq_rule (fun fr h' => fr 0 = .int .i8 n ∧ fr 1 = .int .i8 m ∧ fr 2 = .int .i8 o ∧ fr 9 = .pointer (some ⟨h.length, 0, some 0⟩) ∧ fr 10 = .pointer (some ⟨h.length + 1, 0, some 0⟩) ∧ fr 11 = .pointer (some ⟨h.length + 2, 0, some 0⟩) ∧
    h' = h ++ [bx (cV a) 2, bx (cV b) 2, bx [v8 kc, vI 0] 2]) ?_ ?_
  · by_cases k1 : kb = 1
    · simp [new_box, app_box, len_box, cell_box, cell_box0, cells_box, cells_box0, store_box, store_box0, cellB_bx, cellsB_bx, storeB_bx, BodyK, resVs, resV, retV, box_all, cast_lit, wrap_1, wrap_2, wrap_3, wrap_4, f0, f1, f2, f9, f10, f11, k1, hb, kv, cV, wm]
    · simp [new_box, app_box, len_box, cell_box, cell_box0, cells_box, cells_box0, store_box, store_box0, cellB_bx, cellsB_bx, storeB_bx, BodyK, resVs, resV, retV, box_all, cast_lit, wrap_1, wrap_2, wrap_3, wrap_4, f0, f1, f2, f9, f10, f11, k1, hb, kv, cV]
  clear f0 f1 f2 f9 f10 f11
  rintro fr _ ⟨f0, f1, f2, f9, f10, f11, rfl⟩
  refine seq_rule (fun fr h' => fr 9 = .pointer (some ⟨h.length, 0, some 0⟩) ∧ fr 10 = .pointer (some ⟨h.length + 1, 0, some 0⟩) ∧ fr 11 = .pointer (some ⟨h.length + 2, 0, some 0⟩) ∧
    h' = h ++ [bx (cV a) 2, bx (cV b) 2, bx (cV c) 2]) ?_ ?_
  · by_cases k1 : kc = 1
    · simp [new_box, app_box, len_box, cell_box, cell_box0, cells_box, cells_box0, store_box, store_box0, cellB_bx, cellsB_bx, storeB_bx, BodyK, resVs, resV, retV, box_all, cast_lit, wrap_1, wrap_2, wrap_3, wrap_4, f0, f1, f2, f9, f10, f11, k1, hc, kv, cV, wo]
    · simp [new_box, app_box, len_box, cell_box, cell_box0, cells_box, cells_box0, store_box, store_box0, cellB_bx, cellsB_bx, storeB_bx, BodyK, resVs, resV, retV, box_all, cast_lit, wrap_1, wrap_2, wrap_3, wrap_4, f0, f1, f2, f9, f10, f11, k1, hc, kv, cV]
  clear f0 f1 f2 f9 f10 f11 ha hb hc
  rintro fr _ ⟨f9, f10, f11, rfl⟩
  obtain ⟨x, hx⟩ : ∃ x, x = meetV a b := ⟨_, rfl⟩
  obtain ⟨y, hy⟩ : ∃ y, y = meetV b c := ⟨_, rfl⟩
  obtain ⟨z, hz⟩ : ∃ z, z = meetV x c := ⟨_, rfl⟩
  have m1 : meetV b a = x := by rw [hx]; exact meetV_comm bb ba
  have m2 : meetV a a = a := meetV_self ba
  have m3 : meetV a y = z := by rw [hz, hx, hy]; exact (meetV_assoc ba bb bc).symm
  have m4 : meetV x a = x := by rw [hx]; exact meetV_more ba bb
  have k1 : a.kind ≤ x.kind := by rw [hx]; exact ((meetV_left ba).kind ba (meetV_bare _ _)).1
  have k2 : b.kind ≤ x.kind := by rw [hx]; exact ((meetV_right bb).kind bb (meetV_bare _ _)).1
  simp [new_box, app_box, len_box, cell_box, cell_box0, cells_box, cells_box0, store_box, store_box0, cellB_bx, cellsB_bx, storeB_bx, BodyK, resVs, resV, retV, box_all, cast_lit, wrap_1, wrap_2, wrap_3, wrap_4, f9, f10, f11, cV]
  refine vMeet_call (v := a) (w := b) ?_
  rw [← hx]
  simp [new_box, app_box, len_box, cell_box, cell_box0, cells_box, cells_box0, store_box, store_box0, cellB_bx, cellsB_bx, storeB_bx, BodyK, resVs, resV, retV, box_all, cast_lit, wrap_1, wrap_2, wrap_3, wrap_4, callK_def, f9, f10, f11, vV]
  refine known14_call ?_
  simp [new_box, app_box, len_box, cell_box, cell_box0, cells_box, cells_box0, store_box, store_box0, cellB_bx, cellsB_bx, storeB_bx, BodyK, resVs, resV, retV, box_all, cast_lit, wrap_1, wrap_2, wrap_3, wrap_4, callK_def, f9, f10, f11]
  refine vMeet_call (v := b) (w := a) ?_
  rw [m1]
  simp [new_box, app_box, len_box, cell_box, cell_box0, cells_box, cells_box0, store_box, store_box0, cellB_bx, cellsB_bx, storeB_bx, BodyK, resVs, resV, retV, box_all, cast_lit, wrap_1, wrap_2, wrap_3, wrap_4, callK_def, f9, f10, f11, vV]
  refine vMeet_call (v := a) (w := a) ?_
  rw [m2]
  simp [new_box, app_box, len_box, cell_box, cell_box0, cells_box, cells_box0, store_box, store_box0, cellB_bx, cellsB_bx, storeB_bx, BodyK, resVs, resV, retV, box_all, cast_lit, wrap_1, wrap_2, wrap_3, wrap_4, callK_def, f9, f10, f11, vV]
  refine vMeet_call (v := x) (w := c) ?_
  rw [← hz]
  simp [new_box, app_box, len_box, cell_box, cell_box0, cells_box, cells_box0, store_box, store_box0, cellB_bx, cellsB_bx, storeB_bx, BodyK, resVs, resV, retV, box_all, cast_lit, wrap_1, wrap_2, wrap_3, wrap_4, callK_def, f9, f10, f11, vV]
  refine vMeet_call (v := b) (w := c) ?_
  rw [← hy]
  simp [new_box, app_box, len_box, cell_box, cell_box0, cells_box, cells_box0, store_box, store_box0, cellB_bx, cellsB_bx, storeB_bx, BodyK, resVs, resV, retV, box_all, cast_lit, wrap_1, wrap_2, wrap_3, wrap_4, callK_def, f9, f10, f11, vV]
  refine vMeet_call (v := a) (w := y) ?_
  rw [m3]
  simp [new_box, app_box, len_box, cell_box, cell_box0, cells_box, cells_box0, store_box, store_box0, cellB_bx, cellsB_bx, storeB_bx, BodyK, resVs, resV, retV, box_all, cast_lit, wrap_1, wrap_2, wrap_3, wrap_4, callK_def, f9, f10, f11, vV]
  refine vMeet_call (v := x) (w := a) ?_
  rw [m4]
  simp [new_box, app_box, len_box, cell_box, cell_box0, cells_box, cells_box0, store_box, store_box0, cellB_bx, cellsB_bx, storeB_bx, BodyK, resVs, resV, retV, box_all, cast_lit, wrap_1, wrap_2, wrap_3, wrap_4, callK_def, f9, f10, f11, vV, k1, k2]
theorem ValueMeets_spec (n m o : Int) (k : Nat) (_ : -128 ≤ n ∧ n ≤ 127) (_ : -128 ≤ m ∧ m ≤ 127) (_ : -128 ≤ o ∧ o ≤ 127) (hk : k ≤ 255) : PCall prog 12 [.int .i8 n, .int .i8 m, .int .i8 o, v8 k] [] fun r _ => r = .bool true := ValueMeets_spec' [] n m o k hk
end Pm
