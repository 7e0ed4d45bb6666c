/- Graphs of any shape: what is told of them is what the chapter says.
   No condition: plain lemmas. -/
import Derived.Test.YtmdnkninbkcmkaaZHPmMake2
import Derived.Test.YtmdnkninbkcmkaaZHPmSuccs
import Derived.Test.YtmdnkninbkcmkaaZHPmCfg4
import Derived.Test.YtmdnkninbkcmkaaZHPmLoop
import Derived.Test.YtmdnkninbkcmkaaZHPmBox
namespace Pm
set_option linter.unusedSimpArgs false
set_option linter.unusedVariables false
open Go Am
open Go.Proofs.Try (prog)

section
variable {h : Heap} {K : Value → Heap → Prop}
theorem Doms_own {id n : Nat} (hn : 64 < n) (hk : K nilS h) : PCall prog 12 [.slice (some ⟨id, 0, none⟩) n 0] h K := by
  refine .ofA fun m H vals hP hr => ?_
  obtain ⟨v, rfl, hv⟩ := rs_one hr
  have hn' : (64 : Int) < n := by omega
  cases hv with
  | slice hm =>
    refine Am.call_Doms (by simp) ?_
    simp [Am.c_Doms, Am.enterF, lenV]
    refine Am.scope_rule (b := 0) (fun _ _ _ => False) (fun _ _ _ h => h.elim) ?_
    simp [Am.enterF, lenV, hn', hn, BodyK, resVs, resV, retV]
    exact fun _ => ⟨_, hk, .sliceNil⟩
end
def sumL (s : List (List Int)) (i : Nat) : Nat := i + ((s.take i).map List.length).sum
theorem sumL_next {s : List (List Int)} {i i1 : Nat} {l : List Int} (hl : s[i]? = some l) (hi : i1 = i + 1) : sumL s i1 = sumL s i + (1 + l.length) := by
  unfold sumL
  rw [hi, List.take_add_one, hl]
  simp
  omega
theorem sumL_le {s : List (List Int)} (hb : ∀ l ∈ s, l.length ≤ 1048576) : ∀ i, i ≤ s.length → sumL s i ≤ i * 1048577
  | 0, _ => by simp [sumL]
  | i + 1, h => by
    have hx : s[i]? = some (s[i]'(by omega)) := List.getElem?_eq_getElem _
    rw [sumL_next hx rfl]
    have := sumL_le hb i (by omega)
    have := hb _ (List.mem_of_getElem? hx)
    omega
set_option maxHeartbeats 4000000 in
theorem CfgGraphs_spec' (h : Heap) (s : List (List Int)) (n : Nat) (c : List Nat) (long : Nat) (hs : s.length ≤ 1048576 ∧ ∀ l ∈ s, l.length ≤ 1048576) (hn : n ≤ 255) (hc : Bytes c) (hg : long ≤ 255) : PCall prog 3 [vL (vL vI) s, v8 n, vL v8 c, v8 long] h fun r _ => r = .bool true := by
  refine call_CfgGraphs (by simp) ?_
  have hlim : lim = 1048576 := rfl
  simp [-pwp_seq, new_box, app_box, len_box, cell_box, cell_box0, cells_box, cells_box0, store_box, store_box0, cellB_bx, cellsB_bx, storeB_bx, BodyK, resVs, resV, retV, box_all, cast_lit, wrap_1, wrap_2, wrap_3, wrap_4, c_CfgGraphs]
  refine seq_l (σ := Unit) (fun _ => [(0, vL (vL vI) s), (1, v8 n), (2, vL v8 c), (3, v8 long), (9, vI (sumL s s.length))]) (fun _ => h) (fun _ => True) ?_ ?_
  · simp [-pwp_seq, new_box, app_box, len_box, cell_box, cell_box0, cells_box, cells_box0, store_box, store_box0, cellB_bx, cellsB_bx, storeB_bx, BodyK, resVs, resV, retV, box_all, cast_lit, wrap_1, wrap_2, wrap_3, wrap_4]
    refine loop_l (σ := Nat) (fun i => [(0, vL (vL vI) s), (1, v8 n), (2, vL v8 c), (3, v8 long), (9, vI (sumL s i)), (10, vI i)]) (fun _ => h) (fun i => i ≤ s.length) (fun i => s.length - i) 0 (by simp [sumL]) rfl (by simp) ?_
    intro i fr hi
    by_cases hlt : i < s.length
    · obtain ⟨i1, hi1, wi⟩ : ∃ i1, i1 = i + 1 ∧ IntKind.i64.wrap ((i : Int) + 1) = (i1 : Int) := ⟨i + 1, rfl, by rw [wrap_i64 (by omega) (by omega)]; simp⟩
      have hif : (i : Int) < s.length := by omega
      obtain ⟨l, hl⟩ : ∃ l, s[i]? = some l := ⟨_, List.getElem?_eq_getElem hlt⟩
      have hb := hs.2 l (List.mem_of_getElem? hl)
      have hsum := sumL_le hs.2 i (by omega)
      have hnx := sumL_next hl hi1
      obtain ⟨a, ha⟩ : ∃ a, a = sumL s i := ⟨_, rfl⟩
      obtain ⟨b, hbb⟩ : ∃ b, b = sumL s i1 := ⟨_, rfl⟩
      rw [← ha] at hnx hsum ⊢
      rw [← hbb] at hnx
      have hal : a ≤ 1099512676352 := by omega
      have w1 : IntKind.i64.wrap (1 + (l.length : Int)) = ((1 + l.length : Nat) : Int) := by rw [wrap_i64 (by omega) (by omega)]; simp
      have w2 : IntKind.i64.wrap ((a : Int) + ((1 + l.length : Nat) : Int)) = (b : Int) := by rw [wrap_i64 (by omega) (by omega), hnx]; simp
      rw [pwp_seq]
      simp [-pwp_seq, new_box, app_box, len_box, cell_box, cell_box0, cells_box, cells_box0, store_box, store_box0, cellB_bx, cellsB_bx, storeB_bx, BodyK, resVs, resV, retV, box_all, cast_lit, wrap_1, wrap_2, wrap_3, wrap_4, hif]
      rw [pwp_seq]
      obtain ⟨d, hd⟩ : ∃ d, d = 1 + l.length := ⟨_, rfl⟩
      rw [← hd] at w1 w2
      simp [new_box, app_box, len_box, cell_box, cell_box0, cells_box, cells_box0, store_box, store_box0, cellB_bx, cellsB_bx, storeB_bx, BodyK, resVs, resV, retV, box_all, cast_lit, wrap_1, wrap_2, wrap_3, wrap_4, hl, hif, w1, w2, wi]
      exact .go i1 (by omega) (by simp [← hbb]) rfl (by omega)
    · obtain rfl : i = s.length := by omega
      rw [pwp_seq]
      simp [new_box, app_box, len_box, cell_box, cell_box0, cells_box, cells_box0, store_box, store_box0, cellB_bx, cellsB_bx, storeB_bx, BodyK, resVs, resV, retV, box_all, cast_lit, wrap_1, wrap_2, wrap_3, wrap_4]
      exact .go () (by simp) rfl trivial
  · rintro ⟨⟩ fr _
    have hsum := sumL_le hs.2 s.length (Nat.le_refl _)
    obtain ⟨a, ha⟩ : ∃ a, a = sumL s s.length := ⟨_, rfl⟩
    have hae : a = s.length + (s.map List.length).sum := by rw [ha]; unfold sumL; rw [List.take_length]
    rw [← ha]
    by_cases h100 : 100 < a
    · have h100' : (100 : Int) < a := by omega
      rw [pwp_seq]
      simp [new_box, app_box, len_box, cell_box, cell_box0, cells_box, cells_box0, store_box, store_box0, cellB_bx, cellsB_bx, storeB_bx, BodyK, resVs, resV, retV, box_all, cast_lit, wrap_1, wrap_2, wrap_3, wrap_4, h100, h100']
      refine known10_call ?_
      simp [new_box, app_box, len_box, cell_box, cell_box0, cells_box, cells_box0, store_box, store_box0, cellB_bx, cellsB_bx, storeB_bx, BodyK, resVs, resV, retV, box_all, cast_lit, wrap_1, wrap_2, wrap_3, wrap_4, callK_def]
    · have h100' : ¬ (100 : Int) < a := by omega
      rw [pwp_seq]
      simp [-pwp_seq, new_box, app_box, len_box, cell_box, cell_box0, cells_box, cells_box0, store_box, store_box0, cellB_bx, cellsB_bx, storeB_bx, BodyK, resVs, resV, retV, box_all, cast_lit, wrap_1, wrap_2, wrap_3, wrap_4, h100, h100']
      refine known10_call ?_
      simp [-pwp_seq, new_box, app_box, len_box, cell_box, cell_box0, cells_box, cells_box0, store_box, store_box0, cellB_bx, cellsB_bx, storeB_bx, BodyK, resVs, resV, retV, box_all, cast_lit, wrap_1, wrap_2, wrap_3, wrap_4, callK_def]
      refine tells10_call (by omega) ?_
      simp [-pwp_seq, new_box, app_box, len_box, cell_box, cell_box0, cells_box, cells_box0, store_box, store_box0, cellB_bx, cellsB_bx, storeB_bx, BodyK, resVs, resV, retV, box_all, cast_lit, wrap_1, wrap_2, wrap_3, wrap_4, callK_def]
      refine Graph_call hc.2 hn fun g hgs => ?_
      simp [-pwp_seq, new_box, app_box, len_box, cell_box, cell_box0, cells_box, cells_box0, store_box, store_box0, cellB_bx, cellsB_bx, storeB_bx, BodyK, resVs, resV, retV, box_all, cast_lit, wrap_1, wrap_2, wrap_3, wrap_4, callK_def]
      obtain ⟨g1, g2, g3⟩ := hgs
      refine tells10_call (by omega) ?_
      obtain ⟨m, hm⟩ : ∃ m, m = 65 + long := ⟨_, rfl⟩
      have w1 : IntKind.i64.wrap (long : Int) = (long : Int) := wrap_i64 (by omega) (by omega)
      have w2 : IntKind.i64.wrap (65 + (long : Int)) = (m : Int) := by rw [wrap_i64 (by omega) (by omega), hm]; simp
      have hmk : ∀ H : Heap, makeV H [.slice none 0 0] 1 (vI m) (vI m) = some (.slice (some ⟨H.length, 0, none⟩) m 0, H ++ [bx (List.replicate m nilS) 1]) := fun H => by
        have : (0 : Int) ≤ m ∧ (m : Int) ≤ m ∧ (m : Int) ≤ (lim : Nat) := by omega
        simp only [makeV]
        rw [if_pos this, rep_one]
        rfl
      simp [-pwp_seq, new_box, app_box, len_box, cell_box, cell_box0, cells_box, cells_box0, store_box, store_box0, cellB_bx, cellsB_bx, storeB_bx, BodyK, resVs, resV, retV, box_all, cast_lit, wrap_1, wrap_2, wrap_3, wrap_4, callK_def, w1, w2, hmk]
      refine Doms_own (by omega) ?_
      simp [new_box, app_box, len_box, cell_box, cell_box0, cells_box, cells_box0, store_box, store_box0, cellB_bx, cellsB_bx, storeB_bx, BodyK, resVs, resV, retV, box_all, cast_lit, wrap_1, wrap_2, wrap_3, wrap_4, callK_def]
theorem CfgGraphs_spec (s : List (List Int)) (n : Nat) (c : List Nat) (long : Nat) (hs : s.length ≤ 1048576 ∧ ∀ l ∈ s, l.length ≤ 1048576) (hn : n ≤ 255) (hc : Bytes c) (hg : long ≤ 255) : PCall prog 3 [vL (vL vI) s, v8 n, vL v8 c, v8 long] [] fun r _ => r = .bool true := CfgGraphs_spec' [] s n c long hs hn hc hg
end Pm
