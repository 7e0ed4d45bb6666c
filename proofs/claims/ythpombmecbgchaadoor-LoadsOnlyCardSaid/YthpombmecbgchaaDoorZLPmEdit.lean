/- Code that is changed: small walks that several chapters share.
   No condition: plain lemmas. -/

import Derived.KernelRfl
import Derived.Test.YthpombmecbgchaaDoorZLPmFields
import Derived.Test.YthpombmecbgchaaDoorZLPm5
import Derived.Test.YthpombmecbgchaaDoorProg
import Derived.Test.YthpombmecbgchaaDoorZLPmLive2
namespace Pm
set_option linter.unusedSimpArgs false
set_option linter.unusedVariables false
open Go Am
open Go.Proofs.Tryd (prog)

section
variable {P : Program} {K : Fr → Heap → Prop} {is : List AIns} {d : Option Nat} {fr : Fr} {H0 H : Heap} {b : Nat} {lit : Value} {rs : List Ob}
/-- One more in a list that stands in a box. -/
theorem box_push {α : Type} {f : α → Value} {m j : Nat} {Z : List Value} {v : Value} {l : List α} {x : α} (hr : RowV H b 0 m Z) (ha : AccL f (b + 1) H v l) (hj : j < Z.length) (hp : pElems (H ++ rs) 1 lit = some (1, [f x])) (hl : l.length + 1 ≤ lim)
    (hk : ∀ v1 H1 H2, storeV H1 1 (.pointer (some ⟨b, j, some 0⟩)) v1 = some H2 → RowV H2 b 0 m (Z.set j v1) → AccL f (b + 1) H2 v1 (l ++ [x]) → (∀ j o, rs[j]? = some o → H2[H.length + j]? = some o) → H.length + rs.length ≤ H2.length → Keeps b H H2 → pOps P K is (updO fr d v1) H1) :
    eK P K is d [] fr H0 (pApp (H ++ rs) 1 v lit) := by
  have hb := hr.lt
  refine AccL.apps (ha.ext Keeps.app) (by simp; omega) (m := [x]) hp (by simpa using hl) fun v1 H1 a1 a2 a3 a4 => ?_
  have hgl : ∀ i, rid v = some i → i < H.length := fun i hi => ha.lt hi
  have hr1 : RowV H1 b 0 m Z := hr.keep (by rw [a2.2 _ (by omega), List.getElem?_append_left hb])
  have hH1 : H.length + rs.length ≤ H1.length := by have := a2.1; simpa using this
  obtain ⟨H2, t1, t2, t3⟩ := hr1.set hj a1.cell
  refine hk v1 H1 H2 t1 t2 (a1.keep fun i hi => t3.1 i (fun e => by have := a1.low i hi; omega)) (fun j o ho => ?_) (by rw [t3.2]; exact hH1) ⟨by rw [t3.2]; omega, fun i hi => ?_⟩
  · have hj := (List.getElem?_eq_some_iff.1 ho).1
    rw [t3.1 _ (by omega), a3 _ (by simp; omega) (fun e => by have := hgl _ e; omega), List.getElem?_append_right (by omega), Nat.add_sub_cancel_left, ho]
  · rw [t3.1 i (by omega), a2.2 i (by omega), List.getElem?_append_left (by omega)]
end
section
variable {h : Heap} {K : Value → Heap → Prop}
theorem Clone4_call {l : List Ins} (hl : l.length ≤ lim) (k0 : l = [] → K nilS h) (k1 : K (.slice (some ⟨h.length, 0, none⟩) l.length 1) (h ++ [.row ⟨l.flatMap vIns, 4, 1, true⟩])) : PCall prog 20 [vM 4 vIns l] h K := by
  refine call_Clone4 (by simp) ?_
  simp [new_box, app_box, len_box, cell_box, cell_box0, cells_box, cells_box0, store_box, store_box0, cellB_bx, cellsB_bx, storeB_bx, BodyK, resVs, resV, retV, box_all, cast_lit, wrap_1, wrap_2, wrap_3, wrap_4, c_Clone4]
  refine pOps_nilT (by simp) fun b hb => ?_
  cases b with
  | true =>
    have e : l = [] := by simpa using hb
    subst e
    simp [new_box, app_box, len_box, cell_box, cell_box0, cells_box, cells_box0, store_box, store_box0, cellB_bx, cellsB_bx, storeB_bx, BodyK, resVs, resV, retV, box_all, cast_lit, wrap_1, wrap_2, wrap_3, wrap_4]
    exact k0 rfl
  | false =>
    simp [new_box, app_box, len_box, cell_box, cell_box0, cells_box, cells_box0, store_box, store_box0, cellB_bx, cellsB_bx, storeB_bx, BodyK, resVs, resV, retV, box_all, cast_lit, wrap_1, wrap_2, wrap_3, wrap_4]
    rw [show (h : Heap).length = h.length + 0 from rfl, push_at (e := 4) (r := ⟨[], 4, 0, true⟩) (n := l.length) (new := l.flatMap vIns) rfl (by simp) rfl rfl (by simp) (by omega)]
    simp [new_box, app_box, len_box, cell_box, cell_box0, cells_box, cells_box0, store_box, store_box0, cellB_bx, cellsB_bx, storeB_bx, BodyK, resVs, resV, retV, box_all, cast_lit, wrap_1, wrap_2, wrap_3, wrap_4]
    exact k1
end
def nopI : Ins := ⟨0, 0, 0, 0⟩
def ownL (n : Nat) : List Int := (List.range n).map fun i : Nat => (i : Int)
theorem ownL_succ (n : Nat) : ownL (n + 1) = ownL n ++ [(n : Int)] := by simp [ownL, List.range_succ]
theorem ownL_len (n : Nat) : (ownL n).length = n := by simp [ownL]
def vEdit (out : List Ins) (fm : List Int) : Value := .agg #[vM 4 vIns out, vL vI fm]
theorem ownL_at {n i : Nat} (h : i < n) : (ownL n)[i]? = some (i : Int) := by simp [ownL, h]
theorem pElems_lit4 {h : Heap} {L : List Ob} {m : Nat} {cs : List Value} (hj : L[m]? = some (bx cs 4)) (hl : cs.length = 4) : pElems (h ++ L) 4 (.slice (some ⟨h.length + m, 0, none⟩) 1 0) = some (1, cs) := by
  rw [pElems_own, cells_at, hj, rowO_bx]
  simp [hl, List.take_of_length_le]
theorem AccM.cell {α : Type} {F : α → List Value} {e b : Nat} {H : Heap} {v : Value} {l : List α} (ha : AccM e F b H v l) : cellsOf v = some [v] := by
  rcases ha with ⟨e, _⟩ | ⟨id, ver, e, _⟩ <;> rw [e] <;> rfl
/-- No jump stands in it. -/
def Strt (code : List Ins) : Prop := ∀ c ∈ code, c.op ≠ 10 ∧ c.op ≠ 11
theorem nextsOf_plain {i : Nat} {c : Ins} (h : c.op ≠ 10 ∧ c.op ≠ 11) : nextsOf i c = [((i + 1 : Nat) : Int)] := by
  unfold nextsOf
  rw [if_neg h.1, if_neg h.2]
  rfl
theorem eqAV_I {x y : Ins} {g : Bool} : eqAV [0, 0, 0, 0] g (.agg (vIns x).toArray) (.agg (vIns y).toArray) = some (.bool (if g then !decide (x = y) else decide (x = y))) := by
  have e : (x = y) ↔ (x.op : Int) = y.op ∧ x.a = y.a ∧ x.b = y.b ∧ x.c = y.c := by
    constructor
    · rintro rfl; simp
    · rintro ⟨h1, h2, h3, h4⟩
      obtain ⟨_, _, _, _⟩ := x
      obtain ⟨_, _, _, _⟩ := y
      simp only at h1 h2 h3 h4
      subst h2 h3 h4
      simp only [Ins.mk.injEq, and_true]
      omega
  have k : eqCs [0, 0, 0, 0] (vIns x) (vIns y) = some (decide (x = y)) := by
    simp only [vIns, eqCs_int, eqCs_nil, e]
    by_cases h1 : (x.op : Int) = y.op <;> by_cases h2 : x.a = y.a <;> by_cases h3 : x.b = y.b <;> by_cases h4 : x.c = y.c <;> simp only [h1, h2, h3, h4, if_true, if_false, and_true, true_and, and_false, false_and, decide_true, decide_false]
  rw [eqAV_agg, k]
  rfl
/-- It is not written any more; it can still be read. -/
theorem AccM.frzR {b : Nat} {H : Heap} {v : Value} {l : List Ins} (ha : AccM 4 vIns b H v l) (hne : 0 < l.length) : ∃ id ver H', v = .slice (some ⟨id, 0, none⟩) l.length ver ∧ frzV H 4 v = some (vM 4 vIns l, H') ∧ H'[id]? = some (.row ⟨l.flatMap vIns, 4, ver, false⟩) := by
  rcases ha with ⟨_, h0, _⟩ | ⟨id, ver, rfl, h2, h3, h4⟩
  · omega
  · have hid := (List.getElem?_eq_some_iff.1 h3).1
    have hs : seg (l.flatMap vIns) 0 (l.length * 4) = l.flatMap vIns := by unfold seg; rw [List.drop_zero, List.take_of_length_le (by omega)]
    refine ⟨id, ver, H.set id (.row ⟨l.flatMap vIns, 4, ver, false⟩), rfl, ?_, by rw [List.getElem?_set_self hid]⟩
    have hc : (l.flatMap vIns).all closedC = true := closed_flat (fun _ => rfl) l
    simp only [frzV, frzC, Heap.row?, h3, if_true, hs, hc]
    rw [if_pos ⟨by omega, trivial⟩]
    rfl
theorem rowB_cells {H : Heap} {k ver r : Nat} {b : Bool} {l : List Ins} {x : Ins} (h : H[k]? = some (.row ⟨l.flatMap vIns, 4, ver, b⟩)) (hx : l[r]? = some x) : H.cells? k (r * 4) ver 4 = some (vIns x) := by
  have hr := (List.getElem?_eq_some_iff.1 hx).1
  have hfl : (l.flatMap vIns).length = l.length * 4 := flat_len (e := 4) (fun _ => rfl) l
  simp only [Heap.cells?, Heap.row?, h, if_true]
  rw [if_pos (by omega), flat_seg (e := 4) (fun _ => rfl) l r x hx]
theorem rowB_cell {H : Heap} {k ver r j : Nat} {b : Bool} {l : List Ins} {x : Ins} (h : H[k]? = some (.row ⟨l.flatMap vIns, 4, ver, b⟩)) (hx : l[r]? = some x) (hj : j < 4) : H.cell? k (r * 4 + j) ver = (vIns x)[j]? := by
  simp only [Heap.cell?, Heap.row?, h, if_true]
  rw [flat_at (e := 4) (fun _ => rfl) l r j hj, hx]
  rfl
section
variable {h : Heap} {K : Value → Heap → Prop}
end
section
variable {h : Heap} {K : Value → Heap → Prop}
end
end Pm
