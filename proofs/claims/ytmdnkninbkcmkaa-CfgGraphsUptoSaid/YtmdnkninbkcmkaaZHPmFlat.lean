/- The pure machine: rows of one's own whose elements have more cells each; values of numbers alone; closed runs.
   No condition: plain lemmas. -/
import Derived.Test.YtmdnkninbkcmkaaZHPmMake2
namespace Pm
set_option linter.unusedSimpArgs false
set_option linter.unusedVariables false
open Go Am

theorem flat_set {α : Type} {F : α → List Value} {e : Nat} (h : ∀ x, (F x).length = e) : ∀ (l : List α) (r : Nat) (x : α), r < l.length → setAll (l.flatMap F) (r * e) (F x) = (l.set r x).flatMap F := by
  intro l r x hr
  rw [setAll_over _ _ _ (by
    rw [flat_len h, h]
    have : (r + 1) * e ≤ l.length * e := Nat.mul_le_mul_right _ hr
    rw [Nat.succ_mul] at this; exact this)]
  unfold over
  rw [flat_take h, h, show r * e + e = (r + 1) * e by rw [Nat.succ_mul], flat_drop h, List.set_eq_take_append_cons_drop, if_pos hr]
  simp
theorem flat_at {α : Type} {F : α → List Value} {e : Nat} (h : ∀ x, (F x).length = e) (l : List α) (r j : Nat) (hj : j < e) : (l.flatMap F)[r * e + j]? = (l[r]?).bind fun x => (F x)[j]? := by
  rw [← List.getElem?_drop, flat_drop h]
  by_cases hr : r < l.length
  · rw [List.drop_eq_getElem_cons hr, List.flatMap_cons, List.getElem?_append_left (by rw [h]; exact hj)]
    simp [hr]
  · rw [List.drop_eq_nil_of_le (by omega)]
    simp [hr]
theorem flat_seg {α : Type} {F : α → List Value} {e : Nat} (h : ∀ x, (F x).length = e) (l : List α) (r : Nat) (x : α) (hx : l[r]? = some x) : ((l.flatMap F).drop (r * e)).take e = F x := by
  obtain ⟨hr, hx⟩ := List.getElem?_eq_some_iff.1 hx
  rw [flat_drop h, List.drop_eq_getElem_cons hr, List.flatMap_cons, hx, List.take_append, List.take_of_length_le (l := F x) (by rw [h]; exact Nat.le_refl _), h]
  simp

/-- A row of one's own, of elements of more cells. -/
def RowM {α : Type} (e : Nat) (F : α → List Value) (H : Heap) (k ver esz : Nat) (l : List α) : Prop := H[k]? = some (.row ⟨l.flatMap F, esz, ver, true⟩)
section
variable {α : Type} {F : α → List Value} {e esz : Nat} {H : Heap} {k ver : Nat} {l : List α}
theorem RowM.lt (h : RowM e F H k ver esz l) : k < H.length := (List.getElem?_eq_some_iff.1 h).1
theorem RowM.cells [hF : Flat F e] (h : RowM e F H k ver esz l) {r : Nat} {x : α} (hx : l[r]? = some x) : H.cells? k (r * e) ver e = some (F x) := by
  simp only [RowM] at h
  have hr := (List.getElem?_eq_some_iff.1 hx).1
  have hb : r * e + e ≤ (l.flatMap F).length := by
    rw [flat_len hF.len]
    have : (r + 1) * e ≤ l.length * e := Nat.mul_le_mul_right _ hr
    rw [Nat.succ_mul] at this; exact this
  simp only [Heap.cells?, Heap.row?, h, if_true]
  rw [if_pos hb, flat_seg hF.len l r x hx]
theorem RowM.cell [hF : Flat F e] (h : RowM e F H k ver esz l) {r j : Nat} (hj : j < e) : H.cell? k (r * e + j) ver = (l[r]?).bind fun x => (F x)[j]? := by
  simp only [RowM] at h
  simp only [Heap.cell?, Heap.row?, h, if_true]
  exact flat_at hF.len l r j hj
theorem RowM.all [hF : Flat F e] (h : RowM e F H k ver esz l) {n : Nat} (hn : n = l.length * e) : H.cells? k 0 ver n = some (l.flatMap F) := by
  simp only [RowM] at h
  subst hn
  simp only [Heap.cells?, Heap.row?, h, if_true, Nat.zero_add, flat_len hF.len]
  rw [if_pos (Nat.le_refl _), List.drop_zero, List.take_of_length_le (by rw [flat_len hF.len]; exact Nat.le_refl _)]
theorem RowM.store [hF : Flat F e] (h : RowM e F H k ver esz l) {r : Nat} (hr : r < l.length) {x : α} (hx : (F x).all cellLike = true) :
    ∃ H', storeV H e (.pointer (some ⟨k, r * e, some ver⟩)) (.agg (F x).toArray) = some H' ∧ RowM e F H' k ver esz (l.set r x) ∧ Same H k H' := by
  have hlt := h.lt
  refine ⟨H.set k (.row ⟨(l.set r x).flatMap F, esz, ver, true⟩), ?_, by simp [RowM, hlt], fun j hj => by rw [List.getElem?_set_ne (Ne.symm hj)], by simp⟩
  simp only [RowM] at h
  have hb : r * e + e ≤ (l.flatMap F).length := by
    rw [flat_len hF.len]
    have : (r + 1) * e ≤ l.length * e := Nat.mul_le_mul_right _ hr
    rw [Nat.succ_mul] at this; exact this
  simp only [storeV, cellsOf_agg, hx, if_true, Heap.row?, h]
  rw [if_pos ⟨trivial, hF.len x, by rw [hF.len]; exact hb⟩, flat_set hF.len l r x hr]
theorem RowM.keep {H' : Heap} (h : RowM e F H k ver esz l) (h' : H'[k]? = H[k]?) : RowM e F H' k ver esz l := by unfold RowM; rw [h']; exact h
end

/-- A row of one's own, of these cells. -/
def RowV (H : Heap) (k ver esz : Nat) (cs : List Value) : Prop := H[k]? = some (.row ⟨cs, esz, ver, true⟩)
section
variable {H H' : Heap} {k ver esz n : Nat} {z cs : List Value}
theorem RowV.lt (h : RowV H k ver esz z) : k < H.length := (List.getElem?_eq_some_iff.1 h).1
theorem RowV.cells (h : RowV H k ver esz z) (hn : n = z.length) : H.cells? k 0 ver n = some z := by
  simp only [RowV] at h
  subst hn
  simp only [Heap.cells?, Heap.row?, h, if_true, Nat.zero_add]
  rw [if_pos (Nat.le_refl _), List.drop_zero, List.take_of_length_le (Nat.le_refl _)]
theorem RowV.cell (h : RowV H k ver esz z) (j : Nat) : H.cell? k j ver = z[j]? := by
  simp only [RowV] at h
  simp only [Heap.cell?, Heap.row?, h, if_true]
theorem RowV.store (h : RowV H k ver esz z) (hz : z.length = n) (hc : cs.length = n) (hl : cs.all cellLike = true) :
    ∃ H', storeV H n (.pointer (some ⟨k, 0, some ver⟩)) (.agg cs.toArray) = some H' ∧ RowV H' k ver esz cs ∧ Same H k H' := by
  have hlt := h.lt
  refine ⟨H.set k (.row ⟨cs, esz, ver, true⟩), ?_, by simp [RowV, hlt], fun j hj => by rw [List.getElem?_set_ne (Ne.symm hj)], by simp⟩
  simp only [RowV] at h
  have h1 : setAll z 0 cs = cs := by
    rw [setAll_over _ _ _ (by omega)]
    unfold over
    rw [List.take_zero, List.nil_append, List.drop_eq_nil_of_le (by omega), List.append_nil]
  simp only [storeV, cellsOf_agg, hl, if_true, Heap.row?, h]
  rw [if_pos ⟨trivial, hc, by omega⟩, h1]
/-- One cell. -/
theorem RowV.set (h : RowV H k ver esz z) {j : Nat} (hj : j < z.length) {v : Value} (hv : cellsOf v = some [v]) :
    ∃ H', storeV H 1 (.pointer (some ⟨k, j, some ver⟩)) v = some H' ∧ RowV H' k ver esz (z.set j v) ∧ Same H k H' := by
  have hlt := h.lt
  refine ⟨H.set k (.row ⟨z.set j v, esz, ver, true⟩), ?_, by simp [RowV, hlt], fun i hi => by rw [List.getElem?_set_ne (Ne.symm hi)], by simp⟩
  simp only [RowV] at h
  simp only [storeV, hv, Heap.row?, h, if_true]
  rw [if_pos ⟨trivial, rfl, by simp; omega⟩]
  simp
theorem RowV.keep (h : RowV H k ver esz z) (h' : H'[k]? = H[k]?) : RowV H' k ver esz z := by unfold RowV; rw [h']; exact h
theorem RowV.new {h : Heap} : RowV (Am.newRow h z esz) h.length 0 esz z := by simp [RowV, Am.newRow]
theorem RowV.old {vs : List Value} {e : Nat} (h : RowV H k ver esz z) : RowV (Am.newRow H vs e) k ver esz z := h.keep (by unfold Am.newRow; rw [List.getElem?_append_left h.lt])
theorem RowV.same {j : Nat} (h : RowV H k ver esz z) (hs : Same H j H') (hj : k ≠ j) : RowV H' k ver esz z := h.keep (hs.1 k hj)
end
/-- Values of closed cells yield themselves. -/
theorem Inl.self {b : Nat} {h : Heap} {cs : List Value} (hc : cs.all closedC = true) : Inl b h (.agg cs.toArray) (.agg cs.toArray) :=
  .agg rfl fun i x y hx hy => by
    rw [hx] at hy; cases hy
    exact .cell (List.all_eq_true.1 hc x (List.mem_of_getElem? (by simpa using hx)))
theorem Pure.agg {P : Program} {f : FuncId} {args : List Value} {cs : List Value} (hc : cs.all closedC = true) (k : ∀ h, PCall P f args h fun v h' => (∃ g, h' = h ++ g) ∧ v = .agg cs.toArray) : Pure P f args (.agg cs.toArray) :=
  .of fun h => (k h).mono fun v h' ⟨h1, h2⟩ => ⟨h1, by rw [h2]; exact .self hc⟩
theorem Pure.one {P : Program} {f : FuncId} {args : List Value} {p : Value} (hc : closedC p = true) (k : ∀ h, PCall P f args h fun v h' => (∃ g, h' = h ++ g) ∧ v = p) : Pure P f args p :=
  .of fun h => (k h).mono fun v h' ⟨h1, h2⟩ => ⟨h1, by rw [h2]; exact .cell hc⟩
/-! ### Closed runs -/
end Pm
