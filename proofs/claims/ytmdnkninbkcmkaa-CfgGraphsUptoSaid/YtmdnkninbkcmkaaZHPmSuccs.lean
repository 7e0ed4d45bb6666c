/- Rows of at most two numbers: sorted, and like ones left out.
   No condition: plain lemmas. -/
import Derived.Test.YtmdnkninbkcmkaaZHPmCfgC
import Derived.Test.YtmdnkninbkcmkaaZHPmCfg2
import Derived.Test.YtmdnkninbkcmkaaZHPmLaw
namespace Pm
set_option linter.unusedSimpArgs false
set_option linter.unusedVariables false
open Go Am
open Go.Proofs.Try (prog)

/-- A row of one's own, anywhere. -/
def RowAt {α : Type} (f : α → Value) (H : Heap) (k ver : Nat) (l : List α) : Prop := H[k]? = some (.row ⟨l.map f, 1, ver, true⟩)
section
variable {α : Type} {f : α → Value} {H : Heap} {k ver : Nat} {l : List α}
theorem RowAt.cell (h : RowAt f H k ver l) (i : Nat) : H.cell? k i ver = (l[i]?).map f := by simp [RowAt] at h; simp [Heap.cell?, Heap.row?, h]
theorem RowAt.lt (h : RowAt f H k ver l) : k < H.length := (List.getElem?_eq_some_iff.1 h).1
theorem RowAt.store (h : RowAt f H k ver l) {i : Nat} (hi : i < l.length) {x : α} (hx : cellsOf (f x) = some [f x]) :
    ∃ H', storeV H 1 (.pointer (some ⟨k, i, some ver⟩)) (f x) = some H' ∧ RowAt f H' k ver (l.set i x) ∧ (∀ j, j ≠ k → H'[j]? = H[j]?) ∧ H'.length = H.length := by
  have hlt := h.lt
  refine ⟨H.set k (.row ⟨(l.set i x).map f, 1, ver, true⟩), ?_, by simp [RowAt, hlt], fun j hj => by rw [List.getElem?_set_ne (Ne.symm hj)], by simp⟩
  simp only [RowAt] at h
  have hi' : i + 1 ≤ l.length := hi
  simp [storeV, hx, Heap.row?, h, hi', setAll]
end

def Same (H : Heap) (k : Nat) (H' : Heap) : Prop := (∀ j, j ≠ k → H'[j]? = H[j]?) ∧ H'.length = H.length
theorem Same.refl (H : Heap) (k : Nat) : Same H k H := ⟨fun _ _ => rfl, rfl⟩
theorem Same.trans {H H1 H2 : Heap} {k : Nat} (h : Same H k H1) (h' : Same H1 k H2) : Same H k H2 := ⟨fun j hj => by rw [h'.1 j hj, h.1 j hj], h'.2.trans h.2⟩

section
variable {h : Heap} {K : Value → Heap → Prop}
end
end Pm

/- Code: which places may be next, by the program and by the document's answer.
   No condition: plain lemmas. -/
namespace Pm
set_option linter.unusedSimpArgs false
set_option linter.unusedVariables false
open Go Am
open Go.Proofs.Try (prog)

def part (l : List (List Int)) (i : Nat) : List (Option (List Int)) := (l.take i).map some ++ List.replicate (l.length - i) none
section
variable {α : Type} {f : α → Value} {H : Heap} {k ver : Nat} {l : List α}
theorem RowAt.push (h : RowAt f H k ver l) (hl : l.length < lim) (x : α) : ∃ H2, pApp (Am.newRow H [f x] 1) 1 (.slice (some ⟨k, 0, none⟩) l.length ver) (.slice (some ⟨H.length, 0, none⟩) 1 0) = some (.slice (some ⟨k, 0, none⟩) (l.length + 1) (ver + 1), H2) ∧
    RowAt f H2 k (ver + 1) (l ++ [x]) ∧ (∀ j, j < H.length → j ≠ k → H2[j]? = H[j]?) ∧ H.length ≤ H2.length := by
  have hk := h.lt
  have hn : (Am.newRow H [f x] 1)[k]? = some (.row ⟨l.map f, 1, ver, true⟩) := by unfold Am.newRow; rw [List.getElem?_append_left hk]; exact h
  have he : pElems (Am.newRow H [f x] 1) 1 (.slice (some ⟨H.length, 0, none⟩) 1 0) = some (1, [f x]) := by simp [pElems_own, Heap.cells?, Heap.row?, Am.newRow]
  refine ⟨(Am.newRow H [f x] 1).set k (.row ⟨(l ++ [x]).map f, 1, ver + 1, true⟩), ?_, ?_, fun j h1 h2 => ?_, by simp [Am.newRow]⟩
  · simp only [pApp, he, pMore, Heap.row?, hn, if_true]
    rw [if_pos ⟨trivial, trivial, by simp, hl⟩]
    simp [List.take_of_length_le]
  · have : k < (Am.newRow H [f x] 1).length := by simp [Am.newRow]; omega
    simp [RowAt, this]
  · rw [List.getElem?_set_ne (Ne.symm h2)]; unfold Am.newRow; rw [List.getElem?_append_left h1]
theorem RowAt.keep {H' : Heap} (h : RowAt f H k ver l) (e : H'[k]? = H[k]?) : RowAt f H' k ver l := by unfold RowAt; rw [e]; exact h
theorem RowAt.inl {b : Nat} (h : RowAt f H k ver l) (hb : b ≤ k) (hc : ∀ x, closedC (f x) = true) {n : Nat} (hn : n = l.length) : Inl b H (.slice (some ⟨k, 0, none⟩) n ver) (vL f l) := by
  subst hn
  simp only [RowAt] at h
  exact .row (r := ⟨l.map f, 1, ver, true⟩) hb (by simp [Heap.row?, h]) (by simp) (by simp) fun j c c' h5 h6 => by
    simp only [Nat.zero_add] at h5
    rw [h5] at h6; cases h6
    obtain ⟨y, _, rfl⟩ := List.mem_map.1 (List.mem_of_getElem? h5)
    exact .cell (hc y)
/-- The first so many of a row, not written any more. -/
theorem RowAt.frz (h : RowAt f H k ver l) (hc : ∀ x, closedC (f x) = true) {n e : Nat} (hn : n ≤ l.length) : ∃ H', frzV H e (.slice (some ⟨k, 0, none⟩) n ver) = some (vL f (l.take n), H') ∧ Same H k H' := by
  have hk := h.lt
  have hs : seg (l.map f) 0 (n * 1) = (l.take n).map f := by simp [seg]
  refine ⟨H.set k (.row ⟨l.map f, 1, ver, false⟩), ?_, fun j hj => by rw [List.getElem?_set_ne (Ne.symm hj)], by simp⟩
  simp only [RowAt] at h
  have h2 : ((l.take n).map f).all closedC = true := closed_map hc _
  simp only [frzV, frzC, Heap.row?, h, if_true, hs, h2]
  rw [if_pos ⟨by simpa using hn, trivial⟩]
  simp only [vL, List.length_take]
  rw [Nat.min_eq_left hn]
end

section
variable {h : Heap} {K : Value → Heap → Prop}
end
end Pm
