/- The pure machine: a function's own few boxes, as a short list behind the heap that it found: all by simp. Rounds of a known number.
   No condition: plain lemmas. -/
import Derived.Test.YtmdnkninbkcmkaaZHPmFlat
namespace Pm
set_option linter.unusedSimpArgs false
set_option linter.unusedVariables false
open Go Am

/-- A box. -/
def bx (cs : List Value) (e : Nat) : Ob := .row ⟨cs, e, 0, true⟩
def cellB (o : Option Ob) (off : Nat) : Option Value := match o with | some (.row r) => if r.ver = 0 then r.cells[off]? else none | _ => none
def cellsB (o : Option Ob) (off n : Nat) : Option (List Value) := match o with | some (.row r) => if r.ver = 0 then (if off + n ≤ r.cells.length then some ((r.cells.drop off).take n) else none) else none | _ => none
def storeB (o : Option Ob) (off n : Nat) (vs : List Value) : Option Ob := match o with | some (.row r) => if r.ver = 0 then (if r.rw = true ∧ vs.length = n ∧ off + vs.length ≤ r.cells.length then some (.row { r with cells := setAll r.cells off vs }) else none) else none | _ => none
section
variable {h : Heap} {rs : List Ob} {cs vs : List Value} {e off n j : Nat} {v : Value}
theorem new_box : Am.newRow h cs e = h ++ [bx cs e] := rfl
theorem app_box {r : Ob} : (h ++ rs) ++ [r] = h ++ (rs ++ [r]) := List.append_assoc ..
theorem len_box : (h ++ rs).length = h.length + rs.length := List.length_append
theorem cell_box : (h ++ rs).cell? (h.length + j) off 0 = cellB rs[j]? off := by
  simp only [Heap.cell?, Heap.row?, cellB, List.getElem?_append_right (Nat.le_add_right h.length j), Nat.add_sub_cancel_left]
  cases rs[j]? with
  | none => rfl
  | some o => cases o with
    | row r => by_cases hr : r.ver = 0 <;> simp [hr]
    | _ => rfl
theorem cell_box0 : (h ++ rs).cell? h.length off 0 = cellB rs[0]? off := cell_box (j := 0)
theorem cells_box : (h ++ rs).cells? (h.length + j) off 0 n = cellsB rs[j]? off n := by
  simp only [Heap.cells?, Heap.row?, cellsB, List.getElem?_append_right (Nat.le_add_right h.length j), Nat.add_sub_cancel_left]
  cases rs[j]? with
  | none => rfl
  | some o => cases o with
    | row r => by_cases hr : r.ver = 0 <;> simp [hr]
    | _ => rfl
theorem cells_box0 : (h ++ rs).cells? h.length off 0 n = cellsB rs[0]? off n := cells_box (j := 0)
theorem store_box : storeV (h ++ rs) n (.pointer (some ⟨h.length + j, off, some 0⟩)) v = match cellsOf v with | some vs => (storeB rs[j]? off n vs).map fun r => h ++ rs.set j r | none => none := by
  cases hv : cellsOf v with
  | none => simp [storeV, hv]
  | some vs =>
    simp only [storeV, hv, Heap.row?, storeB, List.getElem?_append_right (Nat.le_add_right h.length j), Nat.add_sub_cancel_left]
    cases hr : rs[j]? with
    | none => rfl
    | some o => cases o with
      | row r =>
        by_cases hr : r.ver = 0
        · simp only [hr, if_true]
          split
          · simp only [Option.map_some]
            rw [List.set_append_right _ _ (Nat.le_add_right _ _), Nat.add_sub_cancel_left]
          · rfl
        · simp only [hr, if_false, Option.map_none]
      | _ => rfl
theorem store_box0 : storeV (h ++ rs) n (.pointer (some ⟨h.length, off, some 0⟩)) v = match cellsOf v with | some vs => (storeB rs[0]? off n vs).map fun r => h ++ rs.set 0 r | none => none := store_box (j := 0)
theorem cellB_bx : cellB (some (bx cs e)) off = cs[off]? := by simp [cellB, bx]
theorem cellsB_bx : cellsB (some (bx cs e)) off n = if off + n ≤ cs.length then some ((cs.drop off).take n) else none := by simp [cellsB, bx]
theorem storeB_bx : storeB (some (bx cs e)) off n vs = if vs.length = n ∧ off + vs.length ≤ cs.length then some (bx (setAll cs off vs) e) else none := by simp [storeB, bx]
end
theorem box_all {h : Heap} {rs : List Ob} : ∃ g, h ++ rs = h ++ g := ⟨rs, rfl⟩
theorem cast_lit {x k : Nat} : ((x : Int) = (no_index (OfNat.ofNat k : Int))) ↔ x = (OfNat.ofNat k : Nat) := by
  show (x : Int) = ((k : Nat) : Int) ↔ x = k
  omega
theorem wrap_1 : IntKind.i64.wrap 1 = 1 := by decide +kernel
theorem wrap_2 : IntKind.i64.wrap 2 = 2 := by decide +kernel
theorem wrap_3 : IntKind.i64.wrap 3 = 3 := by decide +kernel
theorem wrap_4 : IntKind.i64.wrap 4 = 4 := by decide +kernel
end Pm
