/- The pure machine: rows of a function's own that grow and are cut, by their places behind the heap that it found.
   No condition: plain lemmas. -/
import Derived.Test.YtmdnkninbkcmkaaZFPmLoop
import Derived.Test.YtmdnkninbkcmkaaZFPmVal10
namespace Pm
set_option linter.unusedSimpArgs false
set_option linter.unusedVariables false
open Go Am

def rowO (o : Option Ob) (ver : Nat) : Option Row := match o with | some (.row r) => if r.ver = ver then some r else none | _ => none
section
variable {h : Heap} {rs : List Ob} {cs vs : List Value} {e off n j ver len : Nat} {v : Value} {α : Type} {f : α → Value} {l : List α}
theorem row_at : (h ++ rs).row? (h.length + j) ver = rowO rs[j]? ver := by
  simp only [Heap.row?, rowO, List.getElem?_append_right (Nat.le_add_right h.length j), Nat.add_sub_cancel_left]
  rfl
theorem rowO_bx : rowO (some (bx cs e)) 0 = some ⟨cs, e, 0, true⟩ := rfl
theorem cells_at : (h ++ rs).cells? (h.length + j) off ver n = (rowO rs[j]? ver).bind fun r => if off + n ≤ r.cells.length then some ((r.cells.drop off).take n) else none := by
  rw [Heap.cells?, row_at]
  cases rowO rs[j]? ver <;> rfl
theorem pElems_box {m : Nat} (hj : rs[m]? = some (bx cs e)) (hl : cs.length = n * e) : pElems (h ++ rs) e (.slice (some ⟨h.length + m, 0, none⟩) n 0) = some (n, cs) := by
  rw [pElems_own, cells_at, hj, rowO_bx]
  simp [← hl]
end
end Pm
