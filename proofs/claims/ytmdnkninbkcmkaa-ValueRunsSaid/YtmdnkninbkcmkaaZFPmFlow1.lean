/- What holds where: the small functions, walked.
   No condition: plain lemmas. -/

import Derived.KernelRfl
import Derived.Test.YtmdnkninbkcmkaaZFPmFlowP
import Derived.Test.YtmdnkninbkcmkaaZFPm5
import Derived.Test.YtmdnkninbkcmkaaProg
import Derived.Test.YtmdnkninbkcmkaaZFPmRow
namespace Pm
set_option linter.unusedSimpArgs false
set_option linter.unusedVariables false
open Go Am
open Go.Proofs.Try (prog)

section
variable {h : Heap} {K : Value → Heap → Prop}
end
end Pm
/- What holds where: rows of numbers, copied, and with some left out.
   No condition: plain lemmas. -/
namespace Pm
set_option linter.unusedSimpArgs false
set_option linter.unusedVariables false
open Go Am
open Go.Proofs.Try (prog)

section
variable {h : Heap} {K : Value → Heap → Prop}
end
end Pm
/- What holds where: a row of numbers, with some left out.
   No condition: plain lemmas. -/
namespace Pm
set_option linter.unusedSimpArgs false
set_option linter.unusedVariables false
open Go Am
open Go.Proofs.Try (prog)

/-- What is left of a list, in front of the rest of it. -/
structure Left (g : Int → Bool) (l l' : List Int) (i j : Nat) : Prop where
  ij : i ≤ j
  jn : j ≤ l.length
  len : l'.length = l.length
  tk : l'.take i = (l.take j).filter fun x => !g x
  dr : ∀ k, j ≤ k → l'[k]? = l[k]?
section
variable {h : Heap} {K : Value → Heap → Prop} {g : Int → Bool} {l l' : List Int} {i j : Nat}
theorem Left.start {k : Nat} (hk : l.findIdx? g = some k) : Left g l l k (k + 1) := by
  obtain ⟨h1, h2, h3⟩ := List.findIdx?_eq_some_iff_getElem.1 hk
  refine ⟨by omega, by omega, rfl, ?_, fun _ _ => rfl⟩
  rw [← List.take_append_getElem h1, List.filter_append]
  have e1 : (l.take k).filter (fun x => !g x) = l.take k := by
    rw [List.filter_eq_self]
    intro x hx
    obtain ⟨a, ha, hb⟩ := List.mem_take_iff_getElem.1 hx
    have := h3 a (by omega)
    rw [hb] at this
    simpa using this
  rw [e1]
  simp [h2]
theorem Left.skip (v : Left g l l' i j) {x : Int} (hx : l[j]? = some x) (hg : g x = true) : Left g l l' i (j + 1) := by
  obtain ⟨h1, h2⟩ := List.getElem?_eq_some_iff.1 hx
  refine ⟨by have := v.ij; omega, by omega, v.len, ?_, fun k hk => v.dr k (by omega)⟩
  rw [v.tk, ← List.take_append_getElem h1, List.filter_append, h2]
  simp [hg]
theorem Left.keep (v : Left g l l' i j) {x : Int} (hx : l[j]? = some x) (hg : g x = false) : Left g l (l'.set i x) (i + 1) (j + 1) := by
  obtain ⟨h1, h2⟩ := List.getElem?_eq_some_iff.1 hx
  have hij := v.ij
  have hl := v.len
  refine ⟨by omega, by omega, by simp [hl], ?_, fun k hk => ?_⟩
  · rw [← List.take_append_getElem h1, List.filter_append, h2, ← v.tk, ← List.take_append_getElem (by simp; omega), List.take_set, List.getElem_set_self]
    rw [List.set_eq_of_length_le (by simp; omega)]
    simp [hg]
  · rw [List.getElem?_set, if_neg (by omega)]; exact v.dr k (by omega)
theorem Left.le (v : Left g l l' i j) : i ≤ l.length := Nat.le_trans v.ij v.jn
end
end Pm
/- What holds where: next places that are places.
   No condition: plain lemmas. -/
namespace Pm
set_option linter.unusedSimpArgs false
set_option linter.unusedVariables false
open Go Am
open Go.Proofs.Try (prog)

theorem AccL.more {α : Type} {f : α → Value} {b b' : Nat} {h : Heap} {v : Value} {l : List α} (ha : AccL f b' h v l) (hb : b ≤ b') : AccL f b h v l := by
  rcases ha with h1 | ⟨id, ver, h1, h2, h3, h4⟩
  · exact Or.inl h1
  · exact Or.inr ⟨id, ver, h1, Nat.le_trans hb h2, h3, h4⟩
section
variable {h : Heap} {K : Value → Heap → Prop}
end
end Pm
/- What holds where: the solver's small methods.
   No condition: plain lemmas. -/
namespace Pm
set_option linter.unusedSimpArgs false
set_option linter.unusedVariables false
open Go Am
open Go.Proofs.Try (prog)

abbrev ptr (b : Nat) : Value := .pointer (some ⟨b, 0, some 0⟩)
section
variable {h : Heap} {K : Value → Heap → Prop} {p : Prob} {b : Nat}
end

/-! ### The solver's rows -/
def svC (b : Nat) (p : Prob) (qv : Value) : List Value :=
  [vL (vL vI) p.succs, vL vU p.gen, vL vU p.kill, vU p.start, vB p.must, vB p.back, vL (vL vI) p.froms, vL (vL vI) p.tos, .slice (some ⟨b + 1, 0, none⟩) p.n 0, .slice (some ⟨b + 2, 0, none⟩) p.n 0, qv, .slice (some ⟨b + 3, 0, none⟩) p.n 0]
def svL (b : Nat) (p : Prob) (a : Ob) (inn out : List Nat) (w : List Bool) (qv : Value) (rest : List Ob) : List Ob :=
  a :: bxL vU inn :: bxL vU out :: bxL vB w :: bx (svC b p qv) 12 :: rest
/-- The work list, as it stands in memory. -/
inductive QV (b : Nat) (rest : List Ob) : Value → List Nat → Prop
  | nil : QV b rest nilS []
  | row {k ver : Nat} {pre : List Value} {q : List Nat} (hk : rest[k]? = some (bxQ (pre ++ q.map fun i : Nat => vI i) ver)) : QV b rest (.slice (some ⟨b + (k + 5), pre.length, none⟩) q.length ver) q
section
variable {h : Heap} {K : Value → Heap → Prop} {p : Prob} {a : Ob} {inn out q : List Nat} {w : List Bool} {qv : Value} {rest : List Ob}
theorem QV.more (v : QV h.length rest qv q) (L : List Ob) : QV h.length (rest ++ L) qv q := by
  cases v with
  | nil => exact .nil
  | row hk => exact .row (by rw [List.getElem?_append_left (List.getElem?_eq_some_iff.1 hk).1]; exact hk)
end
end Pm
/- What holds where: a place is looked at.
   No condition: plain lemmas. -/
namespace Pm
set_option linter.unusedSimpArgs false
set_option linter.unusedVariables false
open Go Am
open Go.Proofs.Try (prog)

section
variable {h : Heap} {K : Value → Heap → Prop} {p : Prob} {a : Ob} {inn out q : List Nat} {w : List Bool} {qv : Value} {rest : List Ob}
theorem cell_in {off : Nat} : (h ++ svL h.length p a inn out w qv rest).cell? (h.length + 1) off 0 = (inn[off]?).map vU := by
  rw [cell_box]; simp [svL, cellB_bxL]
end
end Pm
/- What holds where: the problem is solved.
   No condition: plain lemmas. -/
namespace Pm
set_option linter.unusedSimpArgs false
set_option linter.unusedVariables false
open Go Am
open Go.Proofs.Try (prog)

/-- A problem as it is handed in. -/
def cP (p : Prob) : List Value := [vL (vL vI) p.succs, vL vU p.gen, vL vU p.kill, vU p.start, vB p.must, vB p.back]
def vP (p : Prob) : Value := .agg (cP p).toArray
def fill {α : Type} (k n : Nat) (x y : α) : List α := List.replicate k x ++ List.replicate (n - k) y
section
variable {h : Heap} {K : Value → Heap → Prop} {p : Prob} {a : Ob} {inn out q : List Nat} {w : List Bool} {qv : Value} {rest : List Ob}
end
end Pm
