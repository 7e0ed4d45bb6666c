/- Numbers that are known: what each small function of the chapter gives.
   No condition: plain lemmas. -/

import Derived.KernelRfl
import Derived.Test.YthpombmecbgchaaDoorZLPmBox
import Derived.Test.YthpombmecbgchaaDoorZLPm5
import Derived.Test.YthpombmecbgchaaDoorProg
import Derived.Test.YthpombmecbgchaaDoorZLPmIr2
namespace Pm
set_option linter.unusedSimpArgs false
set_option linter.unusedVariables false
open Go Am
open Go.Proofs.Tryd (prog)

structure Val where
  kind : Nat
  n : Int
deriving DecidableEq
def cV (v : Val) : List Value := [v8 v.kind, vI v.n]
instance : Flat cV 2 := ⟨fun _ => rfl⟩
structure V4 where
  a : Val
  b : Val
  c : Val
  d : Val
deriving DecidableEq
def c4 (x : V4) : List Value := [v8 x.a.kind, vI x.a.n, v8 x.b.kind, vI x.b.n, v8 x.c.kind, vI x.c.n, v8 x.d.kind, vI x.d.n]
instance : Flat c4 8 := ⟨fun _ => rfl⟩
def noV : Val := ⟨0, 0⟩
def oneV (n : Int) : Val := ⟨1, n⟩
def anyV : Val := ⟨2, 0⟩
def bareV (v : Val) : Val := if v.kind = 0 then noV else if v.kind = 1 then v else anyV
def meetV (a b : Val) : Val := if (bareV a).kind = 0 then bareV b else if (bareV b).kind = 0 ∨ bareV a = bareV b then bareV a else anyV
def V4.at (x : V4) (r : Int) : Val := if r = 0 then x.a else if r = 1 then x.b else if r = 2 then x.c else if r = 3 then x.d else noV
def getV (x : V4) (r : Int) : Val := bareV (x.at r)
def reckonV (op : Nat) (a b : Val) : Val :=
  if a.kind = 0 ∨ b.kind = 0 then noV else if a.kind = 2 ∨ b.kind = 2 then anyV
  else if op = 3 then oneV (IntKind.i64.wrap (a.n + b.n)) else if op = 4 then oneV (IntKind.i64.wrap (a.n - b.n)) else if op = 5 then oneV (IntKind.i64.wrap (a.n * b.n))
  else if a.n < b.n then oneV 1 else oneV 0
def meet4 (x y : V4) : V4 := ⟨meetV x.a y.a, meetV x.b y.b, meetV x.c y.c, meetV x.d y.d⟩

section
variable {h : Heap} {K : Value → Heap → Prop}
end
end Pm
/- Numbers that are known: what is known behind an instruction.
   No condition: plain lemmas. -/
namespace Pm
set_option linter.unusedSimpArgs false
set_option linter.unusedVariables false
open Go Am
open Go.Proofs.Tryd (prog)

def valOf (i : Ins) (l : V4) : Val :=
  if i.op = 1 then oneV i.b else if i.op = 2 then getV l i.b else if i.op = 3 ∨ i.op = 4 ∨ i.op = 5 ∨ i.op = 6 then reckonV i.op (getV l i.b) (getV l i.c) else anyV
def doR (i : Ins) (l : V4) (r : Int) : Val := if hasB (setsOf i) r = true then valOf i l else bareV (l.at r)
def doV (i : Ins) (l : V4) : V4 := ⟨doR i l 0, doR i l 1, doR i l 2, doR i l 3⟩
section
variable {h : Heap} {K : Value → Heap → Prop}
end
end Pm
/- Numbers that are known, by the document: what is known behind an instruction.
   No condition: plain lemmas. -/
namespace Pm
set_option linter.unusedSimpArgs false
set_option linter.unusedVariables false
open Go Am
open Go.Proofs.Tryd (prog)

section
variable {h : Heap} {K : Value → Heap → Prop}
def zero4 : V4 := ⟨noV, noV, noV, noV⟩
end
end Pm
