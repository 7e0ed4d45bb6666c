/- A problem that is laid, number by number: two lists that grow in a box.
   No condition: plain lemmas. -/

import Derived.KernelRfl
import Derived.Test.YtmdnkninbkcmkaaZVPmLive3
import Derived.Test.YtmdnkninbkcmkaaZVPm5
import Derived.Test.YtmdnkninbkcmkaaProg
namespace Pm
set_option linter.unusedSimpArgs false
set_option linter.unusedVariables false
open Go Am
open Go.Proofs.Try (prog)

structure Fields (b:Nat) (z:Value→Value→List Value) (H:Heap) (gv kv:Value) (gl kl:List Nat):Prop where
  row:RowV H b 0 6 (z gv kv)
  g:AccL vU (b+1) H gv gl
  k:AccL vU (b+1) H kv kl
  ap:qLq gv kv
theorem AccL.cell {α:Type} {f:α→Value} {b:Nat} {H:Heap} {v:Value} {l:List α} (ha:AccL f b H v l):cellsOf v=some [v]:=by
  rcases ha with ⟨e,_⟩ | ⟨id,ver,e,_⟩<;>rw [e]<;>rfl
theorem AccL.low {α:Type} {f:α→Value} {b:Nat} {H:Heap} {v:Value} {l:List α} (ha:AccL f b H v l):∀ i,rid v=some i→b≤i:=by
  intro i hi;rcases ha with ⟨e,_⟩ | ⟨id,ver,e,h,_⟩
  . rw [e] at hi; simp [rid] at hi
  . rw [e] at hi; simp [rid] at hi; omega
section
variable {P : Program} {K : Fr → Heap → Prop} {is : List AIns} {d : Option Nat} {fr : Fr} {H0 H : Heap} {b : Nat} {z : Value → Value → List Value} {gv kv lit : Value} {gl kl : List Nat} {rs : List Ob} {x : Nat}
theorem Fields.frz (F:Fields b z H gv kv gl kl) {p:Prob} (hz:z=fun gv kv=>[vL (vL vI) p.succs,gv,kv,vU p.start,vB p.must,vB p.back]) (hg:gl=p.gen) (hk:kl=p.kill) :
    ∃ gv' kv' H',frzV H 1 (.agg (z gv kv).toArray)=some (.agg (z gv' kv').toArray,H')∧qCx b H H'∧Cvs [.agg (z gv' kv').toArray] [vP p]:=by
  obtain ⟨gv',H1,f1,f2,f3,f4,f5⟩:=F.g.frzC fun _=>rfl
  have hk2:AccL vU (b+1) H1 kv kl:=F.k.keep fun i hi=>f5 i (fun e=>F.ap i e hi)
  obtain ⟨kv',H2,g1,g2,g3,g4,g5⟩:=hk2.frzC fun _=>rfl
  refine ⟨gv',kv',H2,?_,⟨by rw [g4,f4]; exact Nat.le_refl _,fun i hi=>by rw [g3.2 i (by omega),f3.2 i (by omega)]⟩,.cons ?_ .nil⟩
  . rw [hz]
    have q1:∀ H,frzC H (vL (vL vI) p.succs)=some (vL (vL vI) p.succs,H):=fun _=>rfl
    have q2:∀ H n,frzC H (.int .u64 n)=some (.int .u64 n,H):=fun _ _=>rfl
    have q3:∀ H b,frzC H (.bool b)=some (.bool b,H):=fun _ _=>rfl
    simp [frzV,qTn,q1,q2,q3,f1,g1]
  . rw [hz]
    refine .agg rfl fun i x y hx hy=>?_
    simp only [cP] at hy;have hi:i < 6:=by have:=(Array.getElem?_eq_some_iff.1 hx).1; simpa using this
    rw [← hg,← hk] at hy;have:i=0∨i=1∨i=2∨i=3∨i=4∨i=5:=by omega
    rcases this with rfl | rfl | rfl | rfl | rfl | rfl<;>simp at hx hy<;>subst hx<;>subst hy<;>first | exact f2 | exact g2 | exact .same _
end
end Pm

/- Code that is changed: small walks that several chapters share.
   No condition: plain lemmas. -/

namespace Pm
set_option linter.unusedSimpArgs false
set_option linter.unusedVariables false
open Go Am
open Go.Proofs.Try (prog)

section
variable {P : Program} {K : Fr → Heap → Prop} {is : List AIns} {d : Option Nat} {fr : Fr} {H0 H : Heap} {b : Nat} {lit : Value} {rs : List Ob}
end
section
variable {h : Heap} {K : Value → Heap → Prop}
end
def nopI:Ins:=⟨0,0,0,0⟩
def ownL (n:Nat):List Int:=(List.range n).map fun i:Nat=>(i:Int)
theorem ownL_len (n:Nat):(ownL n).length=n:=by simp [ownL]
theorem AccM.cell {α:Type} {F:α→List Value} {e b:Nat} {H:Heap} {v:Value} {l:List α} (ha:AccM e F b H v l):cellsOf v=some [v]:=by
  rcases ha with ⟨e,_⟩ | ⟨id,ver,e,_⟩<;>rw [e]<;>rfl
section
variable {h : Heap} {K : Value → Heap → Prop}
end
section
variable {h : Heap} {K : Value → Heap → Prop}
end
end Pm
