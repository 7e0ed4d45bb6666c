/- A problem that is laid, number by number: two lists that grow in a box.
   No condition: plain lemmas. -/

import Derived.KernelRfl
import Derived.Test.YtmdnkninbkcmkaaDoorZUPmLive2
import Derived.Test.YtmdnkninbkcmkaaDoorZUPm5
import Derived.Test.YtmdnkninbkcmkaaDoorProg
namespace Pm
set_option linter.unusedSimpArgs false
set_option linter.unusedVariables false
open Go Am
open Go.Proofs.Tryd (prog)

structure Fields (b:Nat) (z:Value→Value→List Value) (H:Heap) (gv kv:Value) (gl kl:List Nat):Prop where
  row:RowV H b 0 6 (z gv kv)
  g:AccL vU (b+1) H gv gl
  k:AccL vU (b+1) H kv kl
  ap:qMw gv kv
structure ZOk (z:Value→Value→List Value):Prop where
  s1:∀ gv kv v,(z gv kv).set 1 v=z v kv
  s2:∀ gv kv v,(z gv kv).set 2 v=z gv v
  len:∀ gv kv,(z gv kv).length=6
theorem AccL.cell {α:Type} {f:α→Value} {b:Nat} {H:Heap} {v:Value} {l:List α} (ha:AccL f b H v l):cellsOf v=some [v]:=by
  rcases ha with ⟨e,_⟩ | ⟨id,ver,e,_⟩<;>rw [e]<;>rfl
theorem AccL.low {α:Type} {f:α→Value} {b:Nat} {H:Heap} {v:Value} {l:List α} (ha:AccL f b H v l):∀ i,rid v=some i→b≤i:=by
  intro i hi;rcases ha with ⟨e,_⟩ | ⟨id,ver,e,h,_⟩
  . rw [e] at hi; simp [rid] at hi
  . rw [e] at hi; simp [rid] at hi; omega
section
variable {P : Program} {K : Fr → Heap → Prop} {is : List AIns} {d : Option Nat} {fr : Fr} {H0 H : Heap} {b : Nat} {z : Value → Value → List Value} {gv kv lit : Value} {gl kl : List Nat} {rs : List Ob} {x : Nat}
theorem Fields.push1 (F:Fields b z H gv kv gl kl) (hz:ZOk z) (hp:qDt (H++rs) 1 lit=some (1,[vU x])) (hl:gl.length+1≤lim)
    (hk:∀ v1 H1 H2,qBz H1 1 (.pointer (some ⟨b,1,some 0⟩)) v1=some H2→Fields b z H2 v1 kv (gl++[x]) kl→(∀ j o,rs[j]?=some o→H2[H.length+j]?=some o)→H.length+rs.length≤H2.length→qCq b H H2→pOps P K is (updO fr d v1) H1) :
    eK P K is d [] fr H0 (pApp (H++rs) 1 gv lit):=by
  have hb:=F.row.lt;refine AccL.apps (F.g.ext qCq.app) (by simp; omega) (m:=[x]) hp (by simpa using hl) fun v1 H1 a1 a2 a3 a4=>?_
  have hgl:∀ i,rid gv=some i→i < H.length:=fun i hi=>F.g.lt hi
  have hkl:∀ i,rid kv=some i→i < H.length:=fun i hi=>F.k.lt hi
  have hr1:RowV H1 b 0 6 (z gv kv):=F.row.keep (by rw [a2.2 _ (by omega),List.getElem?_append_left hb])
  have hH1:H.length+rs.length≤H1.length:=by have:=a2.1; simpa using this
  have hk1:AccL vU (b+1) H1 kv kl:=F.k.keep fun i hi=>by
    rw [a3 i (by simp; have:=hkl i hi; omega) (fun e=>F.ap i e hi),List.getElem?_append_left (hkl i hi)]
  obtain ⟨H2,t1,t2,t3⟩:=hr1.set (j:=1) (by rw [hz.len]; omega) a1.cell
  rw [hz.s1] at t2;refine hk v1 H1 H2 t1 ⟨t2,a1.keep fun i hi=>t3.1 i (fun e=>by have:=a1.low i hi; omega),hk1.keep fun i hi=>t3.1 i (fun e=>by have:=F.k.low i hi; omega),fun i hi hk2=>(a4 i hi).elim (fun e=>F.ap i e hk2) (fun e=>by have:=hkl i hk2; simp at e; omega)⟩ (fun j o ho=>?_) (by rw [t3.2]; exact hH1) ⟨by rw [t3.2]; omega,fun i hi=>?_⟩
  . have hj:=(List.getElem?_eq_some_iff.1 ho).1
    rw [t3.1 _ (by omega),a3 _ (by simp; omega) (fun e=>by have:=hgl _ e; omega),List.getElem?_append_right (by omega),Nat.add_sub_cancel_left,ho]
  . rw [t3.1 i (by omega),a2.2 i (by omega),List.getElem?_append_left (by omega)]
theorem Fields.push2 (F:Fields b z H gv kv gl kl) (hz:ZOk z) (hp:qDt (H++rs) 1 lit=some (1,[vU x])) (hl:kl.length+1≤lim)
    (hk:∀ v1 H1 H2,qBz H1 1 (.pointer (some ⟨b,2,some 0⟩)) v1=some H2→Fields b z H2 gv v1 gl (kl++[x])→(∀ j o,rs[j]?=some o→H2[H.length+j]?=some o)→H.length+rs.length≤H2.length→qCq b H H2→pOps P K is (updO fr d v1) H1) :
    eK P K is d [] fr H0 (pApp (H++rs) 1 kv lit):=by
  have hb:=F.row.lt;refine AccL.apps (F.k.ext qCq.app) (by simp; omega) (m:=[x]) hp (by simpa using hl) fun v1 H1 a1 a2 a3 a4=>?_
  have hgl:∀ i,rid gv=some i→i < H.length:=fun i hi=>F.g.lt hi
  have hkl:∀ i,rid kv=some i→i < H.length:=fun i hi=>F.k.lt hi
  have hr1:RowV H1 b 0 6 (z gv kv):=F.row.keep (by rw [a2.2 _ (by omega),List.getElem?_append_left hb])
  have hH1:H.length+rs.length≤H1.length:=by have:=a2.1; simpa using this
  have hk1:AccL vU (b+1) H1 gv gl:=F.g.keep fun i hi=>by
    rw [a3 i (by simp; have:=hgl i hi; omega) (fun e=>F.ap i hi e),List.getElem?_append_left (hgl i hi)]
  obtain ⟨H2,t1,t2,t3⟩:=hr1.set (j:=2) (by rw [hz.len]; omega) a1.cell
  rw [hz.s2] at t2;refine hk v1 H1 H2 t1 ⟨t2,hk1.keep fun i hi=>t3.1 i (fun e=>by have:=F.g.low i hi; omega),a1.keep fun i hi=>t3.1 i (fun e=>by have:=a1.low i hi; omega),fun i hi hk2=>(a4 i hk2).elim (fun e=>F.ap i hi e) (fun e=>by have:=hgl i hi; simp at e; omega)⟩ (fun j o ho=>?_) (by rw [t3.2]; exact hH1) ⟨by rw [t3.2]; omega,fun i hi=>?_⟩
  . have hj:=(List.getElem?_eq_some_iff.1 ho).1
    rw [t3.1 _ (by omega),a3 _ (by simp; omega) (fun e=>by have:=hkl _ e; omega),List.getElem?_append_right (by omega),Nat.add_sub_cancel_left,ho]
  . rw [t3.1 i (by omega),a2.2 i (by omega),List.getElem?_append_left (by omega)]
theorem Fields.frz (F:Fields b z H gv kv gl kl) {p:Prob} (hz:z=fun gv kv=>[vL (vL vI) p.succs,gv,kv,vU p.start,vB p.must,vB p.back]) (hg:gl=p.gen) (hk:kl=p.kill) :
    ∃ gv' kv' H',frzV H 1 (.agg (z gv kv).toArray)=some (.agg (z gv' kv').toArray,H')∧qCq b H H'∧Cvs [.agg (z gv' kv').toArray] [vP p]:=by
  obtain ⟨gv',H1,f1,f2,f3,f4,f5⟩:=F.g.frzC fun _=>rfl
  have hk2:AccL vU (b+1) H1 kv kl:=F.k.keep fun i hi=>f5 i (fun e=>F.ap i e hi)
  obtain ⟨kv',H2,g1,g2,g3,g4,g5⟩:=hk2.frzC fun _=>rfl
  refine ⟨gv',kv',H2,?_,⟨by rw [g4,f4]; exact Nat.le_refl _,fun i hi=>by rw [g3.2 i (by omega),f3.2 i (by omega)]⟩,.cons ?_ .nil⟩
  . rw [hz]
    have q1:∀ H,frzC H (vL (vL vI) p.succs)=some (vL (vL vI) p.succs,H):=fun _=>rfl
    have q2:∀ H n,frzC H (.int .u64 n)=some (.int .u64 n,H):=fun _ _=>rfl
    have q3:∀ H b,frzC H (.bool b)=some (.bool b,H):=fun _ _=>rfl
    simp [frzV,qYb,q1,q2,q3,f1,g1]
  . rw [hz]
    refine .agg rfl fun i x y hx hy=>?_
    simp only [cP] at hy;have hi:i < 6:=by have:=(Array.getElem?_eq_some_iff.1 hx).1; simpa using this
    rw [← hg,← hk] at hy;have:i=0∨i=1∨i=2∨i=3∨i=4∨i=5:=by omega
    rcases this with rfl | rfl | rfl | rfl | rfl | rfl<;>simp at hx hy<;>subst hx<;>subst hy<;>first | exact f2 | exact g2 | exact .same _
end
end Pm

/- Code that is changed: small walks that several chapters share.
   No condition: plain lemmas. -/

namespace Pm
set_option linter.unusedSimpArgs false
set_option linter.unusedVariables false
open Go Am
open Go.Proofs.Tryd (prog)

section
variable {P : Program} {K : Fr → Heap → Prop} {is : List AIns} {d : Option Nat} {fr : Fr} {H0 H : Heap} {b : Nat} {lit : Value} {rs : List Ob}
theorem box_push {α:Type} {f:α→Value} {m j:Nat} {Z:List Value} {v:Value} {l:List α} {x:α} (hr:RowV H b 0 m Z) (ha:AccL f (b+1) H v l) (hj:j < Z.length) (hp:qDt (H++rs) 1 lit=some (1,[f x])) (hl:l.length+1≤lim)
    (hk:∀ v1 H1 H2,qBz H1 1 (.pointer (some ⟨b,j,some 0⟩)) v1=some H2→RowV H2 b 0 m (Z.set j v1)→AccL f (b+1) H2 v1 (l++[x])→(∀ j o,rs[j]?=some o→H2[H.length+j]?=some o)→H.length+rs.length≤H2.length→qCq b H H2→pOps P K is (updO fr d v1) H1) :
    eK P K is d [] fr H0 (pApp (H++rs) 1 v lit):=by
  have hb:=hr.lt;refine AccL.apps (ha.ext qCq.app) (by simp; omega) (m:=[x]) hp (by simpa using hl) fun v1 H1 a1 a2 a3 a4=>?_
  have hgl:∀ i,rid v=some i→i < H.length:=fun i hi=>ha.lt hi
  have hr1:RowV H1 b 0 m Z:=hr.keep (by rw [a2.2 _ (by omega),List.getElem?_append_left hb])
  have hH1:H.length+rs.length≤H1.length:=by have:=a2.1; simpa using this
  obtain ⟨H2,t1,t2,t3⟩:=hr1.set hj a1.cell;refine hk v1 H1 H2 t1 t2 (a1.keep fun i hi=>t3.1 i (fun e=>by have:=a1.low i hi; omega)) (fun j o ho=>?_) (by rw [t3.2]; exact hH1) ⟨by rw [t3.2]; omega,fun i hi=>?_⟩
  . have hj:=(List.getElem?_eq_some_iff.1 ho).1
    rw [t3.1 _ (by omega),a3 _ (by simp; omega) (fun e=>by have:=hgl _ e; omega),List.getElem?_append_right (by omega),Nat.add_sub_cancel_left,ho]
  . rw [t3.1 i (by omega),a2.2 i (by omega),List.getElem?_append_left (by omega)]
end
section
variable {h : Heap} {K : Value → Heap → Prop}
theorem Clone4_call {l:List Ins} (hl:l.length≤lim) (k0:l=[]→K nilS h) (k1:K (.slice (some ⟨h.length,0,none⟩) l.length 1) (h++[.row ⟨l.flatMap vIns,4,1,true⟩])):qBn prog 21 [vM 4 vIns l] h K:=by
  refine call_Clone4 (by simp) ?_
  simp [qAl,qAo,qAm,qAi,qAf,qAe,qAb,qAc,qAa,qAj,qAg,qAd,qAu,qAv,resV,retV,qAn,qAh,qAs,qAr,qAq,qAp,qUp];refine pOps_nilT (by simp) fun b hb=>?_
  cases b with
  | true =>
    have e:l=[]:=by simpa using hb
    subst e;simp [qAl,qAo,qAm,qAi,qAf,qAe,qAb,qAc,qAa,qAj,qAg,qAd,qAu,qAv,resV,retV,qAn,qAh,qAs,qAr,qAq,qAp];exact k0 rfl
  | false =>
    simp [qAl,qAo,qAm,qAi,qAf,qAe,qAb,qAc,qAa,qAj,qAg,qAd,qAu,qAv,resV,retV,qAn,qAh,qAs,qAr,qAq,qAp];rw [show (h:Heap).length=h.length+0 from rfl,qVr (e:=4) (r:=⟨[],4,0,true⟩) (n:=l.length) (new:=l.flatMap vIns) rfl (by simp) rfl rfl (by simp) (by omega)]
    simp [qAl,qAo,qAm,qAi,qAf,qAe,qAb,qAc,qAa,qAj,qAg,qAd,qAu,qAv,resV,retV,qAn,qAh,qAs,qAr,qAq,qAp];exact k1
end
def nopI:Ins:=⟨0,0,0,0⟩
def ownL (n:Nat):List Int:=(List.range n).map fun i:Nat=>(i:Int)
theorem ownL_succ (n:Nat):ownL (n+1)=ownL n++[(n:Int)]:=by simp [ownL,List.range_succ]
theorem ownL_len (n:Nat):(ownL n).length=n:=by simp [ownL]
def qYv (out:List Ins) (fm:List Int):Value:=.agg #[vM 4 vIns out,vL vI fm]
theorem AccM.cell {α:Type} {F:α→List Value} {e b:Nat} {H:Heap} {v:Value} {l:List α} (ha:AccM e F b H v l):cellsOf v=some [v]:=by
  rcases ha with ⟨e,_⟩ | ⟨id,ver,e,_⟩<;>rw [e]<;>rfl
def Strt (code:List Ins):Prop:=∀ c∈code,c.op≠10∧c.op≠11
theorem nextsOf_plain {i:Nat} {c:Ins} (h:c.op≠10∧c.op≠11):qDu i c=[((i+1:Nat):Int)]:=by
  unfold qDu;rw [if_neg h.1,if_neg h.2]
  rfl
section
variable {h : Heap} {K : Value → Heap → Prop}
end
section
variable {h : Heap} {K : Value → Heap → Prop}
end
end Pm
