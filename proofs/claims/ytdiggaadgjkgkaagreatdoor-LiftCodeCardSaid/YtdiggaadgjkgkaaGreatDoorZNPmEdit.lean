/- A problem that is laid, number by number: two lists that grow in a box.
   No condition: plain lemmas. -/

import Derived.Test.YtdiggaadgjkgkaaGreatDoorZNPmLive2
import Derived.Test.YtdiggaadgjkgkaaGreatDoorZNPmCfgC
namespace Pm
set_option linter.unusedSimpArgs false
set_option linter.unusedVariables false
open Go Am
open Go.Proofs.Tryz (prog)

structure Fields (b:Nat) (z:Value→Value→List Value) (H:Heap) (gv kv:Value) (gl kl:List Nat):Prop where
  row:RowV H b 0 6 (z gv kv)
  g:AccL vU (b+1) H gv gl
  k:AccL vU (b+1) H kv kl
  ap:qOd gv kv
theorem AccL.cell {α:Type} {f:α→Value} {b:Nat} {H:Heap} {v:Value} {l:List α} (ha:AccL f b H v l):cellsOf v=some [v]:=by
  rcases ha with ⟨e,_⟩ | ⟨id,ver,e,_⟩<;>rw [e]<;>rfl
theorem AccL.low {α:Type} {f:α→Value} {b:Nat} {H:Heap} {v:Value} {l:List α} (ha:AccL f b H v l):∀ i,rid v=some i→b≤i:=by
  intro i hi;rcases ha with ⟨e,_⟩ | ⟨id,ver,e,h,_⟩
  . rw [e] at hi; simp [rid] at hi
  . rw [e] at hi; simp [rid] at hi; omega
section
variable {P : Program} {K : Fr → Heap → Prop} {is : List AIns} {d : Option Nat} {fr : Fr} {H0 H : Heap} {b : Nat} {z : Value → Value → List Value} {gv kv lit : Value} {gl kl : List Nat} {rs : List Ob} {x : Nat}
theorem Fields.frz (F:Fields b z H gv kv gl kl) {p:Prob} (hz:z=fun gv kv=>[vL (vL vI) p.succs,gv,kv,vU p.start,vB p.must,vB p.back]) (hg:gl=p.gen) (hk:kl=p.kill) :
    ∃ gv' kv' H',frzV H 1 (.agg (z gv kv).toArray)=some (.agg (z gv' kv').toArray,H')∧qBs b H H'∧Cvs [.agg (z gv' kv').toArray] [vP p]:=by
  obtain ⟨gv',H1,f1,f2,f3,f4,f5⟩:=F.g.frzC fun _=>rfl
  have hk2:AccL vU (b+1) H1 kv kl:=F.k.keep fun i hi=>f5 i (fun e=>F.ap i e hi)
  obtain ⟨kv',H2,g1,g2,g3,g4,g5⟩:=hk2.frzC fun _=>rfl
  refine ⟨gv',kv',H2,?_,⟨by rw [g4,f4]; exact Nat.le_refl _,fun i hi=>by rw [g3.2 i (by omega),f3.2 i (by omega)]⟩,.cons ?_ .nil⟩
  . rw [hz]
    have q1:∀ H,frzC H (vL (vL vI) p.succs)=some (vL (vL vI) p.succs,H):=fun _=>rfl
    have q2:∀ H n,frzC H (.int .u64 n)=some (.int .u64 n,H):=fun _ _=>rfl
    have q3:∀ H b,frzC H (.bool b)=some (.bool b,H):=fun _ _=>rfl
    simp [frzV,qTb,q1,q2,q3,f1,g1]
  . rw [hz]
    refine .agg rfl fun i x y hx hy=>?_
    simp only [cP] at hy;have hi:i < 6:=by have:=(Array.getElem?_eq_some_iff.1 hx).1; simpa using this
    rw [← hg,← hk] at hy;have:i=0∨i=1∨i=2∨i=3∨i=4∨i=5:=by omega
    rcases this with rfl | rfl | rfl | rfl | rfl | rfl<;>simp at hx hy<;>subst hx<;>subst hy<;>first | exact f2 | exact g2 | exact .same _
end
end Pm

/- Code that is changed: small walks that several chapters share.
   No condition: plain lemmas. -/

namespace Pm
set_option linter.unusedSimpArgs false
set_option linter.unusedVariables false
open Go Am
open Go.Proofs.Tryz (prog)

section
variable {P : Program} {K : Fr → Heap → Prop} {is : List AIns} {d : Option Nat} {fr : Fr} {H0 H : Heap} {b : Nat} {lit : Value} {rs : List Ob}
theorem box_push {α:Type} {f:α→Value} {m j:Nat} {Z:List Value} {v:Value} {l:List α} {x:α} (hr:RowV H b 0 m Z) (ha:AccL f (b+1) H v l) (hj:j < Z.length) (hp:qCv (H++rs) 1 lit=some (1,[f x])) (hl:l.length+1≤lim)
    (hk:∀ v1 H1 H2,qBu H1 1 (.pointer (some ⟨b,j,some 0⟩)) v1=some H2→RowV H2 b 0 m (Z.set j v1)→AccL f (b+1) H2 v1 (l++[x])→(∀ j o,rs[j]?=some o→H2[H.length+j]?=some o)→H.length+rs.length≤H2.length→qBs b H H2→pOps P K is (updO fr d v1) H1) :
    eK P K is d [] fr H0 (pApp (H++rs) 1 v lit):=by
  have hb:=hr.lt;refine AccL.apps (ha.ext qBs.app) (by simp; omega) (m:=[x]) hp (by simpa using hl) fun v1 H1 a1 a2 a3 a4=>?_
  have hgl:∀ i,rid v=some i→i < H.length:=fun i hi=>ha.lt hi
  have hr1:RowV H1 b 0 m Z:=hr.keep (by rw [a2.2 _ (by omega),List.getElem?_append_left hb])
  have hH1:H.length+rs.length≤H1.length:=by have:=a2.1; simpa using this
  obtain ⟨H2,t1,t2,t3⟩:=hr1.set hj a1.cell;refine hk v1 H1 H2 t1 t2 (a1.keep fun i hi=>t3.1 i (fun e=>by have:=a1.low i hi; omega)) (fun j o ho=>?_) (by rw [t3.2]; exact hH1) ⟨by rw [t3.2]; omega,fun i hi=>?_⟩
  . have hj:=(List.getElem?_eq_some_iff.1 ho).1
    rw [t3.1 _ (by omega),a3 _ (by simp; omega) (fun e=>by have:=hgl _ e; omega),List.getElem?_append_right (by omega),Nat.add_sub_cancel_left,ho]
  . rw [t3.1 i (by omega),a2.2 i (by omega),List.getElem?_append_left (by omega)]
end
section
variable {h : Heap} {K : Value → Heap → Prop}
theorem Clone4_call {l:List Ins} (hl:l.length≤lim) (k0:l=[]→K nilS h) (k1:K (.slice (some ⟨h.length,0,none⟩) l.length 1) (h++[.row ⟨l.flatMap vIns,4,1,true⟩])):qBl prog 58 [vM 4 vIns l] h K:=by
  refine call_Clone4 (by simp) ?_
  simp [qAk,qAn,qAl,qAh,qAg,qAe,qAb,qAd,qAa,qAi,qAf,qAc,qAs,qAu,resV,retV,qAm,qAj,qAr,qAq,qAp,qAo,qQk];refine pOps_nilT (by simp) fun b hb=>?_
  cases b with
  | true =>
    have e:l=[]:=by simpa using hb
    subst e;simp [qAk,qAn,qAl,qAh,qAg,qAe,qAb,qAd,qAa,qAi,qAf,qAc,qAs,qAu,resV,retV,qAm,qAj,qAr,qAq,qAp,qAo];exact k0 rfl
  | false =>
    simp [qAk,qAn,qAl,qAh,qAg,qAe,qAb,qAd,qAa,qAi,qAf,qAc,qAs,qAu,resV,retV,qAm,qAj,qAr,qAq,qAp,qAo];rw [show (h:Heap).length=h.length+0 from rfl,push_at (e:=4) (r:=⟨[],4,0,true⟩) (n:=l.length) (new:=l.flatMap vIns) rfl (by simp) rfl rfl (by simp) (by omega)]
    simp [qAk,qAn,qAl,qAh,qAg,qAe,qAb,qAd,qAa,qAi,qAf,qAc,qAs,qAu,resV,retV,qAm,qAj,qAr,qAq,qAp,qAo];exact k1
end
def nopI:Ins:=⟨0,0,0,0⟩
def ownL (n:Nat):List Int:=(List.range n).map fun i:Nat=>(i:Int)
theorem ownL_succ (n:Nat):ownL (n+1)=ownL n++[(n:Int)]:=by simp [ownL,List.range_succ]
theorem qEo (n:Nat):(ownL n).length=n:=by simp [ownL]
def qMg (out:List Ins) (fm:List Int):Value:=.agg #[vM 4 vIns out,vL vI fm]
theorem ownL_at {n i:Nat} (h:i < n):(ownL n)[i]?=some (i:Int):=by simp [ownL,h]
theorem qEx {h:Heap} {L:List Ob} {m:Nat} {cs:List Value} (hj:L[m]?=some (bx cs 4)) (hl:cs.length=4):qCv (h++L) 4 (.slice (some ⟨h.length+m,0,none⟩) 1 0)=some (1,cs):=by
  rw [qAz,qPm,hj,qRe];simp [hl,List.take_of_length_le]
theorem AccM.cell {α:Type} {F:α→List Value} {e b:Nat} {H:Heap} {v:Value} {l:List α} (ha:AccM e F b H v l):cellsOf v=some [v]:=by
  rcases ha with ⟨e,_⟩ | ⟨id,ver,e,_⟩<;>rw [e]<;>rfl
theorem cells_nop:cellsOf (.agg #[.int .u8 0,.int .i64 0,.int .i64 0,.int .i64 0])=some (vIns nopI):=rfl
theorem nextsOf_plain {i:Nat} {c:Ins} (h:c.op≠10∧c.op≠11):qCu i c=[((i+1:Nat):Int)]:=by
  unfold qCu;rw [if_neg h.1,if_neg h.2]
  rfl
theorem eqAV_I {x y:Ins} {g:Bool}:eqAV [0,0,0,0] g (.agg (vIns x).toArray) (.agg (vIns y).toArray)=some (.bool (if g then !decide (x=y) else decide (x=y))):=by
  have e:(x=y)↔(x.op:Int)=y.op∧x.a=y.a∧x.b=y.b∧x.c=y.c:=by
    constructor
    . rintro rfl; simp
    . rintro ⟨h1,h2,h3,h4⟩
      obtain ⟨_,_,_,_⟩:=x;obtain ⟨_,_,_,_⟩:=y;simp only at h1 h2 h3 h4;subst h2 h3 h4;simp only [Ins.mk.injEq,and_true];omega
  have k:eqCs [0,0,0,0] (vIns x) (vIns y)=some (decide (x=y)):=by
    simp only [vIns,eqCs_int,eqCs_nil,e]
    by_cases h1:(x.op:Int)=y.op<;>by_cases h2:x.a=y.a<;>by_cases h3:x.b=y.b<;>by_cases h4:x.c=y.c<;>simp only [h1,h2,h3,h4,if_true,if_false,and_true,true_and,and_false,false_and,decide_true,decide_false]
  rw [qPi,k]
  rfl
section
variable {h : Heap} {K : Value → Heap → Prop}
theorem r16Own_call {n:Nat} (hn:n≤lim) (hk:K (vL vI (ownL n)) h):qBl prog 35 [vI n] h K:=by
  refine Pure.go (Pure.of fun h=>?_) hk
  refine call_r16Own (by simp) ?_
  simp [-qAt,qAk,qAn,qAl,qAh,qAg,qAe,qAb,qAd,qAa,qAi,qAf,qAc,qAs,qAu,resV,retV,qAm,qAj,qAr,qAq,qAp,qAo,qPq];rw [qAt];simp [-qAt,qAk,qAn,qAl,qAh,qAg,qAe,qAb,qAd,qAa,qAi,qAf,qAc,qAs,qAu,resV,retV,qAm,qAj,qAr,qAq,qAp,qAo];refine qDh (σ:=Nat×Value×Heap) (fun x=>[(0,vI n),(3,x.2.1),(4,vI x.1)]) (fun x=>x.2.2) (fun x=>x.1≤n∧AccL vI h.length x.2.2 x.2.1 (ownL x.1)∧qBs h.length h x.2.2) (fun x=>n - x.1) (0,nilS,h) (by simp) rfl ⟨by simp,.nil,.refl _ _⟩ ?_
  rintro ⟨k,v,H⟩ fr ⟨hk0,ha,hkp⟩;simp only at hk0 ha hkp ⊢;have hlim:lim=1048576:=rfl
  by_cases hlt:k < n
  . obtain ⟨k1,hk1,wk⟩:=qBr (show k < lim by omega)
    have hkf:(k:Int) < n:=by omega
    rw [qAt];simp [-qAt,qAk,qAn,qAl,qAh,qAg,qAe,qAb,qAd,qAa,qAi,qAf,qAc,qAs,qAu,resV,retV,qAm,qAj,qAr,qAq,qAp,qAo,hkf];rw [qAt];simp [-qAt,qAk,qAn,qAl,qAh,qAg,qAe,qAb,qAd,qAa,qAi,qAf,qAc,qAs,qAu,resV,retV,qAm,qAj,qAr,qAq,qAp,qAo];refine AccL.push ha hkp.1 (by rw [qEo]; omega) (x:=(k:Int)) fun v1 H1 a1 a2 _ _=>?_
    rw [← ownL_succ,← hk1] at a1;simp [qAk,qAn,qAl,qAh,qAg,qAe,qAb,qAd,qAa,qAi,qAf,qAc,qAs,qAu,resV,retV,qAm,qAj,qAr,qAq,qAp,qAo,wk];exact .go (k1,v1,H1) (by simp only []; omega) (by simp) rfl ⟨by simp only []; omega,a1,hkp.trans a2⟩
  . obtain rfl:k=n:=by omega
    have hkf:¬ (k:Int) < k:=by omega
    rw [qAt];simp [qAk,qAn,qAl,qAh,qAg,qAe,qAb,qAd,qAa,qAi,qAf,qAc,qAs,qAu,resV,retV,qAm,qAj,qAr,qAq,qAp,qAo,hkf];exact ⟨hkp.ext,ha.inl fun _=>rfl⟩
end
section
variable {h : Heap} {K : Value → Heap → Prop}
theorem R2SameCode_call {a:List Ins} (hl:a.length < lim) (hk:K (vB true) h):qBl prog 15 [vM 4 vIns a,vM 4 vIns a] h K:=by
  refine call_R2SameCode (by simp) ?_
  simp [-qAt,qAk,qAn,qAl,qAh,qAg,qAe,qAb,qAd,qAa,qAi,qAf,qAc,qAs,qAu,resV,retV,qAm,qAj,qAr,qAq,qAp,qAo,qIi];rw [qAt];simp [-qAt,qAk,qAn,qAl,qAh,qAg,qAe,qAb,qAd,qAa,qAi,qAf,qAc,qAs,qAu,resV,retV,qAm,qAj,qAr,qAq,qAp,qAo];rw [qAt];simp [-qAt,qAk,qAn,qAl,qAh,qAg,qAe,qAb,qAd,qAa,qAi,qAf,qAc,qAs,qAu,resV,retV,qAm,qAj,qAr,qAq,qAp,qAo];refine qDh (σ:=Nat) (fun i=>[(0,vM 4 vIns a),(1,vM 4 vIns a),(5,vI i)]) (fun _=>h) (fun i=>i≤a.length) (fun i=>a.length - i) 0 (by simp) rfl (by simp) ?_
  intro i fr hi
  by_cases hlt:i < a.length
  . obtain ⟨i1,hi1,wi⟩:=qBr (show i < lim by omega)
    obtain ⟨x,hx⟩:∃ x,a[i]?=some x:=⟨_,List.getElem?_eq_getElem hlt⟩;have hif:(i:Int) < a.length:=by omega
    rw [qAt];simp [qAk,qAn,qAl,qAh,qAg,qAe,qAb,qAd,qAa,qAi,qAf,qAc,qAs,qAu,resV,retV,qAm,qAj,qAr,qAq,qAp,qAo,hif,hx,wi,-qPi,eqAV_I,-qAy,qAw,qAv,qAx,qBa];exact .go i1 (by omega) (by simp) rfl (by omega)
  . have hif:¬ (i:Int) < a.length:=by omega
    rw [qAt];simp [qAk,qAn,qAl,qAh,qAg,qAe,qAb,qAd,qAa,qAi,qAf,qAc,qAs,qAu,resV,retV,qAm,qAj,qAr,qAq,qAp,qAo,hif];exact hk
end
end Pm
