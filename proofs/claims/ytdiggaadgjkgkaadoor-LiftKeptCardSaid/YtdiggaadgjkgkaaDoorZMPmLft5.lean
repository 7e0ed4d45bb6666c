/- Loads qHa of loops: LiftKept, walked.
   No condition: plain lemmas. -/

import Derived.Test.YtdiggaadgjkgkaaDoorZMPmLft4
namespace Pm
set_option linter.unusedSimpArgs false
set_option linter.unusedVariables false
open Go Am
open Go.Proofs.Tryd (prog)

def qPr:List Ins:=[⟨13,0,0,0⟩,⟨14,0,0,0⟩,⟨17,3,0,0⟩,⟨18,0,0,0⟩,⟨20,0,0,0⟩,⟨21,3,0,0⟩,⟨25,0,0,0⟩]
theorem qQe {q:Nat} {x:Ins} (h:qPr[q]?=some x):qHh x.op=false∧x.op≠10∧x.op≠11∧x.op≤255:=by
  have hm:=List.mem_of_getElem? h;simp only [qPr,List.mem_cons,List.not_mem_nil,or_false] at hm;rcases hm with rfl | rfl | rfl | rfl | rfl | rfl | rfl<;>exact ⟨by decide,by decide,by decide,by decide⟩
def qKu (c:List Nat) (k:Nat) (x:Ins) (a:Nat):List Ins:=qEc c k++[⟨1,3,1,0⟩,x,⟨11,a,0,0⟩]
theorem qJf (c:List Nat) (k:Nat) (x:Ins) (a:Nat):(qKu c k x a).length=k+3:=by simp [qKu,qBq]
theorem kept_at {c:List Nat} {k:Nat} {x:Ins} {a j:Nat} {y:Ins} (h:(qKu c k x a)[j]?=some y):(j < k∧(qEc c k)[j]?=some y)∨(j=k∧y=⟨1,3,1,0⟩)∨(j=k+1∧y=x)∨(j=k+2∧y=⟨11,a,0,0⟩):=by
  unfold qKu at h
  by_cases hj:j < k
  . rw [List.getElem?_append_left (by rw [qBq]; exact hj)] at h
    exact .inl ⟨hj,h⟩
  . rw [List.getElem?_append_right (by rw [qBq]; omega),qBq] at h
    obtain ⟨d,hd⟩:∃ d,d=j - k:=⟨_,rfl⟩;rw [← hd] at h
    match d,h,hd with
    | 0,h,hd=>cases h; exact .inr (.inl ⟨by omega,rfl⟩)
    | 1,h,hd=>cases h; exact .inr (.inr (.inl ⟨by omega,rfl⟩))
    | 2,h,hd=>cases h; exact .inr (.inr (.inr ⟨by omega,rfl⟩))
    | d+3,h,hd=>simp at h
theorem kept_ring {c:List Nat} {k q:Nat} {x:Ins} {a:Nat} (hx:qPr[q]?=some x):Ring0 (qKu c k x a) (k+2) ⟨11,a,0,0⟩ :=
  ⟨qJf c k x a,by unfold qKu; rw [List.getElem?_append_right (by rw [qBq]; omega),qBq,show k+2 - k=2 by omega]; rfl,rfl,rfl,fun i y hi hy=>by
    rcases kept_at hy with ⟨_,h⟩ | ⟨_,rfl⟩ | ⟨_,rfl⟩ | ⟨h,_⟩
    . exact ⟨(qJn h).1,(qJn h).2.1⟩
    . exact ⟨by decide,by decide⟩
    . exact ⟨(qQe hx).2.1,(qQe hx).2.2.1⟩
    . omega⟩
theorem kept_out {c:List Nat} {k q:Nat} {x:Ins} {a:Nat} (hx:qPr[q]?=some x) (hk:k≤8) {out:List Ins} {fm:List Int} (hL:qEp (qKu c k x a) out fm):out=qKu c k x a :=
  ((kept_ring hx).loud (by omega) hL (k:=k+1) (by omega) (by unfold qKu; rw [List.getElem?_append_right (by rw [qBq]; omega),qBq,show k+1 - k=1 by omega]; rfl) (qQe hx).1).1

def AccJ (e b:Nat) (h:Heap) (v:Value) (n:Nat) (cs:List Value):Prop:=∃ id ver junk,v=.slice (some ⟨id,0,none⟩) n ver∧b≤id∧h[id]?=some (.row ⟨cs++junk,e,ver,true⟩)∧cs.length=n * e
theorem AccJ.ext {e b n:Nat} {h h':Heap} {v:Value} {cs:List Value} (ha:AccJ e b h v n cs) (hk:qBn h.length h h'):AccJ e b h' v n cs:=by
  obtain ⟨id,ver,junk,rfl,h1,h2,h3⟩:=ha;exact ⟨id,ver,junk,rfl,h1,by rw [hk.2 id (List.getElem?_eq_some_iff.1 h2).1]; exact h2,h3⟩
theorem AccM.cutJ {α:Type} {F:α→List Value} {e b:Nat} [hF:Flat F e] {h:Heap} {v:Value} {l m:List α} (ha:AccM e F b h v (l++m)) (h0:0 < (l++m).length):∃ v',pCut h e v none (some (vI l.length))=some v'∧AccJ e b h v' l.length (l.flatMap F):=by
  rcases ha with ⟨_,h1,_⟩ | ⟨id,ver,rfl,h2,h3,h4⟩
  . omega
  . refine ⟨.slice (some ⟨id,0,none⟩) l.length ver,?_,id,ver,m.flatMap F,rfl,h2,by rw [← List.flatMap_append]; exact h3,qCx hF.len l⟩
    have hhi:hiV (l++m).length (some (vI l.length))=some l.length:=by
      simp only [hiV,vI];rw [if_pos ⟨by omega,by simp; omega⟩]; simp
    simp only [qBi,cutV,Heap.row?,h3,loV,hhi];simp
theorem AccJ.apps {P:Program} {K:Fr→Heap→Prop} {is:List AIns} {d:Option Nat} {fr:Fr} {H0:Heap} {α:Type} {F:α→List Value} {e b:Nat} [hF:Flat F e] {h:Heap} {v:Value} {l m:List α} (ha:AccJ e b h v l.length (l.flatMap F)) {x:Value} (hx:qCs h e x=some (m.length,m.flatMap F)) (hl:l.length+m.length≤lim)
    (hk:∀ v' h',AccM e F b h' v' (l++m)→qBn b h h'→pOps P K is (updO fr d v') h'):eK P K is d [] fr H0 (pApp h e v x):=by
  obtain ⟨id,ver,junk,rfl,h2,h3,h4⟩:=ha;have hid:=(List.getElem?_eq_some_iff.1 h3).1;have e1:pApp h e (.slice (some ⟨id,0,none⟩) l.length ver) x=some (.slice (some ⟨id,0,none⟩) (l.length+m.length) (ver+1),h.set id (.row ⟨l.flatMap F++m.flatMap F,e,ver+1,true⟩)):=by
    simp only [pApp,hx,qHi,Heap.row?,h3,if_true];rw [if_pos ⟨trivial,trivial,by simp [h4],hl⟩,List.drop_zero,← h4,List.take_left]
  rw [e1,eK_some];refine ⟨trivial,hk _ _ (.inr ⟨id,ver+1,by simp,h2,by rw [List.getElem?_set_self hid]; simp,by rw [qCx hF.len]⟩) ⟨by simp,fun i hi=>by rw [List.getElem?_set_ne (by omega)]⟩⟩

set_option maxHeartbeats 4000000 in
theorem LiftKept_spec' (h:Heap) (c:List Nat) (back op:Nat) (hc:qQw c) (hb:back≤255) (hop:op≤255):qBj prog 3 [vL v8 c,v8 back,v8 op] h fun r _=>r=.bool true:=by
  refine call_LiftKept (by simp) ?_
  have hlim:lim=1048576:=rfl;obtain ⟨q,hq⟩:∃ q,q=op % 7:=⟨_,rfl⟩;obtain ⟨a,ha⟩:∃ a,a=back % 4:=⟨_,rfl⟩;have e1:(op:Int).tmod 7=(q:Int):=by rw [Int.tmod_eq_emod_of_nonneg (by omega)]; omega
  have e2:(back:Int).tmod 4=(a:Int):=by rw [Int.tmod_eq_emod_of_nonneg (by omega)]; omega
  have w1:IntKind.u8.wrap (q:Int)=q:=qFx (by omega) (by omega)
  have w2:IntKind.u8.wrap (a:Int)=a:=qFx (by omega) (by omega)
  have w3:IntKind.i64.wrap (a:Int)=a:=wrap_i64 (by omega) (by omega)
  have hq7:q < 7:=by omega
  obtain ⟨LL,hLL⟩:∃ LL,LL=qPr.flatMap vIns:=⟨_,rfl⟩;have el:bx [.int .u8 13,.int .i64 0,.int .i64 0,.int .i64 0,.int .u8 14,.int .i64 0,.int .i64 0,.int .i64 0,.int .u8 17,.int .i64 3,.int .i64 0,.int .i64 0,.int .u8 18,.int .i64 0,.int .i64 0,.int .i64 0,.int .u8 20,.int .i64 0,.int .i64 0,.int .i64 0,.int .u8 21,.int .i64 3,.int .i64 0,.int .i64 0,.int .u8 25,.int .i64 0,.int .i64 0,.int .i64 0] 4=bx LL 4:=by rw [hLL]; rfl
  obtain ⟨x,hx⟩:∃ x,qPr[q]?=some x:=⟨_,List.getElem?_eq_getElem hq7⟩;have hq7I:(q:Int) < 7:=by omega
  have hrow:∀ rs:List Ob,RowM 4 vIns (h++(bx LL 4 :: rs)) h.length 0 4 qPr:=fun rs=>by rw [hLL]; simp [RowM,bx]
  have hcx:=fun rs=>(hrow rs).cells hx
  simp [-qAu,qAk,qAn,qAl,qAh,qAg,qAe,qAb,qAd,qAa,qAi,qAf,qAc,qAs,qAt,resV,retV,qAm,qAj,qAr,qAq,qAp,qAo,qKm,e1,w1,hq7];simp [qAk,qAn,qAl,qAh,qAg,qAe,qAb,qAd,qAa,qAi,qAf,qAc,qAs,qAt,resV,retV,qAm,qAj,qAr,qAq,qAp,qAo,hq7,hq7I,el,hcx,-qAy,qAw,qAv,qAx,qBa,wN_0,wN_1,wN_2,wN_3];refine L20_call (back:=0) hc (by decide) fun v H L hL acc kp=>?_
  obtain ⟨k,hk,hL⟩:=hL;rcases hL with ⟨k0,rfl⟩ | ⟨k0,rfl⟩
  . have hln:pLen v=some (vI 0):=by have:=acc.len; exact this
    simp [qAk,qAn,qAl,qAh,qAg,qAe,qAb,qAd,qAa,qAi,qAf,qAc,qAs,qAt,resV,retV,qAm,qAj,qAr,qAq,qAp,qAo,callK_def,hln];refine qFw ?_;simp [qAk,qAn,qAl,qAh,qAg,qAe,qAb,qAd,qAa,qAi,qAf,qAc,qAs,qAt,resV,retV,qAm,qAj,qAr,qAq,qAp,qAo,callK_def]
  . have hln:pLen v=some (vI ((k:Int)+2)):=by have:=acc.len; rw [this]; simp [qBq]
    have k2:¬ (k:Int)+2=0:=by omega
    have k0':0 < k:=k0;have eL:qEc c k++[⟨1,3,1,0⟩,⟨11,((0 / 64:Nat):Int),((0 % k:Nat):Int),0⟩]=(qEc c k++[⟨1,3,1,0⟩])++[⟨11,((0 / 64:Nat):Int),((0 % k:Nat):Int),0⟩]:=by simp
    rw [eL] at acc;obtain ⟨v',hcut,aj⟩:=acc.cutJ (by simp)
    have hcl:(qEc c k++[(⟨1,3,1,0⟩:Ins)]).length=k+1:=by simp [qBq]
    rw [hcl] at hcut;have hcut:pCut H 4 v none (some (vI ((k:Int)+1)))=some v':=by simpa using hcut
    have wk:IntKind.i64.wrap ((k:Int)+2 - 1)=(k:Int)+1:=by rw [wrap_i64 (by omega) (by omega)]; omega
    have hHl:h.length+2≤H.length:=by simpa using kp.1
    have hcx7:∀ rs:List Ob,(H++rs).cells? (h.length+1) 0 0 4=some (vIns x):=fun rs=>by
      have:(H++rs)[h.length+1]?=some (bx (vIns x) 4):=by
        rw [List.getElem?_append_left (by omega),kp.2 (h.length+1) (by simp)]
        simp
      simp [Heap.cells?,Heap.row?,this,bx,qAw,qAv]
    have hcx0:H.cells? (h.length+1) 0 0 4=some (vIns x):=by simpa using hcx7 []
    have sa2:∀ {z1 z2 z3 z4 z5 z6 z7 z8:Value} {x y:Ins},setAll (setAll [z1,z2,z3,z4,z5,z6,z7,z8] 0 (vIns x)) 4 (vIns y)=vIns x++vIns y:=rfl;have c11:cellsOf (.agg #[.int .u8 11,.int .i64 (a:Int),.int .i64 0,.int .i64 0])=some (vIns ⟨11,a,0,0⟩):=rfl;simp [qAk,qAn,qAl,qAh,qAg,qAe,qAb,qAd,qAa,qAi,qAf,qAc,qAs,qAt,resV,retV,qAm,qAj,qAr,qAq,qAp,qAo,callK_def,hln,k2,wk,hcut,hcx7,hcx0,e2,w2,w3,c11,qGj,sa2,-qAy,qAw,qAv,qAx,qBa,wN_0,wN_1,wN_2,wN_3]
    rw [hcl] at aj;have aj:AccJ 4 h.length H v' (qEc c k++[(⟨1,3,1,0⟩:Ins)]).length ((qEc c k++[(⟨1,3,1,0⟩:Ins)]).flatMap vIns):=by
      rw [hcl];obtain ⟨id,ver,junk,j1,j2,j3⟩:=aj;exact ⟨id,ver,junk,j1,by simp at j2; omega,j3⟩
    refine AccJ.apps (aj.ext qBn.app) (m:=[x,⟨11,a,0,0⟩]) (qHj (h:=H) rfl) (by rw [hcl]; simp; omega) fun v1 H1 a1 a2=>?_
    have a1:AccM 4 vIns h.length H1 v1 (qKu c k x a):=by simpa [qKu] using a1
    obtain ⟨id,ver,H2,rfl,fz,hrow2⟩:=a1.frzR (by rw [qJf]; omega)
    simp [qAk,qAn,qAl,qAh,qAg,qAe,qAb,qAd,qAa,qAi,qAf,qAc,qAs,qAt,resV,retV,qAm,qAj,qAr,qAq,qAp,qAo,fz];refine qIs (code:=qKu c k x a) (fun y hy=>?_) (by rw [qJf]; omega) fun out fm hL=>?_
    . obtain ⟨j,hj⟩:=List.mem_iff_getElem?.1 hy
      rcases kept_at hj with ⟨_,h⟩ | ⟨_,rfl⟩ | ⟨_,rfl⟩ | ⟨_,rfl⟩
      . have:=(qJn h).2.2; omega
      . show (1:Nat)≤255; omega
      . exact (qQe hx).2.2.2
      . show (11:Nat)≤255; omega
    have ho:=kept_out hx (by omega) hL
    subst ho;simp [qAk,qAn,qAl,qAh,qAg,qAe,qAb,qAd,qAa,qAi,qAf,qAc,qAs,qAt,resV,retV,qAm,qAj,qAr,qAq,qAp,qAo,callK_def,qKk];refine qFw ?_;simp [qAk,qAn,qAl,qAh,qAg,qAe,qAb,qAd,qAa,qAi,qAf,qAc,qAs,qAt,resV,retV,qAm,qAj,qAr,qAq,qAp,qAo,callK_def];refine R2SameCode_call (by rw [qJf]; omega) ?_
    simp [qAk,qAn,qAl,qAh,qAg,qAe,qAb,qAd,qAa,qAi,qAf,qAc,qAs,qAt,resV,retV,qAm,qAj,qAr,qAq,qAp,qAo,callK_def]
theorem LiftKept_spec (c:List Nat) (back op:Nat) (hc:qQw c) (hb:back≤255) (hop:op≤255):qBj prog 3 [vL v8 c,v8 back,v8 op] [] fun r _=>r=.bool true:=LiftKept_spec' [] c back op hc hb hop
end Pm
