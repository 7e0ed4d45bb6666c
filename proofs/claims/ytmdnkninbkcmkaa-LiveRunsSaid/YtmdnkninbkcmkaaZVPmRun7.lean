/- The run of a program: what takes, walked.
   No condition: plain lemmas. -/

import Derived.Test.YtmdnkninbkcmkaaZVPmRun6
namespace Pm
set_option linter.unusedSimpArgs false
set_option linter.unusedVariables false
open Go Am
open Go.Proofs.Try (prog)

def vEv (e:Ev):List Value:=[vI e.thread,vI e.pc,v8 e.op,vI e.obj,vI e.value,vI e.mode]
section
variable {e : Ev} {x : Int}
theorem qBc:cellsOf (.agg (vEv e).toArray)=some (vEv e):=rfl
theorem qBs:(vEv e).length=6:=rfl
theorem qBg:List.take 6 (vEv e)=vEv e:=rfl
theorem vE_0:(vEv e)[0]?=some (vI e.thread):=Eq.trans rfl rfl
theorem vE_1:(vEv e)[1]?=some (vI e.pc):=Eq.trans rfl rfl
theorem vE_2:(vEv e)[2]?=some (v8 e.op):=Eq.trans rfl rfl
theorem vE_3:(vEv e)[3]?=some (vI e.obj):=Eq.trans rfl rfl
theorem vE_4:(vEv e)[4]?=some (vI e.value):=Eq.trans rfl rfl
theorem vE_5:(vEv e)[5]?=some (vI e.mode):=Eq.trans rfl rfl
theorem qDi:(vEv e).set 3 (vI x)=vEv { e with obj:=x }:=Eq.trans rfl rfl
theorem qDh:(vEv e).set 4 (vI x)=vEv { e with value:=x }:=Eq.trans rfl rfl
theorem qDg:(vEv e).set 5 (vI x)=vEv { e with mode:=x }:=Eq.trans rfl rfl
theorem qBd {z0 z1 z2 z3 z4 z5:Value}:setAll [z0,z1,z2,z3,z4,z5] 0 (vEv e)=vEv e:=qHf rfl
theorem qDj:(∀ x:Value,x∈vEv e→qEc x=true)=True:=by
  have h:(vEv e).all qEc=true:=rfl
  simpa using h
theorem qMh:(vEv e).all qCk=true:=rfl
end
section
variable {b L : Nat} {H : Heap} {v : Nat → Value} {c : Nat → List Value}
theorem Owns.put (O:Owns b H v c) (hL:H.length=L) (j:Nat) {i:Nat} {x:Value} (hi:i < (c j).length) (hx:cellsOf x=some [x]) :
    ∃ H',(∀ rs,qCm (H++rs) 1 (ptrO (v j) i) x=some (H'++rs))∧H'.length=L∧Lies H' L∧Owns b H' v (fset c j ((c j).set i x))∧∀ i,(∀ m,rid (v m)≠some i)→H'[i]?=H[i]?:=by
  obtain ⟨H',h1,h2,h3,h4⟩:=O.store j hi hx;exact ⟨H',h1,by rw [h2,hL],lies (by rw [h2,hL]),h3,h4⟩
theorem Owns.get (O:Owns b H v c) (j:Nat) {i:Nat} {x:Value} (hx:(c j)[i]?=some x):qIf 1 (v j) (vI i)=some (ptrO (v j) i)∧∀ rs,pLd (H++rs) (ptrO (v j) i)=some x:=by
  have hi:=(List.getElem?_eq_some_iff.1 hx).1;exact ⟨O.idx j hi,fun rs=>by rw [O.ld rs j hi,hx]⟩
theorem Owns.cut (O:Owns b H v c) (j:Nat) {y:Int} {q:List Int} (hc:c j=(y :: q).map vI):∃ w,(∀ rs,pCut (H++rs) 1 (v j) (some (vI 1)) Option.none=some w)∧cellsOf w=some [w]∧∀ H' c',Owns b H' v c'→c' j=c j→Inl b H' w (vL vI q):=by
  rcases O.acc j with ⟨h1,h2,h3⟩ | ⟨id,ver,h1,h2,h3,h4⟩
  . rw [h3] at hc; cases hc
  . have hl:=(List.getElem?_eq_some_iff.1 h3).1
    refine ⟨.slice (some ⟨id,1,Option.none⟩) q.length ver,fun rs=>?_,rfl,fun H' c' O' e=>?_⟩
    . rw [h1,qLz]
      simp [cutV,Heap.row?,List.getElem?_append_left hl,h3,loV,hiV,hc]
    . rcases O'.acc j with ⟨k1,k2,k3⟩ | ⟨id',ver',k1,k2,k3,k4⟩
      . rw [e,hc] at k3; cases k3
      . rw [h1] at k1
        have k5:=congrArg (fun v=>match v with | Value.slice (some a) _ ver=>(a.block,ver) | _=>(0,0)) k1
        simp only [Prod.mk.injEq] at k5;obtain ⟨k6,k7⟩:=k5;subst k6; subst k7;clear k1;rw [e,hc] at k3;exact .row (r:=⟨(y :: q).map vI,1,ver,true⟩) k2 (by simp [Heap.row?,k3]) (by simp; omega) (by simp) fun m x z h5 h6=>by
          have e1:((y :: q).map vI)[1+m]?=(q.map vI)[m]?:=by rw [Nat.add_comm]; rfl
          simp only at h5;rw [e1,h6] at h5;cases h5;rw [List.getElem?_map] at h6;obtain ⟨t,_,rfl⟩:=Option.map_eq_some_iff.1 h6;exact .cell rfl
end
def qEe (s:MS) (k:Nat) (x:Xr):MS:=⟨s.at_,s.r.set k x.r,x.g⟩
def qTt (v:Nat→Value) (h H':Heap):Prop:=h.length≤H'.length∧∀ i,i < h.length→(∀ m,rid (v m)≠some i)→H'[i]?=h[i]?
def InlO (b:Nat) (v:Nat→Value) (h H':Heap) (x y:Value):Prop:=∀ H'',H'.length≤H''.length→(∀ i,i < H'.length→(i < h.length→∃ m,rid (v m)=some i)→H''[i]?=H'[i]?)→Inl b H'' x y
theorem Owns.keepO {b:Nat} {H H':Heap} {v:Nat→Value} {c:Nat→List Value} (O:Owns b H v c) (hk:∀ i m,rid (v m)=some i→H'[i]?=H[i]?):Owns b H' v c:=⟨fun j=>(O.acc j).keep fun i hi=>hk i j hi,O.apart⟩
theorem qDk {p:Prog} {b:Nat} {h H':Heap} {rs:List Ob} {s':MS} {v:Nat→Value} {e':Ev} (hb:b≤h.length) (hl:H'.length=h.length) (kb:∀ i,(∀ m,rid (v m)≠some i)→H'[i]?=h[i]?) (O':Owns b H' v (want s' v)) :
    qTt v h (H'++rs)∧InlO b v h (H'++rs) (.agg (cS p s' v).toArray) (.agg (vSt p s').toArray):=by
  refine ⟨⟨by rw [List.length_append,hl]; omega,fun i hi hm=>by rw [List.getElem?_append_left (by omega),kb i hm]⟩,?_⟩
  intro H'' hl'' ha;refine inlS (O'.keepO fun i m hi=>?_)
  have hlt:=(O'.acc m).lt hi;rw [ha i (by rw [List.length_append]; omega) (fun _=>⟨m,hi⟩),List.getElem?_append_left hlt]
theorem Inl.app {b:Nat} {H:Heap} {x y:Value} (hi:Inl b H x y) {rs:List Ob}:Inl b (H++rs) x y:=by
  induction hi with
  | cell hc=>exact .cell hc
  | nil=>exact .nil
  | row hb hr hl hn hc ih =>
    refine .row hb ?_ hl hn ih;have:=Heap.row?_some hr;have hlt:=(List.getElem?_eq_some_iff.1 this.1).1
    simpa only [Heap.row?,List.getElem?_append_left hlt] using hr
  | agg hs hc ih=>exact .agg hs ih
  | tup hs hc ih=>exact .tup hs ih
theorem fin_q {p:Prog} {b:Nat} {h H':Heap} {rs:List Ob} {s:MS} {v:Nat→Value} {e':Ev} {c:Nat→List Value} {k B:Nat} {r r' q:List Int} {q0:List Int} {w:Value} (hb:b≤h.length) (hl:H'.length=h.length) (kb:∀ i,(∀ m,rid (v m)≠some i)→H'[i]?=h[i]?) (O':Owns b H' v c) (hr:s.r[k]?=some r) (hq:s.g.queue[B]?=some q0)
    (hc:∀ j,j≠6→j≠16+2 * k→c j=want s v j) (h6:c 6=(want s v 6).set B w) (hk:c (16+2 * k)=r'.map vI) (hw:∀ H'',Owns b H'' v c→Inl b H'' w (vL vI q)) :
    qTt v h (H'++rs)∧InlO b v h (H'++rs) (.agg (cS p s v).toArray) (.agg (vSt p ⟨s.at_,s.r.set k r',{ s.g with queue:=s.g.queue.set B q }⟩).toArray):=by
  have hkl:=(List.getElem?_eq_some_iff.1 hr).1;have hBl:=(List.getElem?_eq_some_iff.1 hq).1;refine ⟨⟨by rw [List.length_append,hl]; omega,fun i hi hm=>by rw [List.getElem?_append_left (by omega),kb i hm]⟩,?_⟩
  have hcs:cS p s v=cS p ⟨s.at_,s.r.set k r',{ s.g with queue:=s.g.queue.set B q }⟩ v:=rfl;rw [hcs];intro H'' hl'' ha;have O'':Owns b H'' v c:=O'.keepO fun i m hi=>by
    have hlt:=(O'.acc m).lt hi;rw [ha i (by rw [List.length_append]; omega) (fun _=>⟨m,hi⟩),List.getElem?_append_left hlt]
  refine inlQ O'' (fun j h1 h2=>?_) ?_ fun i x y hx hy=>?_
  . by_cases hj:j=16+2 * k
    . subst hj
      rw [hk,qEj];simp only;rw [List.getElem?_set_self hkl]
      rfl
    . rw [hc j h1 hj]
      rcases ix j with h | ⟨m,rfl⟩ | ⟨m,rfl⟩
      . rcases qLc h with rfl | rfl | rfl | rfl | rfl | rfl | rfl | rfl | rfl | rfl | rfl | rfl | rfl | rfl | rfl | rfl
        all_goals first
          | rfl
          | exact absurd rfl h1
          | (simp only [qIg,List.length_set])
      . rw [qEj,qEj]
        simp only;rw [List.getElem?_set_ne (by omega)]
      . omega
  . rw [h6,qGz]; simp
  . rw [h6] at hx
    simp only at hy;rw [List.getElem?_set] at hx hy
    by_cases hi:B=i
    . subst hi
      rw [if_pos rfl,if_pos (by rw [qGz]; simpa using hBl)] at hx
      rw [if_pos rfl,if_pos hBl] at hy;cases hx; cases hy;exact hw _ O''
    . rw [if_neg hi] at hx hy
      rw [qGz,List.getElem?_map] at hx;obtain ⟨m,hm,rfl⟩:=Option.map_eq_some_iff.1 hx;obtain ⟨h1,h2⟩:=List.getElem?_eq_some_iff.1 hm;rw [List.getElem_range] at h2;subst h2;refine O''.inl _ ?_;rw [hc _ (by omega) (by omega),qGy,hy]; rfl
section
variable {h : Heap} {K : Value → Heap → Prop}
set_option maxHeartbeats 8000000 in
theorem r4taken_call {b:Nat} {p:Prog} {s:MS} {v:Nat→Value} {k n:Nat} {i:Ins} {r:List Int} {e:Ev} (hb:b≤h.length) (O:Owns b h v (want s v)) (hs:Shape p s) (ho:InsOk p n i) (hop:i.op=17∨i.op=19∨i.op=21∨i.op=22∨i.op=26) (hr:s.r[k]?=some r)
    (pc:Int) (he:e.thread=k∧e.pc=pc∧e.op=i.op∧e.value=0∧e.mode=0)
    (hk:∀ v' H',qTt v h H'→(∀ j,cellLike (v' j)=true)→InlO b v h H' (.agg (cS p (qEe s k (exec k pc i r s.g)) v').toArray) (.agg (vSt p (qEe s k (exec k pc i r s.g))).toArray) →
      K (.tuple #[.agg (cS p (qEe s k (exec k pc i r s.g)) v').toArray,.agg (vEv (exec k pc i r s.g).e).toArray,.bool true]) H') :
    qBu prog 67 [.agg (cS p s v).toArray,vI k,.agg (vIns i).toArray,.agg (vEv e).toArray] h K:=by
  have hcs:=qRn (p:=p) (s:=s) (v:=v) O.like;have hkl:=(List.getElem?_eq_some_iff.1 hr).1;have r4:=hs.r4 r (List.mem_of_getElem? hr);have reg:∀ x:Int,0≤x∧x < 4→∃ A:Nat,x=A∧A < r.length:=fun x hx=>⟨x.toNat,by omega,by omega⟩
  obtain ⟨ik,lk⟩:=O.get 2 (i:=k) (x:=v (16+2 * k)) (by rw [qIg]; simp [hkl])
  have hkr:(want s v (16+2 * k))=r.map vI:=by rw [qEj,hr]; rfl
  have w0:qCp i.op 0=2→0≤i.a∧i.a < 4:=fun h1=>ho.reg (k:=0) (by omega) h1 (.inl rfl)
  have w1:∀ {w:Nat} {m:Int},qCp i.op 1=w→w≠0∧w≠1→qFp p n w=m→0≤i.b∧i.b < m:=fun h1 h2 h3=>ho.many (k:=1) (by omega) h1 h2 h3
  have w2:(qCp i.op 2=2∨qCp i.op 2=3)→0≤i.c∧i.c < 4:=fun h1=>ho.reg (k:=2) (by omega) rfl h1
  obtain ⟨A,hA,hAr⟩:=reg i.a (w0 (by rcases hop with e | e | e | e | e<;>rw [e]<;>rfl))
  refine call_r4taken (by simp) ?_
  have h0:(0:Nat)=0:=rfl;rcases hop with o | o | o | o | o
  . -- Read
    obtain ⟨B,hB,_,hBl,hBy⟩:=qFm (l:=s.g.atoms) (w1 (w:=8) (by rw [o]; rfl) (by decide) rfl).1 (by rw [hs.atoms]; exact (w1 (w:=8) (by rw [o]; rfl) (by decide) rfl).2)
    obtain ⟨y,hy⟩:∃ y,y=gI s.g.atoms i.b:=⟨_,rfl⟩;rw [← hy] at hBy;obtain ⟨ib,lb⟩:=O.get 4 (i:=B) (x:=vI y) (by rw [qRr,List.getElem?_map,hBy]; rfl)
    have ia:=O.idx (16+2 * k) (i:=A) (by rw [hkr]; simpa using hAr)
    obtain ⟨H1,t1,hl1,L1,O1,kb1⟩:=O.put rfl (16+2 * k) (i:=A) (x:=vI y) (by rw [hkr]; simpa using hAr) rfl
    rw [up_r hr] at O1;obtain ⟨_,l1⟩:=O1.get (16+2 * k) (i:=A) (x:=vI y) (by rw [qEj]; simp [hkl,hAr])
    simp [qAk,qAn,qAl,qAi,qAf,qAe,qAb,qAc,qAa,qAj,qAg,qAd,qAu,qAv,resV,retV,qAm,qAh,qAt,qAs,qAr,qAq,qEr,-qAo,qBa,qAw,qBe,vS_0,vS_1,vS_2,vS_3,vS_4,vS_5,vS_6,vS_7,vS_8,vS_9,qBp,qBo,qBn,qBm,qBl,qBk,qBj,qBi,qBh,qBb,qAx,qAp,vN_0,vN_1,vN_2,vN_3,qBw,qBr,qBf,qDe,qDd,qDc,qDb,qDa,qCz,qCi,qCh,qCg,qCf,qCe,qCd,qCc,qCb,qCa,qBy,qBz,qBc,qBs,qBg,vE_0,vE_1,vE_2,vE_3,vE_4,vE_5,qDi,qDh,qDg,qBd,qDj,hcs,o,ik,lk,hA,hB,ib,lb,ia,t1,l1,L1.cell,L1.cell0,L1.cells,L1.cells0,L1.store,L1.store0,L1.len]
    have hx:exec k pc i r s.g=⟨pc+1,r.set A y,s.g,{ e with obj:=B,value:=y }⟩:=by
      obtain ⟨op,a,b',c⟩:=i;obtain ⟨e1,e2,e3,e4,e5,e6⟩:=e;simp only at o hA hB he hy;subst o; subst hA; subst hB;obtain ⟨rfl,rfl,rfl,rfl,rfl⟩:=he;simp only [exec,qCn,sI,← hy,Int.toNat_natCast]
    rw [hx] at hk;obtain ⟨f1,f2⟩:=qDk (p:=p) (rs:=[bx (cS p s v) 19,bx (vIns i) 4,bx (vEv { e with obj:=B,value:=y }) 6,bx (cS p s v) 19,bx (vEv { e with obj:=B,value:=y }) 6]) (e':={ e with obj:=B,value:=y }) hb hl1 kb1 O1;exact hk v _ f1 O.like f2
  . -- Bump
    obtain ⟨B,hB,_,hBl,hBy⟩:=qFm (l:=s.g.atoms) (w1 (w:=8) (by rw [o]; rfl) (by decide) rfl).1 (by rw [hs.atoms]; exact (w1 (w:=8) (by rw [o]; rfl) (by decide) rfl).2)
    obtain ⟨y,hy⟩:∃ y,y=gI s.g.atoms i.b:=⟨_,rfl⟩;rw [← hy] at hBy;obtain ⟨C,hC,_,hCl,hCz⟩:=qFm (l:=r) (w2 (.inr (by rw [o]; rfl))).1 (by have:=(w2 (.inr (by rw [o]; rfl))).2; omega)
    obtain ⟨z,hz⟩:∃ z,z=gI r i.c:=⟨_,rfl⟩;rw [← hz] at hCz;obtain ⟨ib,lb⟩:=O.get 4 (i:=B) (x:=vI y) (by rw [qRr,List.getElem?_map,hBy]; rfl)
    obtain ⟨ic,lc⟩:=O.get (16+2 * k) (i:=C) (x:=vI z) (by rw [hkr,List.getElem?_map,hCz]; rfl)
    have ia:=O.idx (16+2 * k) (i:=A) (by rw [hkr]; simpa using hAr)
    obtain ⟨H1,t1,hl1,L1,O1,kb1⟩:=O.put rfl 4 (i:=B) (x:=vI (w64 (y+z))) (by rw [qRr]; simpa using hBl) rfl
    rw [up_4] at O1;obtain ⟨H2,t2,hl2,L2,O2,kb2⟩:=O1.put hl1 (16+2 * k) (i:=A) (x:=vI y) (by rw [qEj]; simp [hr,hAr]) rfl
    rw [up_r (s:={ s with g:={ s.g with atoms:=s.g.atoms.set B (w64 (y+z)) } }) hr] at O2;have wz:IntKind.i64.wrap (y+z)=w64 (y+z):=rfl;simp [qAk,qAn,qAl,qAi,qAf,qAe,qAb,qAc,qAa,qAj,qAg,qAd,qAu,qAv,resV,retV,qAm,qAh,qAt,qAs,qAr,qAq,qEr,-qAo,qBa,qAw,qBe,vS_0,vS_1,vS_2,vS_3,vS_4,vS_5,vS_6,vS_7,vS_8,vS_9,qBp,qBo,qBn,qBm,qBl,qBk,qBj,qBi,qBh,qBb,qAx,qAp,vN_0,vN_1,vN_2,vN_3,qBw,qBr,qBf,qDe,qDd,qDc,qDb,qDa,qCz,qCi,qCh,qCg,qCf,qCe,qCd,qCc,qCb,qCa,qBy,qBz,qBc,qBs,qBg,vE_0,vE_1,vE_2,vE_3,vE_4,vE_5,qDi,qDh,qDg,qBd,qDj,hcs,o,ik,lk,hA,hB,hC,ib,lb,ia,ic,lc,wz,t1,t2,L1.cell,L1.cell0,L1.cells,L1.cells0,L1.store,L1.store0,L1.len,L2.cell,L2.cell0,L2.cells,L2.cells0,L2.store,L2.store0,L2.len]
    have hx:exec k pc i r s.g=⟨pc+1,r.set A y,{ s.g with atoms:=s.g.atoms.set B (w64 (y+z)) },{ e with obj:=B,value:=y }⟩:=by
      obtain ⟨op,a,b',c⟩:=i;obtain ⟨e1,e2,e3,e4,e5,e6⟩:=e;simp only at o hA hB he hC hy hz;subst o; subst hA; subst hB; subst hC;obtain ⟨rfl,rfl,rfl,rfl,rfl⟩:=he;simp only [exec,qCn,sI,← hy,← hz,Int.toNat_natCast,if_true,if_false]
    rw [hx] at hk;have kb:∀ j,(∀ m,rid (v m)≠some j)→H2[j]?=h[j]?:=fun j hj=>by rw [kb2 j hj,kb1 j hj]
    obtain ⟨f1,f2⟩:=qDk (p:=p) (rs:=[bx (cS p s v) 19,bx (vIns i) 4,bx (vEv { e with obj:=B,value:=y }) 6,bx (cS p s v) 19,bx (vEv { e with obj:=B,value:=y }) 6]) (e':={ e with obj:=B,value:=y }) hb hl2 kb O2;exact hk v _ f1 O.like f2
  . -- Recv
    have wb:=w1 (w:=9) (by rw [o]; rfl) (by decide) rfl
    have hq:=qSn (q:=s.g.queue) wb.1 (by rw [hs.queue]; exact wb.2)
    have hbq:i.b < s.g.queue.length:=by rw [hs.queue]; exact wb.2
    obtain ⟨B,hB⟩:∃ B:Nat,i.b=B:=⟨i.b.toNat,by omega⟩
    obtain ⟨q,hqq⟩:∃ q,q=gL s.g.queue i.b:=⟨_,rfl⟩;rw [← hqq,hB,show ((B:Int)).toNat=B by omega] at hq
    have hBl:=(List.getElem?_eq_some_iff.1 hq).1;obtain ⟨B',hB',hcz,_,hcl⟩:=qFm (l:=s.g.closed) wb.1 (by rw [hs.closed]; exact wb.2)
    obtain ⟨z,hz⟩:∃ z,z=gI s.g.closed i.b:=⟨_,rfl⟩;obtain rfl:B=B':=by omega
    rw [← hz] at hcl;have wq:want s v (17+2 * B)=q.map vI:=by rw [qGy,hq]; rfl
    obtain ⟨ib,lb⟩:=O.get 6 (i:=B) (x:=v (17+2 * B)) (by rw [qGz]; simp [hBl])
    obtain ⟨iz,lz⟩:=O.get 7 (i:=B) (x:=vI z) (by rw [qRq,List.getElem?_map,hcl]; rfl)
    have lq:=O.len (17+2 * B);rw [wq,List.length_map] at lq;have ia:=O.idx (16+2 * k) (i:=A) (by rw [hkr]; simpa using hAr)
    cases q with
    | nil =>
      obtain ⟨H1,t1,hl1,L1,O1,kb1⟩:=O.put rfl (16+2 * k) (i:=A) (x:=vI 0) (by rw [hkr]; simpa using hAr) rfl
      rw [up_r hr] at O1
      by_cases hz1:z=1
      . simp [qAk,qAn,qAl,qAi,qAf,qAe,qAb,qAc,qAa,qAj,qAg,qAd,qAu,qAv,resV,retV,qAm,qAh,qAt,qAs,qAr,qAq,qEr,-qAo,qBa,qAw,qBe,vS_0,vS_1,vS_2,vS_3,vS_4,vS_5,vS_6,vS_7,vS_8,vS_9,qBp,qBo,qBn,qBm,qBl,qBk,qBj,qBi,qBh,qBb,qAx,qAp,vN_0,vN_1,vN_2,vN_3,qBw,qBr,qBf,qDe,qDd,qDc,qDb,qDa,qCz,qCi,qCh,qCg,qCf,qCe,qCd,qCc,qCb,qCa,qBy,qBz,qBc,qBs,qBg,vE_0,vE_1,vE_2,vE_3,vE_4,vE_5,qDi,qDh,qDg,qBd,qDj,hcs,o,he.2.2.2.1,he.2.2.2.2,ik,lk,hA,hB,ib,lb,iz,lz,ia,lq,t1,L1.cell,L1.cell0,L1.cells,L1.cells0,L1.store,L1.store0,L1.len,hz1]
        have hx:exec k pc i r s.g=⟨pc+1,r.set A 0,s.g,{ e with obj:=B,value:=0,mode:=2 }⟩:=by
          obtain ⟨op,a,b',c⟩:=i;obtain ⟨e1,e2,e3,e4,e5,e6⟩:=e;simp only at o hA hB he hqq hz;subst o; subst hA; subst hB;obtain ⟨rfl,rfl,rfl,rfl,rfl⟩:=he;simp only [exec,qCn,sI,← hqq,← hz,hz1,Int.toNat_natCast,if_true,if_false]
        rw [hx] at hk;obtain ⟨f1,f2⟩:=qDk (p:=p) (rs:=[bx (cS p s v) 19,bx (vIns i) 4,bx (vEv { e with obj:=B,value:=0,mode:=2 }) 6,bx (cS p s v) 19,bx (vEv { e with obj:=B,value:=0,mode:=2 }) 6]) (e':={ e with obj:=B,value:=0,mode:=2 }) hb hl1 kb1 O1;exact hk v _ f1 O.like f2
      . simp [qAk,qAn,qAl,qAi,qAf,qAe,qAb,qAc,qAa,qAj,qAg,qAd,qAu,qAv,resV,retV,qAm,qAh,qAt,qAs,qAr,qAq,qEr,-qAo,qBa,qAw,qBe,vS_0,vS_1,vS_2,vS_3,vS_4,vS_5,vS_6,vS_7,vS_8,vS_9,qBp,qBo,qBn,qBm,qBl,qBk,qBj,qBi,qBh,qBb,qAx,qAp,vN_0,vN_1,vN_2,vN_3,qBw,qBr,qBf,qDe,qDd,qDc,qDb,qDa,qCz,qCi,qCh,qCg,qCf,qCe,qCd,qCc,qCb,qCa,qBy,qBz,qBc,qBs,qBg,vE_0,vE_1,vE_2,vE_3,vE_4,vE_5,qDi,qDh,qDg,qBd,qDj,hcs,o,he.2.2.2.1,he.2.2.2.2,ik,lk,hA,hB,ib,lb,iz,lz,ia,lq,t1,L1.cell,L1.cell0,L1.cells,L1.cells0,L1.store,L1.store0,L1.len,hz1]
        have hx:exec k pc i r s.g=⟨pc+1,r.set A 0,s.g,{ e with obj:=B,value:=0,mode:=0 }⟩:=by
          obtain ⟨op,a,b',c⟩:=i;obtain ⟨e1,e2,e3,e4,e5,e6⟩:=e;simp only at o hA hB he hqq hz;subst o; subst hA; subst hB;obtain ⟨rfl,rfl,rfl,rfl,rfl⟩:=he;simp only [exec,qCn,sI,← hqq,← hz,hz1,Int.toNat_natCast,if_true,if_false]
        rw [hx] at hk;obtain ⟨f1,f2⟩:=qDk (p:=p) (rs:=[bx (cS p s v) 19,bx (vIns i) 4,bx (vEv { e with obj:=B,value:=0,mode:=0 }) 6,bx (cS p s v) 19,bx (vEv { e with obj:=B,value:=0,mode:=0 }) 6]) (e':={ e with obj:=B,value:=0,mode:=0 }) hb hl1 kb1 O1;exact hk v _ f1 O.like f2
    | cons y q =>
      have hql:(0:Int) < ((y :: q).length:Nat):=by simp
      obtain ⟨i0,l0⟩:=O.get (17+2 * B) (i:=0) (x:=vI y) (by rw [wq]; rfl)
      have i0:qIf 1 (v (17+2 * B)) (.int .i64 0)=some (ptrO (v (17+2 * B)) 0):=i0;obtain ⟨w,cw,kw,hw⟩:=O.cut (17+2 * B) wq;obtain ⟨H1,t1,hl1,L1,O1,kb1⟩:=O.put rfl 6 (i:=B) (x:=w) (by rw [qGz]; simpa using hBl) kw
      have ew:∀ m:Nat,fset (want s v) 6 ((want s v 6).set B w) (16+2 * m)=want s v (16+2 * m):=fun m=>qAz (by omega)
      obtain ⟨H2,t2,hl2,L2,O2,kb2⟩:=O1.put hl1 (16+2 * k) (i:=A) (x:=vI y) (by rw [ew,hkr]; simpa using hAr) rfl
      simp [qAk,qAn,qAl,qAi,qAf,qAe,qAb,qAc,qAa,qAj,qAg,qAd,qAu,qAv,resV,retV,qAm,qAh,qAt,qAs,qAr,qAq,qEr,-qAo,qBa,qAw,qBe,vS_0,vS_1,vS_2,vS_3,vS_4,vS_5,vS_6,vS_7,vS_8,vS_9,qBp,qBo,qBn,qBm,qBl,qBk,qBj,qBi,qBh,qBb,qAx,qAp,vN_0,vN_1,vN_2,vN_3,qBw,qBr,qBf,qDe,qDd,qDc,qDb,qDa,qCz,qCi,qCh,qCg,qCf,qCe,qCd,qCc,qCb,qCa,qBy,qBz,qBc,qBs,qBg,vE_0,vE_1,vE_2,vE_3,vE_4,vE_5,qDi,qDh,qDg,qBd,qDj,hcs,o,he.2.2.2.1,he.2.2.2.2,ik,lk,hA,hB,ib,lb,iz,lz,ia,lq,hql,i0,l0,cw,kw,t1,t2,L1.cell,L1.cell0,L1.cells,L1.cells0,L1.store,L1.store0,L1.len,L2.cell,L2.cell0,L2.cells,L2.cells0,L2.store,L2.store0,L2.len]
      have hx:exec k pc i r s.g=⟨pc+1,r.set A y,{ s.g with queue:=s.g.queue.set B q },{ e with obj:=B,value:=y,mode:=1 }⟩:=by
        obtain ⟨op,a,b',c⟩:=i;obtain ⟨e1,e2,e3,e4,e5,e6⟩:=e;simp only at o hA hB he hqq hz;subst o; subst hA; subst hB;obtain ⟨rfl,rfl,rfl,rfl,rfl⟩:=he;simp only [exec,qCn,sI,← hqq,Int.toNat_natCast,if_true,if_false]
      rw [hx] at hk;have kb:∀ j,(∀ m,rid (v m)≠some j)→H2[j]?=h[j]?:=fun j hj=>by rw [kb2 j hj,kb1 j hj]
      obtain ⟨f1,f2⟩:=fin_q (p:=p) (rs:=[bx (cS p s v) 19,bx (vIns i) 4,bx (vEv { e with obj:=B,value:=y,mode:=1 }) 6,bx (cS p s v) 19,bx (vEv { e with obj:=B,value:=y,mode:=1 }) 6]) (e':={ e with obj:=B,value:=y,mode:=1 }) (s:=s) (k:=k) (r:=r) (r':=r.set A y) (B:=B) (q:=q) (w:=w) hb hl2 kb O2 hr hq (fun j h1 h2=>by rw [qAz h2,qAz h1]) (by rw [qAz (by omega),qBt]) (by rw [qBt,ew,hkr,List.map_set]) (fun H'' O''=>hw H'' _ O'' (by rw [qAz (by omega),qAz (by omega)]))
      exact hk v _ f1 O.like f2
  . -- Poll
    have wb:=w1 (w:=9) (by rw [o]; rfl) (by decide) rfl
    have hq:=qSn (q:=s.g.queue) wb.1 (by rw [hs.queue]; exact wb.2)
    have hbq:i.b < s.g.queue.length:=by rw [hs.queue]; exact wb.2
    obtain ⟨B,hB⟩:∃ B:Nat,i.b=B:=⟨i.b.toNat,by omega⟩
    obtain ⟨q,hqq⟩:∃ q,q=gL s.g.queue i.b:=⟨_,rfl⟩;rw [← hqq,hB,show ((B:Int)).toNat=B by omega] at hq
    have hBl:=(List.getElem?_eq_some_iff.1 hq).1;obtain ⟨B',hB',hcz,_,hcl⟩:=qFm (l:=s.g.closed) wb.1 (by rw [hs.closed]; exact wb.2)
    obtain ⟨z,hz⟩:∃ z,z=gI s.g.closed i.b:=⟨_,rfl⟩;obtain rfl:B=B':=by omega
    rw [← hz] at hcl;have wq:want s v (17+2 * B)=q.map vI:=by rw [qGy,hq]; rfl
    obtain ⟨ib,lb⟩:=O.get 6 (i:=B) (x:=v (17+2 * B)) (by rw [qGz]; simp [hBl])
    obtain ⟨iz,lz⟩:=O.get 7 (i:=B) (x:=vI z) (by rw [qRq,List.getElem?_map,hcl]; rfl)
    have lq:=O.len (17+2 * B);rw [wq,List.length_map] at lq;have ia:=O.idx (16+2 * k) (i:=A) (by rw [hkr]; simpa using hAr)
    obtain ⟨C,hC,hCr⟩:=reg i.c (w2 (.inl (by rw [o]; rfl)))
    have ic:=O.idx (16+2 * k) (i:=C) (by rw [hkr]; simpa using hCr)
    have sv:=O.stay (16+2 * k);cases q with
    | nil =>
      obtain ⟨H1,t1,hl1,L1,O1,kb1⟩:=O.put rfl (16+2 * k) (i:=A) (x:=vI 0) (by rw [hkr]; simpa using hAr) rfl
      rw [up_r hr] at O1;obtain ⟨H2,t2,hl2,L2,O2,kb2⟩:=O1.put hl1 (16+2 * k) (i:=C) (x:=vI 0) (by rw [qEj]; simp [hkl,hCr]) rfl
      rw [up_r (s:={ s with r:=s.r.set k (r.set A 0) }) (r:=r.set A 0) (by simp [hkl])] at O2
      simp only [List.set_set] at O2;have kb:∀ j,(∀ m,rid (v m)≠some j)→H2[j]?=h[j]?:=fun j hj=>by rw [kb2 j hj,kb1 j hj]
      by_cases hz1:z=1
      . simp [qAk,qAn,qAl,qAi,qAf,qAe,qAb,qAc,qAa,qAj,qAg,qAd,qAu,qAv,resV,retV,qAm,qAh,qAt,qAs,qAr,qAq,qEr,-qAo,qBa,qAw,qBe,vS_0,vS_1,vS_2,vS_3,vS_4,vS_5,vS_6,vS_7,vS_8,vS_9,qBp,qBo,qBn,qBm,qBl,qBk,qBj,qBi,qBh,qBb,qAx,qAp,vN_0,vN_1,vN_2,vN_3,qBw,qBr,qBf,qDe,qDd,qDc,qDb,qDa,qCz,qCi,qCh,qCg,qCf,qCe,qCd,qCc,qCb,qCa,qBy,qBz,qBc,qBs,qBg,vE_0,vE_1,vE_2,vE_3,vE_4,vE_5,qDi,qDh,qDg,qBd,qDj,hcs,o,he.2.2.2.1,he.2.2.2.2,ik,lk,hA,hB,ib,lb,iz,lz,ia,lq,t1,L1.cell,L1.cell0,L1.cells,L1.cells0,L1.store,L1.store0,L1.len,hC,ic,t2,numI,L2.cell,L2.cell0,L2.cells,L2.cells0,L2.store,L2.store0,L2.len,hz1]
        refine qCq ?_;simp [qAk,qAn,qAl,qAi,qAf,qAe,qAb,qAc,qAa,qAj,qAg,qAd,qAu,qAv,resV,retV,qAm,qAh,qAt,qAs,qAr,qAq,callK_def,-qAo,qBa,qAw,qBe,vS_0,vS_1,vS_2,vS_3,vS_4,vS_5,vS_6,vS_7,vS_8,vS_9,qBp,qBo,qBn,qBm,qBl,qBk,qBj,qBi,qBh,qBb,qAx,qAp,vN_0,vN_1,vN_2,vN_3,qBw,qBr,qBf,qDe,qDd,qDc,qDb,qDa,qCz,qCi,qCh,qCg,qCf,qCe,qCd,qCc,qCb,qCa,qBy,qBz,qBc,qBs,qBg,vE_0,vE_1,vE_2,vE_3,vE_4,vE_5,qDi,qDh,qDg,qBd,qDj,hcs,o,he.2.2.2.1,he.2.2.2.2,ik,lk,hA,hB,ib,lb,iz,lz,ia,lq,t1,L1.cell,L1.cell0,L1.cells,L1.cells0,L1.store,L1.store0,L1.len,hC,ic,t2,numI,L2.cell,L2.cell0,L2.cells,L2.cells0,L2.store,L2.store0,L2.len,hz1]
        have hx:exec k pc i r s.g=⟨pc+1,(r.set A 0).set C 0,s.g,{ e with obj:=B,value:=0,mode:=2 }⟩:=by
          obtain ⟨op,a,b',c⟩:=i;obtain ⟨e1,e2,e3,e4,e5,e6⟩:=e;simp only at o hA hB he hqq hz hC;subst o; subst hA; subst hB; subst hC;obtain ⟨rfl,rfl,rfl,rfl,rfl⟩:=he;simp only [exec,qCn,sI,← hqq,← hz,hz1,Int.toNat_natCast,if_true,if_false]
        rw [hx] at hk;obtain ⟨f1,f2⟩:=qDk (p:=p) (rs:=[bx (cS p s v) 19,bx (vIns i) 4,bx (vEv { e with obj:=B,value:=0,mode:=2 }) 6,bx (cS p s v) 19,bx (vEv { e with obj:=B,value:=0,mode:=2 }) 6]) (e':={ e with obj:=B,value:=0,mode:=2 }) hb hl2 kb O2;exact hk v _ f1 O.like f2
      . simp [qAk,qAn,qAl,qAi,qAf,qAe,qAb,qAc,qAa,qAj,qAg,qAd,qAu,qAv,resV,retV,qAm,qAh,qAt,qAs,qAr,qAq,qEr,-qAo,qBa,qAw,qBe,vS_0,vS_1,vS_2,vS_3,vS_4,vS_5,vS_6,vS_7,vS_8,vS_9,qBp,qBo,qBn,qBm,qBl,qBk,qBj,qBi,qBh,qBb,qAx,qAp,vN_0,vN_1,vN_2,vN_3,qBw,qBr,qBf,qDe,qDd,qDc,qDb,qDa,qCz,qCi,qCh,qCg,qCf,qCe,qCd,qCc,qCb,qCa,qBy,qBz,qBc,qBs,qBg,vE_0,vE_1,vE_2,vE_3,vE_4,vE_5,qDi,qDh,qDg,qBd,qDj,hcs,o,he.2.2.2.1,he.2.2.2.2,ik,lk,hA,hB,ib,lb,iz,lz,ia,lq,t1,L1.cell,L1.cell0,L1.cells,L1.cells0,L1.store,L1.store0,L1.len,hC,ic,t2,numI,L2.cell,L2.cell0,L2.cells,L2.cells0,L2.store,L2.store0,L2.len,hz1]
        refine qCq ?_;simp [qAk,qAn,qAl,qAi,qAf,qAe,qAb,qAc,qAa,qAj,qAg,qAd,qAu,qAv,resV,retV,qAm,qAh,qAt,qAs,qAr,qAq,callK_def,-qAo,qBa,qAw,qBe,vS_0,vS_1,vS_2,vS_3,vS_4,vS_5,vS_6,vS_7,vS_8,vS_9,qBp,qBo,qBn,qBm,qBl,qBk,qBj,qBi,qBh,qBb,qAx,qAp,vN_0,vN_1,vN_2,vN_3,qBw,qBr,qBf,qDe,qDd,qDc,qDb,qDa,qCz,qCi,qCh,qCg,qCf,qCe,qCd,qCc,qCb,qCa,qBy,qBz,qBc,qBs,qBg,vE_0,vE_1,vE_2,vE_3,vE_4,vE_5,qDi,qDh,qDg,qBd,qDj,hcs,o,he.2.2.2.1,he.2.2.2.2,ik,lk,hA,hB,ib,lb,iz,lz,ia,lq,t1,L1.cell,L1.cell0,L1.cells,L1.cells0,L1.store,L1.store0,L1.len,hC,ic,t2,numI,L2.cell,L2.cell0,L2.cells,L2.cells0,L2.store,L2.store0,L2.len,hz1]
        have hx:exec k pc i r s.g=⟨pc+1,(r.set A 0).set C 0,s.g,{ e with obj:=B,value:=0,mode:=0 }⟩:=by
          obtain ⟨op,a,b',c⟩:=i;obtain ⟨e1,e2,e3,e4,e5,e6⟩:=e;simp only at o hA hB he hqq hz hC;subst o; subst hA; subst hB; subst hC;obtain ⟨rfl,rfl,rfl,rfl,rfl⟩:=he;simp only [exec,qCn,sI,← hqq,← hz,hz1,Int.toNat_natCast,if_true,if_false]
        rw [hx] at hk;obtain ⟨f1,f2⟩:=qDk (p:=p) (rs:=[bx (cS p s v) 19,bx (vIns i) 4,bx (vEv { e with obj:=B,value:=0,mode:=0 }) 6,bx (cS p s v) 19,bx (vEv { e with obj:=B,value:=0,mode:=0 }) 6]) (e':={ e with obj:=B,value:=0,mode:=0 }) hb hl2 kb O2;exact hk v _ f1 O.like f2
    | cons y q =>
      have hql:(0:Int) < ((y :: q).length:Nat):=by simp
      obtain ⟨i0,l0⟩:=O.get (17+2 * B) (i:=0) (x:=vI y) (by rw [wq]; rfl)
      have i0:qIf 1 (v (17+2 * B)) (.int .i64 0)=some (ptrO (v (17+2 * B)) 0):=i0;obtain ⟨w,cw,kw,hw⟩:=O.cut (17+2 * B) wq;obtain ⟨H1,t1,hl1,L1,O1,kb1⟩:=O.put rfl 6 (i:=B) (x:=w) (by rw [qGz]; simpa using hBl) kw
      have ew:∀ m:Nat,fset (want s v) 6 ((want s v 6).set B w) (16+2 * m)=want s v (16+2 * m):=fun m=>qAz (by omega)
      obtain ⟨H2,t2,hl2,L2,O2,kb2⟩:=O1.put hl1 (16+2 * k) (i:=A) (x:=vI y) (by rw [ew,hkr]; simpa using hAr) rfl
      obtain ⟨H3,t3,hl3,L3,O3,kb3⟩:=O2.put hl2 (16+2 * k) (i:=C) (x:=vI 1) (by rw [qBt,ew,hkr]; simpa using hCr) rfl
      simp [qAk,qAn,qAl,qAi,qAf,qAe,qAb,qAc,qAa,qAj,qAg,qAd,qAu,qAv,resV,retV,qAm,qAh,qAt,qAs,qAr,qAq,qEr,-qAo,qBa,qAw,qBe,vS_0,vS_1,vS_2,vS_3,vS_4,vS_5,vS_6,vS_7,vS_8,vS_9,qBp,qBo,qBn,qBm,qBl,qBk,qBj,qBi,qBh,qBb,qAx,qAp,vN_0,vN_1,vN_2,vN_3,qBw,qBr,qBf,qDe,qDd,qDc,qDb,qDa,qCz,qCi,qCh,qCg,qCf,qCe,qCd,qCc,qCb,qCa,qBy,qBz,qBc,qBs,qBg,vE_0,vE_1,vE_2,vE_3,vE_4,vE_5,qDi,qDh,qDg,qBd,qDj,hcs,o,he.2.2.2.1,he.2.2.2.2,ik,lk,hA,hB,ib,lb,iz,lz,ia,lq,hql,i0,l0,cw,kw,t1,t2,L1.cell,L1.cell0,L1.cells,L1.cells0,L1.store,L1.store0,L1.len,L2.cell,L2.cell0,L2.cells,L2.cells0,L2.store,L2.store0,L2.len,hC,ic,t3,numI,L3.cell,L3.cell0,L3.cells,L3.cells0,L3.store,L3.store0,L3.len]
      refine qCq ?_;simp [qAk,qAn,qAl,qAi,qAf,qAe,qAb,qAc,qAa,qAj,qAg,qAd,qAu,qAv,resV,retV,qAm,qAh,qAt,qAs,qAr,qAq,callK_def,-qAo,qBa,qAw,qBe,vS_0,vS_1,vS_2,vS_3,vS_4,vS_5,vS_6,vS_7,vS_8,vS_9,qBp,qBo,qBn,qBm,qBl,qBk,qBj,qBi,qBh,qBb,qAx,qAp,vN_0,vN_1,vN_2,vN_3,qBw,qBr,qBf,qDe,qDd,qDc,qDb,qDa,qCz,qCi,qCh,qCg,qCf,qCe,qCd,qCc,qCb,qCa,qBy,qBz,qBc,qBs,qBg,vE_0,vE_1,vE_2,vE_3,vE_4,vE_5,qDi,qDh,qDg,qBd,qDj,hcs,o,he.2.2.2.1,he.2.2.2.2,ik,lk,hA,hB,ib,lb,iz,lz,ia,lq,hql,i0,l0,cw,kw,t1,t2,L1.cell,L1.cell0,L1.cells,L1.cells0,L1.store,L1.store0,L1.len,L2.cell,L2.cell0,L2.cells,L2.cells0,L2.store,L2.store0,L2.len,hC,ic,t3,numI,L3.cell,L3.cell0,L3.cells,L3.cells0,L3.store,L3.store0,L3.len]
      have hx:exec k pc i r s.g=⟨pc+1,(r.set A y).set C 1,{ s.g with queue:=s.g.queue.set B q },{ e with obj:=B,value:=y,mode:=1 }⟩:=by
        obtain ⟨op,a,b',c⟩:=i;obtain ⟨e1,e2,e3,e4,e5,e6⟩:=e;simp only at o hA hB he hqq hz hC;subst o; subst hA; subst hB; subst hC;obtain ⟨rfl,rfl,rfl,rfl,rfl⟩:=he;simp only [exec,qCn,sI,← hqq,Int.toNat_natCast,if_true,if_false]
      rw [hx] at hk;have kb:∀ j,(∀ m,rid (v m)≠some j)→H3[j]?=h[j]?:=fun j hj=>by rw [kb3 j hj,kb2 j hj,kb1 j hj]
      obtain ⟨f1,f2⟩:=fin_q (p:=p) (rs:=[bx (cS p s v) 19,bx (vIns i) 4,bx (vEv { e with obj:=B,value:=y,mode:=1 }) 6,bx (cS p s v) 19,bx (vEv { e with obj:=B,value:=y,mode:=1 }) 6]) (e':={ e with obj:=B,value:=y,mode:=1 }) (s:=s) (k:=k) (r:=r) (r':=(r.set A y).set C 1) (B:=B) (q:=q) (w:=w) hb hl3 kb O3 hr hq (fun j h1 h2=>by rw [qAz h2,qAz h2,qAz h1]) (by rw [qAz (by omega),qAz (by omega),qBt]) (by rw [qBt,qBt,ew,hkr,List.map_set,List.map_set]) (fun H'' O''=>hw H'' _ O'' (by rw [qAz (by omega),qAz (by omega),qAz (by omega)]))
      exact hk v _ f1 O.like f2
  . -- Begin
    obtain ⟨B,hB,_,hBl,hBy⟩:=qFm (l:=s.g.onces) (w1 (w:=11) (by rw [o]; rfl) (by decide) rfl).1 (by rw [hs.onces]; exact (w1 (w:=11) (by rw [o]; rfl) (by decide) rfl).2)
    obtain ⟨y,hy⟩:∃ y,y=gI s.g.onces i.b:=⟨_,rfl⟩;rw [← hy] at hBy;obtain ⟨ib,lb⟩:=O.get 9 (i:=B) (x:=vI y) (by rw [qTb,List.getElem?_map,hBy]; rfl)
    have ia:=O.idx (16+2 * k) (i:=A) (by rw [hkr]; simpa using hAr)
    by_cases hy0:y=0
    . obtain ⟨H1,t1,hl1,L1,O1,kb1⟩:=O.put rfl 9 (i:=B) (x:=vI 1) (by rw [qTb]; simpa using hBl) rfl
      rw [up_9] at O1;obtain ⟨H2,t2,hl2,L2,O2,kb2⟩:=O1.put hl1 (16+2 * k) (i:=A) (x:=vI 1) (by rw [qEj]; simp [hr,hAr]) rfl
      rw [up_r (s:={ s with g:={ s.g with onces:=s.g.onces.set B 1 } }) hr] at O2;simp [qAk,qAn,qAl,qAi,qAf,qAe,qAb,qAc,qAa,qAj,qAg,qAd,qAu,qAv,resV,retV,qAm,qAh,qAt,qAs,qAr,qAq,qEr,-qAo,qBa,qAw,qBe,vS_0,vS_1,vS_2,vS_3,vS_4,vS_5,vS_6,vS_7,vS_8,vS_9,qBp,qBo,qBn,qBm,qBl,qBk,qBj,qBi,qBh,qBb,qAx,qAp,vN_0,vN_1,vN_2,vN_3,qBw,qBr,qBf,qDe,qDd,qDc,qDb,qDa,qCz,qCi,qCh,qCg,qCf,qCe,qCd,qCc,qCb,qCa,qBy,qBz,qBc,qBs,qBg,vE_0,vE_1,vE_2,vE_3,vE_4,vE_5,qDi,qDh,qDg,qBd,qDj,hcs,o,ik,lk,hA,hB,ib,lb,ia,t1,t2,hy0,L1.cell,L1.cell0,L1.cells,L1.cells0,L1.store,L1.store0,L1.len,L2.cell,L2.cell0,L2.cells,L2.cells0,L2.store,L2.store0,L2.len]
      refine qCq ?_;simp [qAk,qAn,qAl,qAi,qAf,qAe,qAb,qAc,qAa,qAj,qAg,qAd,qAu,qAv,resV,retV,qAm,qAh,qAt,qAs,qAr,qAq,callK_def,-qAo,qBa,qAw,qBe,vS_0,vS_1,vS_2,vS_3,vS_4,vS_5,vS_6,vS_7,vS_8,vS_9,qBp,qBo,qBn,qBm,qBl,qBk,qBj,qBi,qBh,qBb,qAx,qAp,vN_0,vN_1,vN_2,vN_3,qBw,qBr,qBf,qDe,qDd,qDc,qDb,qDa,qCz,qCi,qCh,qCg,qCf,qCe,qCd,qCc,qCb,qCa,qBy,qBz,qBc,qBs,qBg,vE_0,vE_1,vE_2,vE_3,vE_4,vE_5,qDi,qDh,qDg,qBd,qDj,hcs,o,ik,lk,hA,hB,ib,lb,ia,t1,t2,hy0,numI,L1.cell,L1.cell0,L1.cells,L1.cells0,L1.store,L1.store0,L1.len,L2.cell,L2.cell0,L2.cells,L2.cells0,L2.store,L2.store0,L2.len]
      have hx:exec k pc i r s.g=⟨pc+1,r.set A 1,{ s.g with onces:=s.g.onces.set B 1 },{ e with obj:=B,mode:=1 }⟩:=by
        obtain ⟨op,a,b',c⟩:=i;obtain ⟨e1,e2,e3,e4,e5,e6⟩:=e;simp only at o hA hB he hy;subst o; subst hA; subst hB; subst hy0;obtain ⟨rfl,rfl,rfl,rfl,rfl⟩:=he;simp only [exec,qCn,sI,← hy,Int.toNat_natCast,if_true,if_false]
      rw [hx] at hk;have kb:∀ j,(∀ m,rid (v m)≠some j)→H2[j]?=h[j]?:=fun j hj=>by rw [kb2 j hj,kb1 j hj]
      obtain ⟨f1,f2⟩:=qDk (p:=p) (rs:=[bx (cS p s v) 19,bx (vIns i) 4,bx (vEv { e with obj:=B,mode:=1 }) 6,bx (cS p s v) 19,bx (vEv { e with obj:=B,mode:=1 }) 6]) (e':={ e with obj:=B,mode:=1 }) hb hl2 kb O2;exact hk v _ f1 O.like f2
    . obtain ⟨H1,t1,hl1,L1,O1,kb1⟩:=O.put rfl (16+2 * k) (i:=A) (x:=vI 0) (by rw [hkr]; simpa using hAr) rfl
      rw [up_r hr] at O1;simp [qAk,qAn,qAl,qAi,qAf,qAe,qAb,qAc,qAa,qAj,qAg,qAd,qAu,qAv,resV,retV,qAm,qAh,qAt,qAs,qAr,qAq,qEr,-qAo,qBa,qAw,qBe,vS_0,vS_1,vS_2,vS_3,vS_4,vS_5,vS_6,vS_7,vS_8,vS_9,qBp,qBo,qBn,qBm,qBl,qBk,qBj,qBi,qBh,qBb,qAx,qAp,vN_0,vN_1,vN_2,vN_3,qBw,qBr,qBf,qDe,qDd,qDc,qDb,qDa,qCz,qCi,qCh,qCg,qCf,qCe,qCd,qCc,qCb,qCa,qBy,qBz,qBc,qBs,qBg,vE_0,vE_1,vE_2,vE_3,vE_4,vE_5,qDi,qDh,qDg,qBd,qDj,hcs,o,ik,lk,hA,hB,ib,lb,ia,t1,hy0,L1.cell,L1.cell0,L1.cells,L1.cells0,L1.store,L1.store0,L1.len]
      refine qCq ?_;simp [qAk,qAn,qAl,qAi,qAf,qAe,qAb,qAc,qAa,qAj,qAg,qAd,qAu,qAv,resV,retV,qAm,qAh,qAt,qAs,qAr,qAq,callK_def,-qAo,qBa,qAw,qBe,vS_0,vS_1,vS_2,vS_3,vS_4,vS_5,vS_6,vS_7,vS_8,vS_9,qBp,qBo,qBn,qBm,qBl,qBk,qBj,qBi,qBh,qBb,qAx,qAp,vN_0,vN_1,vN_2,vN_3,qBw,qBr,qBf,qDe,qDd,qDc,qDb,qDa,qCz,qCi,qCh,qCg,qCf,qCe,qCd,qCc,qCb,qCa,qBy,qBz,qBc,qBs,qBg,vE_0,vE_1,vE_2,vE_3,vE_4,vE_5,qDi,qDh,qDg,qBd,qDj,hcs,o,ik,lk,hA,hB,ib,lb,ia,t1,hy0,numI,L1.cell,L1.cell0,L1.cells,L1.cells0,L1.store,L1.store0,L1.len]
      have hx:exec k pc i r s.g=⟨pc+1,r.set A 0,s.g,{ e with obj:=B,mode:=0 }⟩:=by
        obtain ⟨op,a,b',c⟩:=i;obtain ⟨e1,e2,e3,e4,e5,e6⟩:=e;simp only at o hA hB he hy;subst o; subst hA; subst hB;obtain ⟨rfl,rfl,rfl,rfl,rfl⟩:=he;simp only [exec,qCn,sI,← hy,hy0,Int.toNat_natCast,if_true,if_false]
      rw [hx] at hk;obtain ⟨f1,f2⟩:=qDk (p:=p) (rs:=[bx (cS p s v) 19,bx (vIns i) 4,bx (vEv { e with obj:=B,mode:=0 }) 6,bx (cS p s v) 19,bx (vEv { e with obj:=B,mode:=0 }) 6]) (e':={ e with obj:=B,mode:=0 }) hb hl1 kb1 O1;exact hk v _ f1 O.like f2
end
end Pm
