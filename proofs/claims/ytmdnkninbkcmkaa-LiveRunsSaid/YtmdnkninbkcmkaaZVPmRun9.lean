/- The run of a program: a step, walked.
   No condition: plain lemmas. -/

import Derived.Test.YtmdnkninbkcmkaaZVPmRun8
namespace Pm
set_option linter.unusedSimpArgs false
set_option linter.unusedVariables false
open Go Am
open Go.Proofs.Try (prog)

theorem Inl.weak {b b':Nat} {H:Heap} {x y:Value} (hb:b'≤b) (hi:Inl b H x y):Inl b' H x y:=by
  induction hi with
  | cell hc=>exact .cell hc
  | nil=>exact .nil
  | row h1 hr hl hn hc ih=>exact .row (by omega) hr hl hn ih
  | agg hs hc ih=>exact .agg hs ih
  | tup hs hc ih=>exact .tup hs ih
theorem Shape.adv {p:Prog} {s:MS} (hs:Shape p s) {n i:Nat} {t:List Ins} (ht:p.threads[n]?=some t) (hi:i < t.length):Shape p { s with at_:=s.at_.set n ((i:Int)+1) }:=by
  refine ⟨by simp [hs.at_],hs.r,hs.r4,fun m a t' h1 h2=>?_,hs.began,hs.vars,hs.atoms,hs.locks,hs.groups,hs.onces,hs.queue,hs.closed,hs.room⟩
  simp only at h1;rw [List.getElem?_set] at h1
  split at h1
  . rename_i e
    subst e
    split at h1
    . cases h1
      rw [ht] at h2; cases h2;omega
    . cases h1
  . exact hs.pc m a t' h1 h2
theorem Shape.short {p:Prog} {s:MS} (hp:SoundP p) (hs:Shape p s):∀ l∈s.g.queue,l.length < lim:=by
  intro l hl;obtain ⟨j,hj⟩:=List.mem_iff_getElem?.1 hl;have h1:=hs.room j l hj;have hlt:=(List.getElem?_eq_some_iff.1 hj).1;rw [hs.queue] at hlt;have h2:=hp.chan _ (List.getElem_mem hlt);have hg:gI p.chans j=p.chans[j]:=by unfold gI; rw [show ((j:Int)).toNat=j by omega,List.getElem?_eq_getElem hlt]; rfl
  have hlim:lim=1048576:=rfl;omega
theorem acc_ld {b i:Nat} {H:Heap} {x:Value} {cs:List Value} (ha:Acc 1 b H x cs.length cs) (hi:i < cs.length) (rs:List Ob):pLd (H++rs) (ptrO x i)=cs[i]?:=by
  rcases ha with ⟨h1,h2,h3⟩ | ⟨id,ver,h1,h2,h3,h4⟩
  . rw [h3] at hi; simp at hi
  . have hl:=(List.getElem?_eq_some_iff.1 h3).1
    rw [h1];simp [pLd,qEs,ptrO,ldV,Heap.cell?,Heap.row?,List.getElem?_append_left hl,h3]
theorem sync_pc {c:Ins} (h:c.op=0∨12≤c.op) (h27:c.op≤27) {k pc:Int} {r:List Int} {g:G}:(exec k pc c r g).pc=pc+1:=by
  obtain ⟨op,a,b,d⟩:=c;simp only at h h27;rcases qOg h27 with rfl | rfl | rfl | rfl | rfl | rfl | rfl | rfl | rfl | rfl | rfl | rfl | rfl | rfl | rfl | rfl | rfl | rfl | rfl | rfl | rfl | rfl | rfl | rfl | rfl | rfl | rfl | rfl
  all_goals first
    | omega
    | rfl
    | (simp only [exec,qCn]; split<;>rfl)
theorem qKf {b:Nat} {H2 H'':Heap} {rs:List Ob} {p:Prog} {S:MS} {v:Nat→Value} (O2:Owns b H2 v (want S v)) (ha:∀ m o,b≤m→(H2++rs)[m]?=some o→H''[m]?=some o):Inl b H'' (.agg (cS p S v).toArray) (.agg (vSt p S).toArray):=by
  refine inlS (O2.keepO fun i m hi=>?_)
  have h1:=(O2.acc m).lt hi;have h2:b≤i:=Nat.le_of_not_lt fun hlt=>O2.low hlt m hi
  have h3:H2[i]?=some H2[i]:=List.getElem?_eq_getElem h1;rw [ha i _ h2 (by rw [List.getElem?_append_left h1]; exact h3),h3]
theorem step_end {p:Prog} {H2:Heap} {b4:Nat} (r4:RowV H2 b4 0 19 [.int .i64 0,.int .i64 0,.int .i64 0,.slice none 0 0,.int .i64 0,.int .i64 0,.slice none 0 0,.slice none 0 0,.slice none 0 0,.slice none 0 0,.slice none 0 0,.slice none 0 0,.slice none 0 0,.slice none 0 0,.slice none 0 0,.slice none 0 0,.slice none 0 0,.slice none 0 0,.int .i64 0]) (r5:RowV H2 (b4+1) 0 6 [.int .i64 0,.int .i64 0,.int .u8 0,.int .i64 0,.int .i64 0,.int .i64 0]) (rs:List Ob) {S:MS} {v:Nat→Value} (E:Ev) (hv:∀ j,cellLike (v j)=true) :
    ∃ H3 H4,qCm (H2++rs) 19 (.pointer (some ⟨b4,0,some 0⟩)) (.agg (cS p S v).toArray)=some (H3++rs)∧qCm (H3++rs) 6 (.pointer (some ⟨b4+1,0,some 0⟩)) (.agg (vEv E).toArray)=some (H4++rs) ∧
      Heap.cells? (H4++rs) b4 0 0 19=some (cS p S v)∧Heap.cells? (H4++rs) (b4+1) 0 0 6=some (vEv E)∧H3.length=H2.length∧H4.length=H2.length∧∀ i,i≠b4→i≠b4+1→H4[i]?=H2[i]?:=by
  have st:∀ {H:Heap} {k n:Nat} {z cs:List Value},RowV H k 0 n z→z.length=n→cs.length=n→cs.all cellLike=true→qCm (H++rs) n (.pointer (some ⟨k,0,some 0⟩)) (.agg cs.toArray)=some (H.set k (.row ⟨cs,n,0,true⟩)++rs):=by
    intro H k n z cs hr hz hc hl;have hk:=hr.lt;have h1:setAll z 0 cs=cs:=qHf (by omega)
    have hr':H[k]?=some (.row ⟨z,n,0,true⟩):=hr;simp only [qCm,qAo,hl,if_true,Heap.row?,List.getElem?_append_left hk,hr'];rw [if_pos ⟨trivial,hc,by omega⟩,h1,List.set_append_left _ _ hk]
  have hk4:=r4.lt;have hk5:=r5.lt;have r5':RowV (H2.set b4 (.row ⟨cS p S v,19,0,true⟩)) (b4+1) 0 6 [.int .i64 0,.int .i64 0,.int .u8 0,.int .i64 0,.int .i64 0,.int .i64 0]:=by
    unfold RowV;rw [List.getElem?_set_ne (by omega)]; exact r5
  refine ⟨_,_,st r4 rfl rfl (cS_like hv),st r5' rfl rfl rfl,?_,?_,by simp,by simp,fun i h1 h2=>?_⟩
  . have:RowV ((H2.set b4 (.row ⟨cS p S v,19,0,true⟩)).set (b4+1) (.row ⟨vEv E,6,0,true⟩)++rs) b4 0 19 (cS p S v):=by
      unfold RowV;rw [List.getElem?_append_left (by simpa using hk4),List.getElem?_set_ne (by omega),List.getElem?_set_self hk4]
    exact this.cells rfl
  . have:RowV ((H2.set b4 (.row ⟨cS p S v,19,0,true⟩)).set (b4+1) (.row ⟨vEv E,6,0,true⟩)++rs) (b4+1) 0 6 (vEv E):=by
      unfold RowV;rw [List.getElem?_append_left (by simpa using hk5),List.getElem?_set_self (by simpa using hk5)]
    exact this.cells rfl
  . rw [List.getElem?_set_ne (by omega),List.getElem?_set_ne (by omega)]
section
variable {h : Heap} {K : Value → Heap → Prop}
set_option maxHeartbeats 16000000 in
theorem qLg {p:Prog} {s:MS} {k:Int} (hp:SoundP p) (hs:Shape p s) (ht:s.g.told.length < lim) (hk:K (.tuple #[.agg (vSt p (qIo p s k).1).toArray,.agg (vEv (qIo p s k).2.1).toArray,.bool (qIo p s k).2.2]) h):qBu prog 16 [.agg (vSt p s).toArray,vI k] h K:=by
  refine qBu.forget ?_;refine call_r4Step (by simp) ?_
  have hlim:lim=1048576:=rfl;simp [qAk,qAn,qAl,qAi,qAf,qAe,qAb,qAc,qAa,qAj,qAg,qAd,qAu,qAv,resV,retV,qAm,qAh,qAt,qAs,qAr,qAq,qQz,-qAo,qBa,qAw,qBe,vS_0,vS_1,vS_2,vS_3,vS_4,vS_5,vS_6,vS_7,vS_8,vS_9,qBp,qBo,qBn,qBm,qBl,qBk,qBj,qBi,qBh,qBb,qAx,qAp,vN_0,vN_1,vN_2,vN_3];refine r4Can_call hp hs ?_;cases hc:canM p s k with
  | false =>
    rw [qNo hc] at hk;have hz:cellsOf (.agg #[.int .i64 0,.int .i64 0,.int .u8 0,.int .i64 0,.int .i64 0,.int .i64 0])=some [.int .i64 0,.int .i64 0,.int .u8 0,.int .i64 0,.int .i64 0,.int .i64 0]:=rfl;have hw:∀ z:List Value,z.length=19→setAll z 0 (vSt p s)=vSt p s:=fun z h=>qHf (by rw [qBa,h])
    simp [qAk,qAn,qAl,qAi,qAf,qAe,qAb,qAc,qAa,qAj,qAg,qAd,qAu,qAv,resV,retV,qAm,qAh,qAt,qAs,qAr,qAq,callK_def,-qAo,qBa,qAw,qBe,vS_0,vS_1,vS_2,vS_3,vS_4,vS_5,vS_6,vS_7,vS_8,vS_9,qBp,qBo,qBn,qBm,qBl,qBk,qBj,qBi,qBh,qBb,qAx,qAp,vN_0,vN_1,vN_2,vN_3,hz,hw];exact ⟨_,Inls.tup (xs:=[.agg (vSt p s).toArray,.agg (vEv ev0).toArray,.bool false]) (ys:=[.agg (vSt p s).toArray,.agg (vEv ev0).toArray,.bool false]) ⟨Inl.self vSt_closed,Inl.self qMh,.cell rfl,trivial⟩,hk⟩
  | true =>
    obtain ⟨n,t,i,c,r,rfl,A,hb,e⟩:=hs.at' hp hc;rw [e] at hk;simp [qAk,qAn,qAl,qAi,qAf,qAe,qAb,qAc,qAa,qAj,qAg,qAd,qAu,qAv,resV,retV,qAm,qAh,qAt,qAs,qAr,qAq,callK_def,-qAo,qBa,qAw,qBe,vS_0,vS_1,vS_2,vS_3,vS_4,vS_5,vS_6,vS_7,vS_8,vS_9,qBp,qBo,qBn,qBm,qBl,qBk,qBj,qBi,qBh,qBb,qAx,qAp,vN_0,vN_1,vN_2,vN_3];have hsh:=hs.short hp;have hv8:=hp.vars; have ha4:=hp.atoms; have hl4:=hp.locks; have hg4:=hp.groups; have ho4:=hp.onces
    unfold In4 at ha4 hl4 hg4 ho4;have q1:=hs.vars; have q2:=hs.atoms; have q3:=hs.locks; have q4:=hs.groups; have q5:=hs.onces;refine r4Copy_call hs (by omega) (fun l hl=>by have:=hsh l hl; omega) ⟨hp.threads.2,hp.chans⟩ ⟨by omega,by omega,by omega,by omega,by omega⟩ fun v g O=>?_
    obtain ⟨H,hH⟩:∃ H,H=(h++[bx (vSt p s) 19,bx [.int .i64 0,.int .i64 0,.int .i64 0,.slice none 0 0,.int .i64 0,.int .i64 0,.slice none 0 0,.slice none 0 0,.slice none 0 0,.slice none 0 0,.slice none 0 0,.slice none 0 0,.slice none 0 0,.slice none 0 0,.slice none 0 0,.slice none 0 0,.slice none 0 0,.slice none 0 0,.int .i64 0] 19,bx [.int .i64 0,.int .i64 0,.int .u8 0,.int .i64 0,.int .i64 0,.int .i64 0] 6])++g:=⟨_,rfl⟩
    rw [← hH] at O ⊢;have hHl:h.length+3≤H.length:=by rw [hH]; simp
    have hb3:(h++[bx (vSt p s) 19,bx [.int .i64 0,.int .i64 0,.int .i64 0,.slice none 0 0,.int .i64 0,.int .i64 0,.slice none 0 0,.slice none 0 0,.slice none 0 0,.slice none 0 0,.slice none 0 0,.slice none 0 0,.slice none 0 0,.slice none 0 0,.slice none 0 0,.slice none 0 0,.slice none 0 0,.slice none 0 0,.int .i64 0] 19,bx [.int .i64 0,.int .i64 0,.int .u8 0,.int .i64 0,.int .i64 0,.int .i64 0] 6]).length=h.length+3:=by simp
    rw [hb3] at O;have r4:RowV H (h.length+1) 0 19 [.int .i64 0,.int .i64 0,.int .i64 0,.slice none 0 0,.int .i64 0,.int .i64 0,.slice none 0 0,.slice none 0 0,.slice none 0 0,.slice none 0 0,.slice none 0 0,.slice none 0 0,.slice none 0 0,.slice none 0 0,.slice none 0 0,.slice none 0 0,.slice none 0 0,.slice none 0 0,.int .i64 0]:=by
      unfold RowV;rw [hH,List.append_assoc,List.getElem?_append_right (by omega),Nat.add_sub_cancel_left]
      rfl
    have r5:RowV H (h.length+2) 0 6 [.int .i64 0,.int .i64 0,.int .u8 0,.int .i64 0,.int .i64 0,.int .i64 0]:=by
      unfold RowV;rw [hH,List.append_assoc,List.getElem?_append_right (by omega),Nat.add_sub_cancel_left]
      rfl
    have rh:∀ m,m < h.length→H[m]?=h[m]?:=fun m hm=>by rw [hH,List.append_assoc,List.getElem?_append_left hm]
    clear hH hb3;obtain ⟨L,hL⟩:∃ L,L=H.length:=⟨_,rfl⟩;have hc0:=qRn (p:=p) (s:=s) (v:=v) O.like;have hnp:n < p.threads.length:=(List.getElem?_eq_some_iff.1 A.thr).1;have hnpI:(n:Int) < p.threads.length:=by omega
    have hit:i < t.length:=(List.getElem?_eq_some_iff.1 A.ins).1;have hitI:(i:Int) < t.length:=by omega
    have hnr:n < s.r.length:=(List.getElem?_eq_some_iff.1 A.regs).1;have hna:n < s.at_.length:=(List.getElem?_eq_some_iff.1 A.pc).1;have htl:=(hp.code t (List.mem_of_getElem? A.thr)).1;have Athr:=A.thr;have Ains:=A.ins;obtain ⟨i0,l0⟩:=O.get 0 (i:=n) (x:=vI i) (by rw [qPo,List.getElem?_map,A.pc]; rfl)
    have wi:IntKind.i64.wrap ((i:Int)+1)=(i:Int)+1:=qCo (by omega) (by omega)
    obtain ⟨H1,t1,hl1,L1,O1,kb1⟩:=O.put rfl 0 (i:=n) (x:=vI ((i:Int)+1)) (by rw [qPo]; simpa using hna) rfl
    rw [qUt] at O1;obtain ⟨ik,lk⟩:=O1.get 2 (i:=n) (x:=v (16+2 * n)) (by rw [qIg]; simp [hnr])
    obtain ⟨e0,he0⟩:∃ e0:Ev,e0=⟨n,i,c.op,0,0,0⟩:=⟨_,rfl⟩;have hE:[vI n,vI i,v8 c.op,vI 0,vI 0,vI 0]=vEv e0:=by rw [he0]; rfl
    have hz:cellsOf (.agg #[vI n,vI i,v8 c.op,.int .i64 0,.int .i64 0,.int .i64 0])=some (vEv e0):=by rw [← hE]; rfl
    simp [-qAy,qAk,qAn,qAl,qAi,qAf,qAe,qAb,qAc,qAa,qAj,qAg,qAd,qAu,qAv,resV,retV,qAm,qAh,qAt,qAs,qAr,qAq,callK_def,-qAo,qBa,qAw,qBe,vS_0,vS_1,vS_2,vS_3,vS_4,vS_5,vS_6,vS_7,vS_8,vS_9,qBp,qBo,qBn,qBm,qBl,qBk,qBj,qBi,qBh,qBb,qAx,qAp,vN_0,vN_1,vN_2,vN_3,qBw,qBr,qBf,qDe,qDd,qDc,qDb,qDa,qCz,qCi,qCh,qCg,qCf,qCe,qCd,qCc,qCb,qCa,qBy,qBz,qBc,qBs,qBg,vE_0,vE_1,vE_2,vE_3,vE_4,vE_5,qDi,qDh,qDg,qBd,qDj,hc0,Athr,Ains,hnpI,hitI,i0,l0,ik,lk,wi,hz,t1,qCv,L1.cell,L1.cell0,L1.cells,L1.cells0,L1.store,L1.store0,L1.len]
    obtain ⟨x,hxx⟩:∃ x,x=exec n i c r s.g:=⟨_,rfl⟩;rw [← hxx] at hk;have hkr:want { s with at_:=s.at_.set n ((i:Int)+1) } v (16+2 * n)=r.map vI:=by rw [qEj,A.regs]; rfl
    have reg:∀ y:Int,0≤y∧y < 4→∃ B:Nat,y=B∧B < r.length∧r[B]?=some (gI r y):=fun y hy=>by
      obtain ⟨B,h1,_,h2,h3⟩:=qFm (l:=r) hy.1 (by rw [A.r4]; omega)
      exact ⟨B,h1,h2,h3⟩
    have regd:qCp c.op 0=2∨qCp c.op 0=3→0≤c.a∧c.a < 4:=fun h1=>A.ok.reg (k:=0) (by omega) rfl h1
    have regb:qCp c.op 1=3→0≤c.b∧c.b < 4:=fun h1=>A.ok.reg (k:=1) (by omega) h1 (.inr rfl)
    have regc:qCp c.op 2=3→0≤c.c∧c.c < 4:=fun h1=>A.ok.reg (k:=2) (by omega) h1 (.inr rfl)
    have kept1:∀ m,m < h.length+3→H1[m]?=H[m]?:=fun m hm=>kb1 m (O.low hm)
    refine qTw (σ:=Heap×(Nat→Value)×Heap) (fun _=>[(4,ptr (h.length+1)),(5,ptr (h.length+2)),(7,ptr H.length),(9,ptr (H.length+2))]) (fun y=>y.1++(bx (cS p ⟨s.at_.set n x.pc,s.r.set n x.r,x.g⟩ y.2.1) 19 :: bx (vIns c) 4 :: bx (vEv x.e) 6 :: y.2.2))
      (fun y=>y.1.length=H.length∧(∀ m,m < h.length+3→y.1[m]?=H[m]?)∧(∀ j,cellLike (y.2.1 j)=true)∧∀ H'',(∀ m o,h.length+3≤m→(y.1++(bx (cS p ⟨s.at_.set n x.pc,s.r.set n x.r,x.g⟩ y.2.1) 19 :: bx (vIns c) 4 :: bx (vEv x.e) 6 :: y.2.2))[m]?=some o→H''[m]?=some o) →
        Inl (h.length+3) H'' (.agg (cS p ⟨s.at_.set n x.pc,s.r.set n x.r,x.g⟩ y.2.1).toArray) (.agg (vSt p ⟨s.at_.set n x.pc,s.r.set n x.r,x.g⟩).toArray)) ?_ ?_
    . have rset:s.r.set n r=s.r:=by
        apply List.ext_getElem?;intro j
        by_cases e:n=j
        . subst e; rw [List.getElem?_set_self hnr,A.regs]
        . rw [List.getElem?_set_ne e]
      have he0':e0.thread=n∧e0.pc=i∧e0.op=c.op∧e0.value=0∧e0.mode=0:=by rw [he0]; exact ⟨rfl,rfl,rfl,rfl,rfl⟩
      have hops:c.op=1∨c.op=2∨c.op=3∨c.op=4∨c.op=5∨c.op=6∨c.op=7∨c.op=8∨c.op=9∨c.op=10∨c.op=11∨(c.op=0∨12≤c.op):=by omega
      rcases hops with o | o | o | o | o | o | o | o | o | o | o | o
      . -- Const
        obtain ⟨A',hA,hA',hAy⟩:=reg c.a (regd (.inl (by rw [o]; rfl)))
        have ia:=O1.idx (16+2 * n) (i:=A') (by rw [hkr]; simpa using hA')
        obtain ⟨H2,t2,hl2,L2,O2,kb2⟩:=O1.put hl1 (16+2 * n) (i:=A') (x:=vI (c.b)) (by rw [hkr]; simpa using hA') rfl
        rw [up_r (s:={ s with at_:=s.at_.set n ((i:Int)+1) }) A.regs] at O2;simp [qAk,qAn,qAl,qAi,qAf,qAe,qAb,qAc,qAa,qAj,qAg,qAd,qAu,qAv,resV,retV,qAm,qAh,qAt,qAs,qAr,qAq,-qAo,qBa,qAw,qBe,vS_0,vS_1,vS_2,vS_3,vS_4,vS_5,vS_6,vS_7,vS_8,vS_9,qBp,qBo,qBn,qBm,qBl,qBk,qBj,qBi,qBh,qBb,qAx,qAp,vN_0,vN_1,vN_2,vN_3,qBw,qBr,qBf,qDe,qDd,qDc,qDb,qDa,qCz,qCi,qCh,qCg,qCf,qCe,qCd,qCc,qCb,qCa,qBy,qBz,qBc,qBs,qBg,vE_0,vE_1,vE_2,vE_3,vE_4,vE_5,qDi,qDh,qDg,qBd,qDj,qCv,hc0,ik,lk,o,hA,ia,t2,L1.cell,L1.cell0,L1.cells,L1.cells0,L1.store,L1.store0,L1.len,L2.cell,L2.cell0,L2.cells,L2.cells0,L2.store,L2.store0,L2.len]
        have hx:x=⟨(i:Int)+1,r.set A' c.b,s.g,e0⟩:=by
          rw [hxx,he0];obtain ⟨op,a,b',c'⟩:=c;simp only at o hA;subst o; subst hA;simp only [exec,sI,Int.toNat_natCast,if_true,if_false]
        subst hx;refine .go (H2,v,[]) (by simp) rfl ⟨hl2,fun m hm=>?_,O.like,fun H'' ha=>qKf O2 ha⟩
        rw [kb2 m (O.low hm),kept1 m hm]
      . -- Move
        obtain ⟨A',hA,hA',hAy⟩:=reg c.a (regd (.inl (by rw [o]; rfl)))
        have ia:=O1.idx (16+2 * n) (i:=A') (by rw [hkr]; simpa using hA')
        obtain ⟨B',hB,hB',hBy⟩:=reg c.b (regb (by rw [o]; rfl))
        obtain ⟨yB,hyB⟩:∃ y,y=gI r c.b:=⟨_,rfl⟩;rw [← hyB] at hBy;obtain ⟨iB,lB⟩:=O1.get (16+2 * n) (i:=B') (x:=vI yB) (by rw [hkr,List.getElem?_map,hBy]; rfl)
        obtain ⟨H2,t2,hl2,L2,O2,kb2⟩:=O1.put hl1 (16+2 * n) (i:=A') (x:=vI (yB)) (by rw [hkr]; simpa using hA') rfl
        rw [up_r (s:={ s with at_:=s.at_.set n ((i:Int)+1) }) A.regs] at O2;simp [qAk,qAn,qAl,qAi,qAf,qAe,qAb,qAc,qAa,qAj,qAg,qAd,qAu,qAv,resV,retV,qAm,qAh,qAt,qAs,qAr,qAq,-qAo,qBa,qAw,qBe,vS_0,vS_1,vS_2,vS_3,vS_4,vS_5,vS_6,vS_7,vS_8,vS_9,qBp,qBo,qBn,qBm,qBl,qBk,qBj,qBi,qBh,qBb,qAx,qAp,vN_0,vN_1,vN_2,vN_3,qBw,qBr,qBf,qDe,qDd,qDc,qDb,qDa,qCz,qCi,qCh,qCg,qCf,qCe,qCd,qCc,qCb,qCa,qBy,qBz,qBc,qBs,qBg,vE_0,vE_1,vE_2,vE_3,vE_4,vE_5,qDi,qDh,qDg,qBd,qDj,qCv,hc0,ik,lk,o,hA,hB,ia,iB,lB,t2,L1.cell,L1.cell0,L1.cells,L1.cells0,L1.store,L1.store0,L1.len,L2.cell,L2.cell0,L2.cells,L2.cells0,L2.store,L2.store0,L2.len]
        have hx:x=⟨(i:Int)+1,r.set A' yB,s.g,e0⟩:=by
          rw [hxx,he0];obtain ⟨op,a,b',c'⟩:=c;simp only at o hA hB hyB;subst o; subst hA; subst hB;simp only [exec,sI,← hyB,Int.toNat_natCast,if_true,if_false]
        subst hx;refine .go (H2,v,[]) (by simp) rfl ⟨hl2,fun m hm=>?_,O.like,fun H'' ha=>qKf O2 ha⟩
        rw [kb2 m (O.low hm),kept1 m hm]
      . -- Add
        obtain ⟨A',hA,hA',hAy⟩:=reg c.a (regd (.inl (by rw [o]; rfl)))
        have ia:=O1.idx (16+2 * n) (i:=A') (by rw [hkr]; simpa using hA')
        obtain ⟨B',hB,hB',hBy⟩:=reg c.b (regb (by rw [o]; rfl))
        obtain ⟨yB,hyB⟩:∃ y,y=gI r c.b:=⟨_,rfl⟩;rw [← hyB] at hBy;obtain ⟨iB,lB⟩:=O1.get (16+2 * n) (i:=B') (x:=vI yB) (by rw [hkr,List.getElem?_map,hBy]; rfl)
        obtain ⟨C',hC,hC',hCy⟩:=reg c.c (regc (by rw [o]; rfl))
        obtain ⟨yC,hyC⟩:∃ y,y=gI r c.c:=⟨_,rfl⟩;rw [← hyC] at hCy;obtain ⟨iC,lC⟩:=O1.get (16+2 * n) (i:=C') (x:=vI yC) (by rw [hkr,List.getElem?_map,hCy]; rfl)
        obtain ⟨H2,t2,hl2,L2,O2,kb2⟩:=O1.put hl1 (16+2 * n) (i:=A') (x:=vI (w64 (yB+yC))) (by rw [hkr]; simpa using hA') rfl
        rw [up_r (s:={ s with at_:=s.at_.set n ((i:Int)+1) }) A.regs] at O2;have ww:IntKind.i64.wrap (yB+yC)=w64 (yB+yC):=rfl;simp [qAk,qAn,qAl,qAi,qAf,qAe,qAb,qAc,qAa,qAj,qAg,qAd,qAu,qAv,resV,retV,qAm,qAh,qAt,qAs,qAr,qAq,-qAo,qBa,qAw,qBe,vS_0,vS_1,vS_2,vS_3,vS_4,vS_5,vS_6,vS_7,vS_8,vS_9,qBp,qBo,qBn,qBm,qBl,qBk,qBj,qBi,qBh,qBb,qAx,qAp,vN_0,vN_1,vN_2,vN_3,qBw,qBr,qBf,qDe,qDd,qDc,qDb,qDa,qCz,qCi,qCh,qCg,qCf,qCe,qCd,qCc,qCb,qCa,qBy,qBz,qBc,qBs,qBg,vE_0,vE_1,vE_2,vE_3,vE_4,vE_5,qDi,qDh,qDg,qBd,qDj,qCv,hc0,ik,lk,o,hA,hB,hC,ia,iB,lB,iC,lC,ww,t2,L1.cell,L1.cell0,L1.cells,L1.cells0,L1.store,L1.store0,L1.len,L2.cell,L2.cell0,L2.cells,L2.cells0,L2.store,L2.store0,L2.len]
        have hx:x=⟨(i:Int)+1,r.set A' (w64 (yB+yC)),s.g,e0⟩:=by
          rw [hxx,he0];obtain ⟨op,a,b',c'⟩:=c;simp only at o hA hB hC hyB hyC;subst o; subst hA; subst hB; subst hC;simp only [exec,sI,← hyB,← hyC,Int.toNat_natCast,if_true,if_false]
        subst hx;refine .go (H2,v,[]) (by simp) rfl ⟨hl2,fun m hm=>?_,O.like,fun H'' ha=>qKf O2 ha⟩
        rw [kb2 m (O.low hm),kept1 m hm]
      . -- Sub
        obtain ⟨A',hA,hA',hAy⟩:=reg c.a (regd (.inl (by rw [o]; rfl)))
        have ia:=O1.idx (16+2 * n) (i:=A') (by rw [hkr]; simpa using hA')
        obtain ⟨B',hB,hB',hBy⟩:=reg c.b (regb (by rw [o]; rfl))
        obtain ⟨yB,hyB⟩:∃ y,y=gI r c.b:=⟨_,rfl⟩;rw [← hyB] at hBy;obtain ⟨iB,lB⟩:=O1.get (16+2 * n) (i:=B') (x:=vI yB) (by rw [hkr,List.getElem?_map,hBy]; rfl)
        obtain ⟨C',hC,hC',hCy⟩:=reg c.c (regc (by rw [o]; rfl))
        obtain ⟨yC,hyC⟩:∃ y,y=gI r c.c:=⟨_,rfl⟩;rw [← hyC] at hCy;obtain ⟨iC,lC⟩:=O1.get (16+2 * n) (i:=C') (x:=vI yC) (by rw [hkr,List.getElem?_map,hCy]; rfl)
        obtain ⟨H2,t2,hl2,L2,O2,kb2⟩:=O1.put hl1 (16+2 * n) (i:=A') (x:=vI (w64 (yB - yC))) (by rw [hkr]; simpa using hA') rfl
        rw [up_r (s:={ s with at_:=s.at_.set n ((i:Int)+1) }) A.regs] at O2;have ww:IntKind.i64.wrap (yB - yC)=w64 (yB - yC):=rfl;simp [qAk,qAn,qAl,qAi,qAf,qAe,qAb,qAc,qAa,qAj,qAg,qAd,qAu,qAv,resV,retV,qAm,qAh,qAt,qAs,qAr,qAq,-qAo,qBa,qAw,qBe,vS_0,vS_1,vS_2,vS_3,vS_4,vS_5,vS_6,vS_7,vS_8,vS_9,qBp,qBo,qBn,qBm,qBl,qBk,qBj,qBi,qBh,qBb,qAx,qAp,vN_0,vN_1,vN_2,vN_3,qBw,qBr,qBf,qDe,qDd,qDc,qDb,qDa,qCz,qCi,qCh,qCg,qCf,qCe,qCd,qCc,qCb,qCa,qBy,qBz,qBc,qBs,qBg,vE_0,vE_1,vE_2,vE_3,vE_4,vE_5,qDi,qDh,qDg,qBd,qDj,qCv,hc0,ik,lk,o,hA,hB,hC,ia,iB,lB,iC,lC,ww,t2,L1.cell,L1.cell0,L1.cells,L1.cells0,L1.store,L1.store0,L1.len,L2.cell,L2.cell0,L2.cells,L2.cells0,L2.store,L2.store0,L2.len]
        have hx:x=⟨(i:Int)+1,r.set A' (w64 (yB - yC)),s.g,e0⟩:=by
          rw [hxx,he0];obtain ⟨op,a,b',c'⟩:=c;simp only at o hA hB hC hyB hyC;subst o; subst hA; subst hB; subst hC;simp only [exec,sI,← hyB,← hyC,Int.toNat_natCast,if_true,if_false]
        subst hx;refine .go (H2,v,[]) (by simp) rfl ⟨hl2,fun m hm=>?_,O.like,fun H'' ha=>qKf O2 ha⟩
        rw [kb2 m (O.low hm),kept1 m hm]
      . -- Mul
        obtain ⟨A',hA,hA',hAy⟩:=reg c.a (regd (.inl (by rw [o]; rfl)))
        have ia:=O1.idx (16+2 * n) (i:=A') (by rw [hkr]; simpa using hA')
        obtain ⟨B',hB,hB',hBy⟩:=reg c.b (regb (by rw [o]; rfl))
        obtain ⟨yB,hyB⟩:∃ y,y=gI r c.b:=⟨_,rfl⟩;rw [← hyB] at hBy;obtain ⟨iB,lB⟩:=O1.get (16+2 * n) (i:=B') (x:=vI yB) (by rw [hkr,List.getElem?_map,hBy]; rfl)
        obtain ⟨C',hC,hC',hCy⟩:=reg c.c (regc (by rw [o]; rfl))
        obtain ⟨yC,hyC⟩:∃ y,y=gI r c.c:=⟨_,rfl⟩;rw [← hyC] at hCy;obtain ⟨iC,lC⟩:=O1.get (16+2 * n) (i:=C') (x:=vI yC) (by rw [hkr,List.getElem?_map,hCy]; rfl)
        obtain ⟨H2,t2,hl2,L2,O2,kb2⟩:=O1.put hl1 (16+2 * n) (i:=A') (x:=vI (w64 (yB * yC))) (by rw [hkr]; simpa using hA') rfl
        rw [up_r (s:={ s with at_:=s.at_.set n ((i:Int)+1) }) A.regs] at O2;have ww:IntKind.i64.wrap (yB * yC)=w64 (yB * yC):=rfl;simp [qAk,qAn,qAl,qAi,qAf,qAe,qAb,qAc,qAa,qAj,qAg,qAd,qAu,qAv,resV,retV,qAm,qAh,qAt,qAs,qAr,qAq,-qAo,qBa,qAw,qBe,vS_0,vS_1,vS_2,vS_3,vS_4,vS_5,vS_6,vS_7,vS_8,vS_9,qBp,qBo,qBn,qBm,qBl,qBk,qBj,qBi,qBh,qBb,qAx,qAp,vN_0,vN_1,vN_2,vN_3,qBw,qBr,qBf,qDe,qDd,qDc,qDb,qDa,qCz,qCi,qCh,qCg,qCf,qCe,qCd,qCc,qCb,qCa,qBy,qBz,qBc,qBs,qBg,vE_0,vE_1,vE_2,vE_3,vE_4,vE_5,qDi,qDh,qDg,qBd,qDj,qCv,hc0,ik,lk,o,hA,hB,hC,ia,iB,lB,iC,lC,ww,t2,L1.cell,L1.cell0,L1.cells,L1.cells0,L1.store,L1.store0,L1.len,L2.cell,L2.cell0,L2.cells,L2.cells0,L2.store,L2.store0,L2.len]
        have hx:x=⟨(i:Int)+1,r.set A' (w64 (yB * yC)),s.g,e0⟩:=by
          rw [hxx,he0];obtain ⟨op,a,b',c'⟩:=c;simp only at o hA hB hC hyB hyC;subst o; subst hA; subst hB; subst hC;simp only [exec,sI,← hyB,← hyC,Int.toNat_natCast,if_true,if_false]
        subst hx;refine .go (H2,v,[]) (by simp) rfl ⟨hl2,fun m hm=>?_,O.like,fun H'' ha=>qKf O2 ha⟩
        rw [kb2 m (O.low hm),kept1 m hm]
      . -- Less
        obtain ⟨A',hA,hA',hAy⟩:=reg c.a (regd (.inl (by rw [o]; rfl)))
        have ia:=O1.idx (16+2 * n) (i:=A') (by rw [hkr]; simpa using hA')
        obtain ⟨B',hB,hB',hBy⟩:=reg c.b (regb (by rw [o]; rfl))
        obtain ⟨yB,hyB⟩:∃ y,y=gI r c.b:=⟨_,rfl⟩;rw [← hyB] at hBy;obtain ⟨iB,lB⟩:=O1.get (16+2 * n) (i:=B') (x:=vI yB) (by rw [hkr,List.getElem?_map,hBy]; rfl)
        obtain ⟨C',hC,hC',hCy⟩:=reg c.c (regc (by rw [o]; rfl))
        obtain ⟨yC,hyC⟩:∃ y,y=gI r c.c:=⟨_,rfl⟩;rw [← hyC] at hCy;obtain ⟨iC,lC⟩:=O1.get (16+2 * n) (i:=C') (x:=vI yC) (by rw [hkr,List.getElem?_map,hCy]; rfl)
        obtain ⟨H2,t2,hl2,L2,O2,kb2⟩:=O1.put hl1 (16+2 * n) (i:=A') (x:=vI (numI (decide (yB < yC)))) (by rw [hkr]; simpa using hA') rfl
        rw [up_r (s:={ s with at_:=s.at_.set n ((i:Int)+1) }) A.regs] at O2;simp [qAk,qAn,qAl,qAi,qAf,qAe,qAb,qAc,qAa,qAj,qAg,qAd,qAu,qAv,resV,retV,qAm,qAh,qAt,qAs,qAr,qAq,-qAo,qBa,qAw,qBe,vS_0,vS_1,vS_2,vS_3,vS_4,vS_5,vS_6,vS_7,vS_8,vS_9,qBp,qBo,qBn,qBm,qBl,qBk,qBj,qBi,qBh,qBb,qAx,qAp,vN_0,vN_1,vN_2,vN_3,qBw,qBr,qBf,qDe,qDd,qDc,qDb,qDa,qCz,qCi,qCh,qCg,qCf,qCe,qCd,qCc,qCb,qCa,qBy,qBz,qBc,qBs,qBg,vE_0,vE_1,vE_2,vE_3,vE_4,vE_5,qDi,qDh,qDg,qBd,qDj,qCv,hc0,ik,lk,o,hA,hB,hC,ia,iB,lB,iC,lC,t2,L1.cell,L1.cell0,L1.cells,L1.cells0,L1.store,L1.store0,L1.len,L2.cell,L2.cell0,L2.cells,L2.cells0,L2.store,L2.store0,L2.len]
        refine qCq ?_;simp [qAk,qAn,qAl,qAi,qAf,qAe,qAb,qAc,qAa,qAj,qAg,qAd,qAu,qAv,resV,retV,qAm,qAh,qAt,qAs,qAr,qAq,callK_def,-qAo,qBa,qAw,qBe,vS_0,vS_1,vS_2,vS_3,vS_4,vS_5,vS_6,vS_7,vS_8,vS_9,qBp,qBo,qBn,qBm,qBl,qBk,qBj,qBi,qBh,qBb,qAx,qAp,vN_0,vN_1,vN_2,vN_3,qBw,qBr,qBf,qDe,qDd,qDc,qDb,qDa,qCz,qCi,qCh,qCg,qCf,qCe,qCd,qCc,qCb,qCa,qBy,qBz,qBc,qBs,qBg,vE_0,vE_1,vE_2,vE_3,vE_4,vE_5,qDi,qDh,qDg,qBd,qDj,qCv,hc0,ik,lk,o,hA,hB,hC,ia,iB,lB,iC,lC,t2,L1.cell,L1.cell0,L1.cells,L1.cells0,L1.store,L1.store0,L1.len,L2.cell,L2.cell0,L2.cells,L2.cells0,L2.store,L2.store0,L2.len]
        have hx:x=⟨(i:Int)+1,r.set A' (numI (decide (yB < yC))),s.g,e0⟩:=by
          rw [hxx,he0];obtain ⟨op,a,b',c'⟩:=c;simp only at o hA hB hC hyB hyC;subst o; subst hA; subst hB; subst hC;simp only [exec,sI,← hyB,← hyC,Int.toNat_natCast,if_true,if_false]
        subst hx;refine .go (H2,v,[]) (by simp) rfl ⟨hl2,fun m hm=>?_,O.like,fun H'' ha=>qKf O2 ha⟩
        rw [kb2 m (O.low hm),kept1 m hm]
      . -- Load
        obtain ⟨A',hA,hA',hAy⟩:=reg c.a (regd (.inl (by rw [o]; rfl)))
        have ia:=O1.idx (16+2 * n) (i:=A') (by rw [hkr]; simpa using hA')
        have wv:=A.ok.many (k:=1) (w:=4) (by omega) (by rw [o]; rfl) (by decide) rfl
        obtain ⟨B',hB,_,hB',hBy⟩:=qFm (l:=s.g.vars) (x:=c.b) wv.1 (by rw [hs.vars]; exact wv.2)
        obtain ⟨yB,hyB⟩:∃ y,y=gI s.g.vars c.b:=⟨_,rfl⟩;rw [← hyB] at hBy;obtain ⟨iB,lB⟩:=O1.get 3 (i:=B') (x:=vI yB) (by rw [qTu,List.getElem?_map,hBy]; rfl)
        obtain ⟨H2,t2,hl2,L2,O2,kb2⟩:=O1.put hl1 (16+2 * n) (i:=A') (x:=vI (yB)) (by rw [hkr]; simpa using hA') rfl
        rw [up_r (s:={ s with at_:=s.at_.set n ((i:Int)+1) }) A.regs] at O2;obtain ⟨_,lA⟩:=O2.get (16+2 * n) (i:=A') (x:=vI yB) (by rw [qEj]; simp [hnr,hA'])
        simp [qAk,qAn,qAl,qAi,qAf,qAe,qAb,qAc,qAa,qAj,qAg,qAd,qAu,qAv,resV,retV,qAm,qAh,qAt,qAs,qAr,qAq,-qAo,qBa,qAw,qBe,vS_0,vS_1,vS_2,vS_3,vS_4,vS_5,vS_6,vS_7,vS_8,vS_9,qBp,qBo,qBn,qBm,qBl,qBk,qBj,qBi,qBh,qBb,qAx,qAp,vN_0,vN_1,vN_2,vN_3,qBw,qBr,qBf,qDe,qDd,qDc,qDb,qDa,qCz,qCi,qCh,qCg,qCf,qCe,qCd,qCc,qCb,qCa,qBy,qBz,qBc,qBs,qBg,vE_0,vE_1,vE_2,vE_3,vE_4,vE_5,qDi,qDh,qDg,qBd,qDj,qCv,hc0,ik,lk,o,hA,hB,ia,iB,lB,lA,t2,L1.cell,L1.cell0,L1.cells,L1.cells0,L1.store,L1.store0,L1.len,L2.cell,L2.cell0,L2.cells,L2.cells0,L2.store,L2.store0,L2.len]
        have hx:x=⟨(i:Int)+1,r.set A' yB,s.g,{ e0 with obj:=B',value:=yB }⟩:=by
          rw [hxx,he0];obtain ⟨op,a,b',c'⟩:=c;simp only at o hA hB hyB;subst o; subst hA; subst hB;simp only [exec,sI,← hyB,Int.toNat_natCast,if_true,if_false]
        subst hx;refine .go (H2,v,[]) (by simp) rfl ⟨hl2,fun m hm=>?_,O.like,fun H'' ha=>qKf O2 ha⟩
        rw [kb2 m (O.low hm),kept1 m hm]
      . -- Store
        obtain ⟨B',hB,hB',hBy⟩:=reg c.b (regb (by rw [o]; rfl))
        obtain ⟨yB,hyB⟩:∃ y,y=gI r c.b:=⟨_,rfl⟩;rw [← hyB] at hBy;obtain ⟨iB,lB⟩:=O1.get (16+2 * n) (i:=B') (x:=vI yB) (by rw [hkr,List.getElem?_map,hBy]; rfl)
        have wv:=A.ok.many (k:=0) (w:=4) (by omega) (by rw [o]; rfl) (by decide) rfl
        obtain ⟨A',hA,_,hA',hAy⟩:=qFm (l:=s.g.vars) (x:=c.a) wv.1 (by rw [hs.vars]; exact wv.2)
        have ia:=O1.idx 3 (i:=A') (by rw [qTu]; simpa using hA')
        obtain ⟨H2,t2,hl2,L2,O2,kb2⟩:=O1.put hl1 3 (i:=A') (x:=vI yB) (by rw [qTu]; simpa using hA') rfl
        rw [up_3] at O2;obtain ⟨_,lA⟩:=O2.get (16+2 * n) (i:=B') (x:=vI yB) (by rw [qEj]; simp [A.regs,hBy])
        simp [qAk,qAn,qAl,qAi,qAf,qAe,qAb,qAc,qAa,qAj,qAg,qAd,qAu,qAv,resV,retV,qAm,qAh,qAt,qAs,qAr,qAq,-qAo,qBa,qAw,qBe,vS_0,vS_1,vS_2,vS_3,vS_4,vS_5,vS_6,vS_7,vS_8,vS_9,qBp,qBo,qBn,qBm,qBl,qBk,qBj,qBi,qBh,qBb,qAx,qAp,vN_0,vN_1,vN_2,vN_3,qBw,qBr,qBf,qDe,qDd,qDc,qDb,qDa,qCz,qCi,qCh,qCg,qCf,qCe,qCd,qCc,qCb,qCa,qBy,qBz,qBc,qBs,qBg,vE_0,vE_1,vE_2,vE_3,vE_4,vE_5,qDi,qDh,qDg,qBd,qDj,qCv,hc0,ik,lk,o,hA,hB,ia,iB,lB,lA,t2,L1.cell,L1.cell0,L1.cells,L1.cells0,L1.store,L1.store0,L1.len,L2.cell,L2.cell0,L2.cells,L2.cells0,L2.store,L2.store0,L2.len]
        have hx:x=⟨(i:Int)+1,r,{ s.g with vars:=s.g.vars.set A' yB },{ e0 with obj:=A',value:=yB }⟩:=by
          rw [hxx,he0];obtain ⟨op,a,b',c'⟩:=c;simp only at o hA hB hyB;subst o; subst hA; subst hB;simp only [exec,sI,← hyB,Int.toNat_natCast,if_true,if_false]
        subst hx;rw [show s.r.set n r=s.r from rset];refine .go (H2,v,[]) (by simp) rfl ⟨hl2,fun m hm=>?_,O.like,fun H'' ha=>qKf O2 ha⟩
        rw [kb2 m (O.low hm),kept1 m hm]
      . -- Print
        obtain ⟨A',hA,hA',hAy⟩:=reg c.a (regd (.inr (by rw [o]; rfl)))
        obtain ⟨yA,hyA⟩:∃ y,y=gI r c.a:=⟨_,rfl⟩;rw [← hyA] at hAy;have wA:(want { s with at_:=s.at_.set n ((i:Int)+1) } v (16+2 * n))[A']?=some (vI yA):=by rw [hkr,List.getElem?_map,hAy]; rfl
        obtain ⟨iA,lA⟩:=O1.get (16+2 * n) (i:=A') (x:=vI yA) wA;simp [qAk,qAn,qAl,qAi,qAf,qAe,qAb,qAc,qAa,qAj,qAg,qAd,qAu,qAv,resV,retV,qAm,qAh,qAt,qAs,qAr,qAq,-qAo,qBa,qAw,qBe,vS_0,vS_1,vS_2,vS_3,vS_4,vS_5,vS_6,vS_7,vS_8,vS_9,qBp,qBo,qBn,qBm,qBl,qBk,qBj,qBi,qBh,qBb,qAx,qAp,vN_0,vN_1,vN_2,vN_3,qBw,qBr,qBf,qDe,qDd,qDc,qDb,qDa,qCz,qCi,qCh,qCg,qCf,qCe,qCd,qCc,qCb,qCa,qBy,qBz,qBc,qBs,qBg,vE_0,vE_1,vE_2,vE_3,vE_4,vE_5,qDi,qDh,qDg,qBd,qDj,qCv,hc0,ik,lk,o,hA,iA,lA,L1.cell,L1.cell0,L1.cells,L1.cells0,L1.store,L1.store0,L1.len]
        refine O1.pushB (by omega) 10 (x:=vI yA) (by rw [← hl1]; exact pElems_box (m:=3) rfl rfl) (by rw [qSg,List.length_map]; show s.g.told.length+1≤lim; omega) fun w H2 g2 hl2 L2 O2 kb2 ac2 kw rw_=>?_
        rw [hl1] at L2;rw [up_told (w:=w)] at O2;have lA2:∀ rs,pLd (H2++rs) (ptrO (v (16+2 * n)) A')=some (vI yA):=fun rs=>by
          rw [acc_ld (ac2 (16+2 * n) (by omega)) (by rw [hkr]; simpa using hA') rs,wA]
        simp [qAk,qAn,qAl,qAi,qAf,qAe,qAb,qAc,qAa,qAj,qAg,qAd,qAu,qAv,resV,retV,qAm,qAh,qAt,qAs,qAr,qAq,-qAo,qBa,qAw,qBe,vS_0,vS_1,vS_2,vS_3,vS_4,vS_5,vS_6,vS_7,vS_8,vS_9,qBp,qBo,qBn,qBm,qBl,qBk,qBj,qBi,qBh,qBb,qAx,qAp,vN_0,vN_1,vN_2,vN_3,qBw,qBr,qBf,qDe,qDd,qDc,qDb,qDa,qCz,qCi,qCh,qCg,qCf,qCe,qCd,qCc,qCb,qCa,qBy,qBz,qBc,qBs,qBg,vE_0,vE_1,vE_2,vE_3,vE_4,vE_5,qDi,qDh,qDg,qBd,qDj,qCv,hc0,ik,lk,o,hA,iA,lA2,kw,L2.cell,L2.cell0,L2.cells,L2.cells0,L2.store,L2.store0,L2.len]
        have hx:x=⟨(i:Int)+1,r,{ s.g with told:=s.g.told++[yA] },{ e0 with value:=yA }⟩:=by
          rw [hxx,he0];obtain ⟨op,a,b',c'⟩:=c;simp only at o hA hyA;subst o; subst hA;simp only [exec,← hyA]
        subst hx;rw [show s.r.set n r=s.r from rset];refine .go (H2,fset v 10 w,bx [vI yA] 1 :: g2) (by simp) rfl ⟨hl2.trans hl1,fun m hm=>?_,O2.like,fun H'' ha=>inlS (O2.keepO fun m m' hi=>?_)⟩
        . show H2[m]?=H[m]?
          rw [kb2 m (O1.low hm),kept1 m hm]
        . have hlt:=(O2.acc m').lt hi
          have hge:h.length+3≤m:=Nat.le_of_not_lt fun hl=>O2.low hl m' hi
          obtain ⟨ob,hob⟩:∃ ob,ob=(H2++([bx (cS p s v) 19,bx (vIns c) 4,bx (vEv e0) 6,bx [vI yA] 1]++g2))[m]'hlt:=⟨_,rfl⟩;have hob':=List.getElem?_eq_getElem hlt;rw [← hob] at hob';rw [hob'];refine ha m ob hge ?_;simp only;have hin:m < H2.length∨H2.length+4≤m:=by
            by_cases hm10:m'=10
            . subst hm10
              rw [qBt] at hi;rcases rw_ m hi with h1 | h1
              . have:=(O1.acc 10).lt h1
                exact .inl (by omega)
              . exact .inr (by simp at h1; omega)
            . rw [qAz hm10] at hi
              have:=(O1.acc m').lt hi;exact .inl (by omega)
          rcases hin with h1 | h1
          . rw [List.getElem?_append_left h1] at hob' ⊢
            exact hob'
          . rw [qRo (n:=H2.length+4) (by simp) h1] at hob'
            have:=qRo (A:=H2) (X:=[bx (cS p ⟨s.at_.set n ((i:Int)+1),s.r,{ s.g with told:=s.g.told++[yA] }⟩ (fset v 10 w)) 19,bx (vIns c) 4,bx (vEv { e0 with value:=yA }) 6,bx [vI yA] 1]) (g:=g2) (n:=H2.length+4) (by simp) h1
            rw [hob'] at this;exact this
      . -- Jump
        have i0:=O1.idx 0 (i:=n) (by rw [qPo]; simpa using hna)
        obtain ⟨H2,t2,hl2,L2,O2,kb2⟩:=O1.put hl1 0 (i:=n) (x:=vI c.a) (by rw [qPo]; simpa using hna) rfl
        rw [qUt] at O2;simp only [List.set_set] at O2;simp [qAk,qAn,qAl,qAi,qAf,qAe,qAb,qAc,qAa,qAj,qAg,qAd,qAu,qAv,resV,retV,qAm,qAh,qAt,qAs,qAr,qAq,-qAo,qBa,qAw,qBe,vS_0,vS_1,vS_2,vS_3,vS_4,vS_5,vS_6,vS_7,vS_8,vS_9,qBp,qBo,qBn,qBm,qBl,qBk,qBj,qBi,qBh,qBb,qAx,qAp,vN_0,vN_1,vN_2,vN_3,qBw,qBr,qBf,qDe,qDd,qDc,qDb,qDa,qCz,qCi,qCh,qCg,qCf,qCe,qCd,qCc,qCb,qCa,qBy,qBz,qBc,qBs,qBg,vE_0,vE_1,vE_2,vE_3,vE_4,vE_5,qDi,qDh,qDg,qBd,qDj,qCv,hc0,ik,lk,o,i0,t2,L1.cell,L1.cell0,L1.cells,L1.cells0,L1.store,L1.store0,L1.len,L2.cell,L2.cell0,L2.cells,L2.cells0,L2.store,L2.store0,L2.len]
        have hx:x=⟨c.a,r,s.g,e0⟩:=by
          rw [hxx,he0];obtain ⟨op,a,b',c'⟩:=c;simp only at o;subst o;simp only [exec,sI,Int.toNat_natCast,if_true,if_false]
        subst hx;rw [show s.r.set n r=s.r from rset];refine .go (H2,v,[]) (by simp) rfl ⟨hl2,fun m hm=>?_,O.like,fun H'' ha=>qKf O2 ha⟩
        rw [kb2 m (O.low hm),kept1 m hm]
      . -- Zero
        obtain ⟨A',hA,hA',hAy⟩:=reg c.a (regd (.inr (by rw [o]; rfl)))
        obtain ⟨yA,hyA⟩:∃ y,y=gI r c.a:=⟨_,rfl⟩;rw [← hyA] at hAy;obtain ⟨iA,lA⟩:=O1.get (16+2 * n) (i:=A') (x:=vI yA) (by rw [hkr,List.getElem?_map,hAy]; rfl)
        by_cases hz0:yA=0
        . have i0:=O1.idx 0 (i:=n) (by rw [qPo]; simpa using hna)
          obtain ⟨H2,t2,hl2,L2,O2,kb2⟩:=O1.put hl1 0 (i:=n) (x:=vI c.b) (by rw [qPo]; simpa using hna) rfl
          rw [qUt] at O2;simp only [List.set_set] at O2;simp [qAk,qAn,qAl,qAi,qAf,qAe,qAb,qAc,qAa,qAj,qAg,qAd,qAu,qAv,resV,retV,qAm,qAh,qAt,qAs,qAr,qAq,-qAo,qBa,qAw,qBe,vS_0,vS_1,vS_2,vS_3,vS_4,vS_5,vS_6,vS_7,vS_8,vS_9,qBp,qBo,qBn,qBm,qBl,qBk,qBj,qBi,qBh,qBb,qAx,qAp,vN_0,vN_1,vN_2,vN_3,qBw,qBr,qBf,qDe,qDd,qDc,qDb,qDa,qCz,qCi,qCh,qCg,qCf,qCe,qCd,qCc,qCb,qCa,qBy,qBz,qBc,qBs,qBg,vE_0,vE_1,vE_2,vE_3,vE_4,vE_5,qDi,qDh,qDg,qBd,qDj,qCv,hc0,ik,lk,o,hA,iA,lA,i0,hz0,t2,L1.cell,L1.cell0,L1.cells,L1.cells0,L1.store,L1.store0,L1.len,L2.cell,L2.cell0,L2.cells,L2.cells0,L2.store,L2.store0,L2.len]
          have hx:x=⟨c.b,r,s.g,e0⟩:=by
            rw [hxx,he0];obtain ⟨op,a,b',c'⟩:=c;simp only at o hA hyA;subst o; subst hA;simp only [exec,sI,← hyA,hz0,Int.toNat_natCast,if_true,if_false]
          subst hx;rw [show s.r.set n r=s.r from rset];refine .go (H2,v,[]) (by simp) rfl ⟨hl2,fun m hm=>?_,O.like,fun H'' ha=>qKf O2 ha⟩
          rw [kb2 m (O.low hm),kept1 m hm]
        . simp [qAk,qAn,qAl,qAi,qAf,qAe,qAb,qAc,qAa,qAj,qAg,qAd,qAu,qAv,resV,retV,qAm,qAh,qAt,qAs,qAr,qAq,-qAo,qBa,qAw,qBe,vS_0,vS_1,vS_2,vS_3,vS_4,vS_5,vS_6,vS_7,vS_8,vS_9,qBp,qBo,qBn,qBm,qBl,qBk,qBj,qBi,qBh,qBb,qAx,qAp,vN_0,vN_1,vN_2,vN_3,qBw,qBr,qBf,qDe,qDd,qDc,qDb,qDa,qCz,qCi,qCh,qCg,qCf,qCe,qCd,qCc,qCb,qCa,qBy,qBz,qBc,qBs,qBg,vE_0,vE_1,vE_2,vE_3,vE_4,vE_5,qDi,qDh,qDg,qBd,qDj,qCv,hc0,ik,lk,o,hA,iA,lA,hz0,L1.cell,L1.cell0,L1.cells,L1.cells0,L1.store,L1.store0,L1.len]
          have hx:x=⟨(i:Int)+1,r,s.g,e0⟩:=by
            rw [hxx,he0];obtain ⟨op,a,b',c'⟩:=c;simp only at o hA hyA;subst o; subst hA;simp only [exec,sI,← hyA,hz0,Int.toNat_natCast,if_true,if_false]
          subst hx;rw [show s.r.set n r=s.r from rset];refine .go (H1,v,[]) (by simp) rfl ⟨hl1,fun m hm=>?_,O.like,fun H'' ha=>qKf O1 ha⟩
          rw [kept1 m hm]
      . -- what others are let know of
        have z1:¬ c.op=1∧¬ (c.op:Int)=1:=by omega
        have z2:¬ c.op=2∧¬ (c.op:Int)=2:=by omega
        have z3:¬ c.op=3∧¬ (c.op:Int)=3:=by omega
        have z4:¬ c.op=4∧¬ (c.op:Int)=4:=by omega
        have z5:¬ c.op=5∧¬ (c.op:Int)=5:=by omega
        have z6:¬ c.op=6∧¬ (c.op:Int)=6:=by omega
        have z7:¬ c.op=7∧¬ (c.op:Int)=7:=by omega
        have z8:¬ c.op=8∧¬ (c.op:Int)=8:=by omega
        have z9:¬ c.op=9∧¬ (c.op:Int)=9:=by omega
        have z10:¬ c.op=10∧¬ (c.op:Int)=10:=by omega
        have z11:¬ c.op=11∧¬ (c.op:Int)=11:=by omega
        have hpc:x.pc=(i:Int)+1:=by rw [hxx]; exact sync_pc o A.ok.op
        have hdone:qEe { s with at_:=s.at_.set n ((i:Int)+1) } n x=⟨s.at_.set n x.pc,s.r.set n x.r,x.g⟩:=by rw [hpc]; rfl
        obtain ⟨S,hS⟩:∃ S:MS,S=⟨s.at_.set n x.pc,s.r.set n x.r,x.g⟩:=⟨_,rfl⟩;rw [← hS] at hk hdone;simp [qAk,qAn,qAl,qAi,qAf,qAe,qAb,qAc,qAa,qAj,qAg,qAd,qAu,qAv,resV,retV,qAm,qAh,qAt,qAs,qAr,qAq,-qAo,qBa,qAw,qBe,vS_0,vS_1,vS_2,vS_3,vS_4,vS_5,vS_6,vS_7,vS_8,vS_9,qBp,qBo,qBn,qBm,qBl,qBk,qBj,qBi,qBh,qBb,qAx,qAp,vN_0,vN_1,vN_2,vN_3,qBw,qBr,qBf,qDe,qDd,qDc,qDb,qDa,qCz,qCi,qCh,qCg,qCf,qCe,qCd,qCc,qCb,qCa,qBy,qBz,qBc,qBs,qBg,vE_0,vE_1,vE_2,vE_3,vE_4,vE_5,qDi,qDh,qDg,qBd,qDj,qCv,hc0,ik,lk,z1,z2,z3,z4,z5,z6,z7,z8,z9,z10,z11,L1.cell,L1.cell0,L1.cells,L1.cells0,L1.store,L1.store0,L1.len]
        have go:=r4sync_call (p:=p) (e:=e0) (K:=fun val H'=>∃ v',qTt v (H1++[bx (cS p s v) 19,bx (vIns c) 4,bx (vEv e0) 6]) H'∧(∀ j,cellLike (v' j)=true)∧InlO (h.length+3) v (H1++[bx (cS p s v) 19,bx (vIns c) 4,bx (vEv e0) 6]) H' (.agg (cS p S v').toArray) (.agg (vSt p S).toArray)∧val=.tuple #[.agg (cS p S v').toArray,.agg (vEv x.e).toArray,.bool true])
          (by simp; omega) (O1.app (rs:=[bx (cS p s v) 19,bx (vIns c) 4,bx (vEv e0) 6])) (hs.adv A.thr hit) A.ok o A.regs hsh i he0' fun v' H' k1 k2 k3=>by
            rw [show exec n i c r s.g=x from hxx.symm,hdone] at *;exact ⟨v',k1,k2,k3,rfl⟩
        refine qBu.mono go ?_;rintro val H' ⟨v',k1,k2,k3,rfl⟩;have kk:∀ m,m < h.length+3→H'[m]?=H[m]?:=fun m hm=>by
          rw [k1.2 m (by rw [List.length_append]; omega) (O1.low hm),List.getElem?_append_left (by omega),kept1 m hm]
        have hl':=k1.1;rw [List.length_append] at hl';have ra:RowV H' (h.length+1) 0 19 [.int .i64 0,.int .i64 0,.int .i64 0,.slice none 0 0,.int .i64 0,.int .i64 0,.slice none 0 0,.slice none 0 0,.slice none 0 0,.slice none 0 0,.slice none 0 0,.slice none 0 0,.slice none 0 0,.slice none 0 0,.slice none 0 0,.slice none 0 0,.slice none 0 0,.slice none 0 0,.int .i64 0]:=by unfold RowV; rw [kk _ (by omega)]; exact r4
        have rb:RowV H' (h.length+1+1) 0 6 [.int .i64 0,.int .i64 0,.int .u8 0,.int .i64 0,.int .i64 0,.int .i64 0]:=by unfold RowV; rw [kk _ (by omega)]; exact r5
        obtain ⟨H3,H4,u1,u2,u3,u4,u5,u6,u7⟩:=step_end (p:=p) ra rb [] (S:=S) (v:=v') x.e k2;simp only [List.append_nil] at u1 u2 u3 u4;have hc2:=qRn (p:=p) (s:=S) (v:=v') k2;have e12:h.length+1+1=h.length+2:=rfl;rw [e12] at u2 u4;simp [qAk,qAn,qAl,qAi,qAf,qAe,qAb,qAc,qAa,qAj,qAg,qAd,qAu,qAv,resV,retV,qAm,qAh,qAt,qAs,qAr,qAq,callK_def,-qAo,qBa,qAw,qBe,vS_0,vS_1,vS_2,vS_3,vS_4,vS_5,vS_6,vS_7,vS_8,vS_9,qBp,qBo,qBn,qBm,qBl,qBk,qBj,qBi,qBh,qBb,qAx,qAp,vN_0,vN_1,vN_2,vN_3,qBw,qBr,qBf,qDe,qDd,qDc,qDb,qDa,qCz,qCi,qCh,qCg,qCf,qCe,qCd,qCc,qCb,qCa,qBy,qBz,qBc,qBs,qBg,vE_0,vE_1,vE_2,vE_3,vE_4,vE_5,qDi,qDh,qDg,qBd,qDj,hc2,u1,u2,u3,u4]
        refine ⟨?_,_,?_,hk⟩
        . have kq:qCx h.length h H4:=by
            refine ⟨by omega,fun m hm=>?_⟩
            rw [u7 m (by omega) (by omega),kk m (by omega),rh m hm]
          exact kq.ext
        . refine Inls.tup (xs:=[.agg (cS p S v').toArray,.agg (vEv x.e).toArray,.bool true]) (ys:=[.agg (vSt p S).toArray,.agg (vEv x.e).toArray,.bool true]) ⟨?_,Inl.self qMh,.cell rfl,trivial⟩
          refine (k3 H4 (by omega) fun m hm ho=>?_).weak (by omega)
          have hge:h.length+3≤m:=Nat.le_of_not_lt fun hl=>by
            obtain ⟨m',hm'⟩:=ho (by rw [List.length_append]; omega)
            exact O1.low hl m' hm'
          rw [u7 m (by omega) (by omega)]
    . rintro ⟨H2,v2,rest⟩ fr ⟨g1,g2,g3,g4⟩
      simp only at g1 g2 g3 g4 ⊢;obtain ⟨S,hS⟩:∃ S:MS,S=⟨s.at_.set n x.pc,s.r.set n x.r,x.g⟩:=⟨_,rfl⟩;rw [← hS] at hk g4 ⊢;have ra:RowV H2 (h.length+1) 0 19 [.int .i64 0,.int .i64 0,.int .i64 0,.slice none 0 0,.int .i64 0,.int .i64 0,.slice none 0 0,.slice none 0 0,.slice none 0 0,.slice none 0 0,.slice none 0 0,.slice none 0 0,.slice none 0 0,.slice none 0 0,.slice none 0 0,.slice none 0 0,.slice none 0 0,.slice none 0 0,.int .i64 0]:=by unfold RowV; rw [g2 _ (by omega)]; exact r4
      have rb:RowV H2 (h.length+1+1) 0 6 [.int .i64 0,.int .i64 0,.int .u8 0,.int .i64 0,.int .i64 0,.int .i64 0]:=by unfold RowV; rw [g2 _ (by omega)]; exact r5
      obtain ⟨H3,H4,u1,u2,u3,u4,u5,u6,u7⟩:=step_end (p:=p) ra rb (bx (cS p S v2) 19 :: bx (vIns c) 4 :: bx (vEv x.e) 6 :: rest) (S:=S) (v:=v2) x.e g3;have L2:=lies g1;have L3:=lies (u5.trans g1);have hc2:=qRn (p:=p) (s:=S) (v:=v2) g3;have e12:h.length+1+1=h.length+2:=rfl;rw [e12] at u2 u4;simp [qAk,qAn,qAl,qAi,qAf,qAe,qAb,qAc,qAa,qAj,qAg,qAd,qAu,qAv,resV,retV,qAm,qAh,qAt,qAs,qAr,qAq,-qAo,qBa,qAw,qBe,vS_0,vS_1,vS_2,vS_3,vS_4,vS_5,vS_6,vS_7,vS_8,vS_9,qBp,qBo,qBn,qBm,qBl,qBk,qBj,qBi,qBh,qBb,qAx,qAp,vN_0,vN_1,vN_2,vN_3,qBw,qBr,qBf,qDe,qDd,qDc,qDb,qDa,qCz,qCi,qCh,qCg,qCf,qCe,qCd,qCc,qCb,qCa,qBy,qBz,qBc,qBs,qBg,vE_0,vE_1,vE_2,vE_3,vE_4,vE_5,qDi,qDh,qDg,qBd,qDj,hc2,u1,u2,u3,u4,L2.cell,L2.cell0,L2.cells,L2.cells0,L2.store,L2.store0,L2.len,L3.cell,L3.cell0,L3.cells,L3.cells0,L3.store,L3.store0,L3.len]
      refine ⟨?_,_,?_,hk⟩
      . have kq:qCx h.length h (H4++(bx (cS p S v2) 19 :: bx (vIns c) 4 :: bx (vEv x.e) 6 :: rest)):=by
          refine ⟨by rw [List.length_append]; omega,fun m hm=>?_⟩
          rw [List.getElem?_append_left (by omega),u7 m (by omega) (by omega),g2 m (by omega),rh m hm]
        exact kq.ext
      . refine Inls.tup (xs:=[.agg (cS p S v2).toArray,.agg (vEv x.e).toArray,.bool true]) (ys:=[.agg (vSt p S).toArray,.agg (vEv x.e).toArray,.bool true]) ⟨?_,Inl.self qMh,.cell rfl,trivial⟩
        refine (g4 _ fun m o hm ho=>?_).weak (by omega)
        by_cases hmh:m < H2.length
        . rw [List.getElem?_append_left hmh] at ho
          rw [List.getElem?_append_left (by omega),u7 m (by omega) (by omega),ho]
        . rw [List.getElem?_append_right (by omega)] at ho
          rw [List.getElem?_append_right (by omega),u6,ho]
end
end Pm
