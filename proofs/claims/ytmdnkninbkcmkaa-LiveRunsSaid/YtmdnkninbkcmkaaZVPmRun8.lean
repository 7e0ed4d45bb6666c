/- The run of a program: what lets others know, walked.
   No condition: plain lemmas. -/

import Derived.Test.YtmdnkninbkcmkaaZVPmRun7
namespace Pm
set_option linter.unusedSimpArgs false
set_option linter.unusedVariables false
open Go Am
open Go.Proofs.Try (prog)

section
variable {b : Nat} {H R : Heap} {v : Nat → Value} {c : Nat → List Value}
theorem Owns.putR (h:Owns b (H++R) v c) (j:Nat) {i:Nat} (hi:i < (c j).length) (hj:∀ id,rid (v j)=some id→id < H.length) {x:Value} (hx:cellsOf x=some [x]) :
    ∃ H',qCm (H++R) 1 (ptrO (v j) i) x=some (H'++R)∧H'.length=H.length∧Owns b (H'++R) v (fset c j ((c j).set i x))∧∀ i,(∀ m,rid (v m)≠some i)→H'[i]?=H[i]?:=by
  rcases h.acc j with ⟨h1,h2,h3⟩ | ⟨id,ver,h1,h2,h3,h4⟩
  . rw [h3] at hi; simp at hi
  . have hl:id < H.length:=hj id (by rw [h1]; rfl)
    have h3':=h3;rw [List.getElem?_append_left hl] at h3';have hs:setAll (c j) i [x]=(c j).set i x:=rfl;refine ⟨H.set id (.row ⟨(c j).set i x,1,ver,true⟩),?_,by simp,⟨fun m=>?_,h.apart⟩,fun m hm=>by rw [List.getElem?_set_ne (fun e=>hm j (by rw [h1,← e]; rfl))]⟩
    . rw [h1]
      simp only [qCm,ptrO,hx,Heap.row?,h3,if_true];rw [if_pos ⟨trivial,rfl,by simp; omega⟩,hs,List.set_append_left _ _ hl]
    . by_cases hm:m=j
      . subst hm
        rw [qBt];refine Or.inr ⟨id,ver,by simp [h1],h2,by rw [List.getElem?_append_left (by simpa using hl),List.getElem?_set_self hl],by simp⟩
      . rw [qAz hm]
        refine (h.acc m).keep fun i hi'=>?_
        rw [← List.set_append_left _ _ hl,List.getElem?_set_ne];rintro rfl;exact h.apart m j hm _ hi' (by rw [h1]; rfl)
theorem qRo {A X g:Heap} {i n:Nat} (hn:A.length+X.length=n) (h:n≤i):(A++(X++g))[i]?=g[i - n]?:=by
  rw [← List.append_assoc,List.getElem?_append_right (by rw [List.length_append]; omega),List.length_append,hn]
theorem Owns.pushB {P:Program} {K:Fr→Heap→Prop} {is:List AIns} {d:Option Nat} {fl:List QOp} {fr:Fr} {H0:Heap} {lit x:Value} (O:Owns b H v c) (hb:b≤H.length) (j:Nat) (hp:qDu (H++R) 1 lit=some (1,[x])) (hl:(c j).length+1≤lim)
    (hn:∀ w H' g,H'.length=H.length→Lies H' H.length→Owns b (H'++(R++g)) (fset v j w) (fset c j (c j++[x]))→(∀ i,(∀ m,rid (v m)≠some i)→H'[i]?=H[i]?)→(∀ m,m≠j→Acc 1 b H' (v m) (c m).length (c m))→cellsOf w=some [w]→(∀ i,rid w=some i→rid (v j)=some i∨(H++R).length≤i)→qLx fr H0 (H'++(R++g)) fl∧pOps P K is (updO fr d w) (H'++(R++g))) :
    eK P K is d fl fr H0 (pApp (H++R) 1 (v j) lit):=by
  obtain ⟨w,H',g,q1,q2,q3,q4,q5,q6⟩:=O.more j hb (rs:=R) (new:=[x]) hp hl;rw [q1,eK_some];have:=q3.one j;rw [qBt] at this;exact hn w H' g q2 (lies q2) q3 q4 q5 this q6
end
section
variable {h : Heap} {K : Value → Heap → Prop}
set_option maxHeartbeats 16000000 in
theorem r4sync_call {b:Nat} {p:Prog} {s:MS} {v:Nat→Value} {k n:Nat} {i:Ins} {r:List Int} {e:Ev} (hb:b≤h.length) (O:Owns b h v (want s v)) (hs:Shape p s) (ho:InsOk p n i) (hop:i.op=0∨12≤i.op) (hr:s.r[k]?=some r) (hql:∀ l∈s.g.queue,l.length < lim)
    (pc:Int) (he:e.thread=k∧e.pc=pc∧e.op=i.op∧e.value=0∧e.mode=0)
    (hk:∀ v' H',qTt v h H'→(∀ j,cellLike (v' j)=true)→InlO b v h H' (.agg (cS p (qEe s k (exec k pc i r s.g)) v').toArray) (.agg (vSt p (qEe s k (exec k pc i r s.g))).toArray) →
      K (.tuple #[.agg (cS p (qEe s k (exec k pc i r s.g)) v').toArray,.agg (vEv (exec k pc i r s.g).e).toArray,.bool true]) H') :
    qBu prog 46 [.agg (cS p s v).toArray,vI k,.agg (vIns i).toArray,.agg (vEv e).toArray] h K:=by
  have hcs:∀ t,cellsOf (.agg (cS p { s with g:={ s.g with trap:=t } } v).toArray)=some (cS p { s with g:={ s.g with trap:=t } } v):=fun t=>qRn O.like
  have hc0:=qRn (p:=p) (s:=s) (v:=v) O.like;have hkl:=(List.getElem?_eq_some_iff.1 hr).1;have r4:=hs.r4 r (List.mem_of_getElem? hr);have rset:s.r.set k r=s.r:=by
    apply List.ext_getElem?;intro j
    by_cases e:k=j
    . subst e; rw [List.getElem?_set_self hkl,hr]
    . rw [List.getElem?_set_ne e]
  have reg:∀ x:Int,0≤x∧x < 4→∃ A:Nat,x=A∧r[A]?=some (gI r x):=fun x hx=>by
    obtain ⟨A,h1,_,_,h2⟩:=qFm (l:=r) hx.1 (by omega)
    exact ⟨A,h1,h2⟩
  obtain ⟨ik,lk⟩:=O.get 2 (i:=k) (x:=v (16+2 * k)) (by rw [qIg]; simp [hkl])
  have hkr:(want s v (16+2 * k))=r.map vI:=by rw [qEj,hr]; rfl
  have w0:∀ {w:Nat} {m:Int},qCp i.op 0=w→w≠0∧w≠1→qFp p n w=m→0≤i.a∧i.a < m:=fun h1 h2 h3=>ho.many (k:=0) (by omega) h1 h2 h3
  have w1:qCp i.op 1=3→0≤i.b∧i.b < 4:=fun h1=>ho.reg (k:=1) (by omega) h1 (.inr rfl)
  by_cases ht:i.op=17∨i.op=19∨i.op=21∨i.op=22∨i.op=26
  . refine call_r4sync (by simp) ?_
    have go:∀ rs,qBu prog 67 [.agg (cS p s v).toArray,vI k,.agg (vIns i).toArray,.agg (vEv { e with obj:=i.a }).toArray] (h++rs) fun w H'=>∃ v',qTt v (h++rs) H'∧(∀ j,cellLike (v' j)=true)∧InlO b v (h++rs) H' (.agg (cS p (qEe s k (exec k pc i r s.g)) v').toArray) (.agg (vSt p (qEe s k (exec k pc i r s.g))).toArray) ∧
        w=.tuple #[.agg (cS p (qEe s k (exec k pc i r s.g)) v').toArray,.agg (vEv (exec k pc i r s.g).e).toArray,.bool true]:=fun rs =>
      r4taken_call (by rw [List.length_append]; omega) O.app hs ho ht hr pc he fun v' H' k1 k2 k3=>⟨v',k1,k2,k3,rfl⟩
    have z:∀ m:Nat,m≠17→m≠19→m≠21→m≠22→m≠26→¬ i.op=m∧¬ (i.op:Int)=m:=fun m h1 h2 h3 h4 h5=>by omega
    have z0:=z 0 (by omega) (by omega) (by omega) (by omega) (by omega)
    have z12:=z 12 (by omega) (by omega) (by omega) (by omega) (by omega)
    have z13:=z 13 (by omega) (by omega) (by omega) (by omega) (by omega)
    have z14:=z 14 (by omega) (by omega) (by omega) (by omega) (by omega)
    have z15:=z 15 (by omega) (by omega) (by omega) (by omega) (by omega)
    have z16:=z 16 (by omega) (by omega) (by omega) (by omega) (by omega)
    have z18:=z 18 (by omega) (by omega) (by omega) (by omega) (by omega)
    have z20:=z 20 (by omega) (by omega) (by omega) (by omega) (by omega)
    have z23:=z 23 (by omega) (by omega) (by omega) (by omega) (by omega)
    have z24:=z 24 (by omega) (by omega) (by omega) (by omega) (by omega)
    have z25:=z 25 (by omega) (by omega) (by omega) (by omega) (by omega)
    have z27:=z 27 (by omega) (by omega) (by omega) (by omega) (by omega)
    simp [qAk,qAn,qAl,qAi,qAf,qAe,qAb,qAc,qAa,qAj,qAg,qAd,qAu,qAv,resV,retV,qAm,qAh,qAt,qAs,qAr,qAq,qDw,-qAo,qBa,qAw,qBe,vS_0,vS_1,vS_2,vS_3,vS_4,vS_5,vS_6,vS_7,vS_8,vS_9,qBp,qBo,qBn,qBm,qBl,qBk,qBj,qBi,qBh,qBb,qAx,qAp,vN_0,vN_1,vN_2,vN_3,qBw,qBr,qBf,qDe,qDd,qDc,qDb,qDa,qCz,qCi,qCh,qCg,qCf,qCe,qCd,qCc,qCb,qCa,qBy,qBz,qBc,qBs,qBg,vE_0,vE_1,vE_2,vE_3,vE_4,vE_5,qDi,qDh,qDg,qBd,qDj,hc0,ik,lk,z0,z12,z13,z14,z15,z16,z18,z20,z23,z24,z25,z27]
    refine (go _).mono ?_;rintro w H' ⟨v',k1,k2,k3,rfl⟩;have kk:=k1.2;have hcd:=qRn (p:=p) (s:=qEe s k (exec k pc i r s.g)) (v:=v') k2;obtain ⟨D,hD⟩:∃ D,D=qEe s k (exec k pc i r s.g):=⟨_,rfl⟩;obtain ⟨E,hE⟩:∃ E,E=(exec k pc i r s.g).e:=⟨_,rfl⟩;rw [← hD] at hk hcd k3 ⊢;rw [← hE] at hk ⊢;have hl1:=k1.1;simp only [List.length_append,List.length_cons,List.length_nil] at hl1;have r3:RowV H' (h.length+3) 0 19 [.int .i64 0,.int .i64 0,.int .i64 0,.slice none 0 0,.int .i64 0,.int .i64 0,.slice none 0 0,.slice none 0 0,.slice none 0 0,.slice none 0 0,.slice none 0 0,.slice none 0 0,.slice none 0 0,.slice none 0 0,.slice none 0 0,.slice none 0 0,.slice none 0 0,.slice none 0 0,.int .i64 0]:=by
      have:=kk (h.length+3) (by simp) (O.high (by omega))
      rw [List.getElem?_append_right (by omega),Nat.add_sub_cancel_left] at this
      exact this
    have r4':RowV H' (h.length+4) 0 6 [.int .i64 0,.int .i64 0,.int .u8 0,.int .i64 0,.int .i64 0,.int .i64 0]:=by
      have:=kk (h.length+4) (by simp) (O.high (by omega))
      rw [List.getElem?_append_right (by omega),Nat.add_sub_cancel_left] at this
      exact this
    have hD19:(cS p D v').all cellLike=true:=by
      rw [hD];have:=cS_like (p:=p) (s:=qEe s k (exec k pc i r s.g)) k2;exact this
    obtain ⟨Ha,ta,ra,sa⟩:=r3.store (n:=19) (cs:=cS p D v') rfl rfl hD19;have r4a:RowV Ha (h.length+4) 0 6 [.int .i64 0,.int .i64 0,.int .u8 0,.int .i64 0,.int .i64 0,.int .i64 0]:=r4'.same sa (by omega)
    obtain ⟨Hb,tb,rb,sb⟩:=r4a.store (n:=6) (cs:=vEv E) rfl rfl rfl;have rab:=ra.same sb (by omega)
    simp [qAk,qAn,qAl,qAi,qAf,qAe,qAb,qAc,qAa,qAj,qAg,qAd,qAu,qAv,resV,retV,qAm,qAh,qAt,qAs,qAr,qAq,callK_def,-qAo,qBa,qAw,qBe,vS_0,vS_1,vS_2,vS_3,vS_4,vS_5,vS_6,vS_7,vS_8,vS_9,qBp,qBo,qBn,qBm,qBl,qBk,qBj,qBi,qBh,qBb,qAx,qAp,vN_0,vN_1,vN_2,vN_3,qBw,qBr,qBf,qDe,qDd,qDc,qDb,qDa,qCz,qCi,qCh,qCg,qCf,qCe,qCd,qCc,qCb,qCa,qBy,qBz,qBc,qBs,qBg,vE_0,vE_1,vE_2,vE_3,vE_4,vE_5,qDi,qDh,qDg,qBd,qDj,hcd,ta,tb];have c1:=rab.cells (n:=19) rfl
    have c2:=rb.cells (n:=6) rfl;rw [c1,c2];refine hk v' Hb ⟨?_,fun i hi hm=>?_⟩ k2 ?_
    . rw [sb.2,sa.2]; omega
    . rw [sb.1 i (by omega),sa.1 i (by omega),kk i (by rw [List.length_append]; omega) hm,List.getElem?_append_left hi]
    . intro H'' hl ha
      refine k3 H'' (by rw [← sa.2,← sb.2]; exact hl) fun i hi ho'=>?_
      by_cases h3:i < h.length
      . obtain ⟨m,hm⟩:=ho' (by rw [List.length_append]; omega)
        rw [ha i (by rw [sb.2,sa.2]; exact hi) (fun _=>⟨m,hm⟩),sb.1 i (by omega),sa.1 i (by omega)]
      . by_cases h5:i < h.length+5
        . obtain ⟨m,hm⟩:=ho' (by simp; omega)
          exact absurd hm (O.high (by omega) m)
        . rw [ha i (by rw [sb.2,sa.2]; exact hi) (fun hh=>absurd hh h3),sb.1 i (by omega),sa.1 i (by omega)]
  have h27:=ho.op;have hops:i.op=0∨i.op=12∨i.op=13∨i.op=14∨i.op=15∨i.op=16∨i.op=18∨i.op=20∨i.op=23∨i.op=24∨i.op=25∨i.op=27:=by omega
  refine call_r4sync (by simp) ?_
  rcases hops with o | o | o | o | o | o | o | o | o | o | o | o
  . -- Nop
    simp [qAk,qAn,qAl,qAi,qAf,qAe,qAb,qAc,qAa,qAj,qAg,qAd,qAu,qAv,resV,retV,qAm,qAh,qAt,qAs,qAr,qAq,qDw,-qAo,qBa,qAw,qBe,vS_0,vS_1,vS_2,vS_3,vS_4,vS_5,vS_6,vS_7,vS_8,vS_9,qBp,qBo,qBn,qBm,qBl,qBk,qBj,qBi,qBh,qBb,qAx,qAp,vN_0,vN_1,vN_2,vN_3,qBw,qBr,qBf,qDe,qDd,qDc,qDb,qDa,qCz,qCi,qCh,qCg,qCf,qCe,qCd,qCc,qCb,qCa,qBy,qBz,qBc,qBs,qBg,vE_0,vE_1,vE_2,vE_3,vE_4,vE_5,qDi,qDh,qDg,qBd,qDj,hc0,hcs,o,ik,lk];have hx:exec k pc i r s.g=⟨pc+1,r,s.g,{ e with obj:=0 }⟩:=by
      obtain ⟨op,a,b',c⟩:=i;obtain ⟨e1,e2,e3,e4,e5,e6⟩:=e;simp only at o he;subst o;obtain ⟨rfl,rfl,rfl,rfl,rfl⟩:=he;simp only [exec,qCn,sI,Int.toNat_natCast,if_true,if_false]
    have hd:qEe s k (exec k pc i r s.g)={ s with g:=s.g }:=by rw [hx]; unfold qEe; rw [rset]
    rw [hd,hx] at hk;have OE:Owns b _ v (want { s with g:=s.g } v):=O;exact hk v _ (qDk (p:=p) (s':={ s with g:=s.g }) (e':=e) hb rfl (fun _ _=>rfl) OE).1 O.like (qDk (p:=p) (s':={ s with g:=s.g }) (e':=e) hb rfl (fun _ _=>rfl) OE).2
  . -- Go
    have wa:=w0 (w:=6) (by rw [o]; rfl) (by decide) rfl
    obtain ⟨A,hA,_,hAl,hAy⟩:=qFm (l:=s.g.began) wa.1 (by rw [hs.began]; exact wa.2)
    obtain ⟨y,hy⟩:∃ y,y=gI s.g.began i.a:=⟨_,rfl⟩;rw [← hy] at hAy;obtain ⟨ia,la⟩:=O.get 1 (i:=A) (x:=vI y) (by rw [want_1,List.getElem?_map,hAy]; rfl)
    obtain ⟨H1,t1,hl1,L1,O1,kb1⟩:=O.put rfl 1 (i:=A) (x:=vI (1)) (by rw [want_1]; simpa using hAl) rfl
    rw [up_1] at O1;simp [qAk,qAn,qAl,qAi,qAf,qAe,qAb,qAc,qAa,qAj,qAg,qAd,qAu,qAv,resV,retV,qAm,qAh,qAt,qAs,qAr,qAq,qDw,-qAo,qBa,qAw,qBe,vS_0,vS_1,vS_2,vS_3,vS_4,vS_5,vS_6,vS_7,vS_8,vS_9,qBp,qBo,qBn,qBm,qBl,qBk,qBj,qBi,qBh,qBb,qAx,qAp,vN_0,vN_1,vN_2,vN_3,qBw,qBr,qBf,qDe,qDd,qDc,qDb,qDa,qCz,qCi,qCh,qCg,qCf,qCe,qCd,qCc,qCb,qCa,qBy,qBz,qBc,qBs,qBg,vE_0,vE_1,vE_2,vE_3,vE_4,vE_5,qDi,qDh,qDg,qBd,qDj,hc0,hcs,o,ik,lk,hA,ia,la,t1,L1.cell,L1.cell0,L1.cells,L1.cells0,L1.store,L1.store0,L1.len]
    have hx:exec k pc i r s.g=⟨pc+1,r,{ s.g with trap:=y,began:=s.g.began.set A 1 },{ e with obj:=A }⟩:=by
      obtain ⟨op,a,b',c⟩:=i;obtain ⟨e1,e2,e3,e4,e5,e6⟩:=e;simp only at o he hA hy;subst o; subst hA;obtain ⟨rfl,rfl,rfl,rfl,rfl⟩:=he;simp only [exec,qCn,sI,← hy,Int.toNat_natCast,if_true,if_false]
    have hd:qEe s k (exec k pc i r s.g)={ s with g:={ s.g with trap:=y,began:=s.g.began.set A 1 } }:=by rw [hx]; unfold qEe; rw [rset]
    rw [hd,hx] at hk;have OE:Owns b _ v (want { s with g:={ s.g with trap:=y,began:=s.g.began.set A 1 } } v):=O1;exact hk v _ (qDk (p:=p) (s':={ s with g:={ s.g with trap:=y,began:=s.g.began.set A 1 } }) (e':=e) hb hl1 kb1 OE).1 O.like (qDk (p:=p) (s':={ s with g:={ s.g with trap:=y,began:=s.g.began.set A 1 } }) (e':=e) hb hl1 kb1 OE).2
  . -- Lock
    have wa:=w0 (w:=7) (by rw [o]; rfl) (by decide) rfl
    obtain ⟨A,hA,_,hAl,hAy⟩:=qFm (l:=s.g.locks) wa.1 (by rw [hs.locks]; exact wa.2)
    obtain ⟨y,hy⟩:∃ y,y=gI s.g.locks i.a:=⟨_,rfl⟩;rw [← hy] at hAy;obtain ⟨ia,la⟩:=O.get 5 (i:=A) (x:=vI y) (by rw [qNg,List.getElem?_map,hAy]; rfl)
    obtain ⟨H1,t1,hl1,L1,O1,kb1⟩:=O.put rfl 5 (i:=A) (x:=vI (-1)) (by rw [qNg]; simpa using hAl) rfl
    rw [up_5] at O1;simp [qAk,qAn,qAl,qAi,qAf,qAe,qAb,qAc,qAa,qAj,qAg,qAd,qAu,qAv,resV,retV,qAm,qAh,qAt,qAs,qAr,qAq,qDw,-qAo,qBa,qAw,qBe,vS_0,vS_1,vS_2,vS_3,vS_4,vS_5,vS_6,vS_7,vS_8,vS_9,qBp,qBo,qBn,qBm,qBl,qBk,qBj,qBi,qBh,qBb,qAx,qAp,vN_0,vN_1,vN_2,vN_3,qBw,qBr,qBf,qDe,qDd,qDc,qDb,qDa,qCz,qCi,qCh,qCg,qCf,qCe,qCd,qCc,qCb,qCa,qBy,qBz,qBc,qBs,qBg,vE_0,vE_1,vE_2,vE_3,vE_4,vE_5,qDi,qDh,qDg,qBd,qDj,hc0,hcs,o,ik,lk,hA,ia,la,t1,L1.cell,L1.cell0,L1.cells,L1.cells0,L1.store,L1.store0,L1.len]
    have hx:exec k pc i r s.g=⟨pc+1,r,{ s.g with locks:=s.g.locks.set A (-1) },{ e with obj:=A }⟩:=by
      obtain ⟨op,a,b',c⟩:=i;obtain ⟨e1,e2,e3,e4,e5,e6⟩:=e;simp only at o he hA;subst o; subst hA;obtain ⟨rfl,rfl,rfl,rfl,rfl⟩:=he;simp only [exec,qCn,sI,Int.toNat_natCast,if_true,if_false]
    have hd:qEe s k (exec k pc i r s.g)={ s with g:={ s.g with locks:=s.g.locks.set A (-1) } }:=by rw [hx]; unfold qEe; rw [rset]
    rw [hd,hx] at hk;have OE:Owns b _ v (want { s with g:={ s.g with locks:=s.g.locks.set A (-1) } } v):=O1;exact hk v _ (qDk (p:=p) (s':={ s with g:={ s.g with locks:=s.g.locks.set A (-1) } }) (e':=e) hb hl1 kb1 OE).1 O.like (qDk (p:=p) (s':={ s with g:={ s.g with locks:=s.g.locks.set A (-1) } }) (e':=e) hb hl1 kb1 OE).2
  . -- Unlock
    have wa:=w0 (w:=7) (by rw [o]; rfl) (by decide) rfl
    obtain ⟨A,hA,_,hAl,hAy⟩:=qFm (l:=s.g.locks) wa.1 (by rw [hs.locks]; exact wa.2)
    obtain ⟨y,hy⟩:∃ y,y=gI s.g.locks i.a:=⟨_,rfl⟩;rw [← hy] at hAy;obtain ⟨ia,la⟩:=O.get 5 (i:=A) (x:=vI y) (by rw [qNg,List.getElem?_map,hAy]; rfl)
    by_cases hc:y=-1
    . obtain ⟨H1,t1,hl1,L1,O1,kb1⟩:=O.put rfl 5 (i:=A) (x:=vI (0)) (by rw [qNg]; simpa using hAl) rfl
      rw [up_5] at O1;simp [qAk,qAn,qAl,qAi,qAf,qAe,qAb,qAc,qAa,qAj,qAg,qAd,qAu,qAv,resV,retV,qAm,qAh,qAt,qAs,qAr,qAq,qDw,-qAo,qBa,qAw,qBe,vS_0,vS_1,vS_2,vS_3,vS_4,vS_5,vS_6,vS_7,vS_8,vS_9,qBp,qBo,qBn,qBm,qBl,qBk,qBj,qBi,qBh,qBb,qAx,qAp,vN_0,vN_1,vN_2,vN_3,qBw,qBr,qBf,qDe,qDd,qDc,qDb,qDa,qCz,qCi,qCh,qCg,qCf,qCe,qCd,qCc,qCb,qCa,qBy,qBz,qBc,qBs,qBg,vE_0,vE_1,vE_2,vE_3,vE_4,vE_5,qDi,qDh,qDg,qBd,qDj,hc0,hcs,o,ik,lk,hA,ia,la,t1,L1.cell,L1.cell0,L1.cells,L1.cells0,L1.store,L1.store0,L1.len]
      refine qCq ?_;simp [qAk,qAn,qAl,qAi,qAf,qAe,qAb,qAc,qAa,qAj,qAg,qAd,qAu,qAv,resV,retV,qAm,qAh,qAt,qAs,qAr,qAq,callK_def,-qAo,qBa,qAw,qBe,vS_0,vS_1,vS_2,vS_3,vS_4,vS_5,vS_6,vS_7,vS_8,vS_9,qBp,qBo,qBn,qBm,qBl,qBk,qBj,qBi,qBh,qBb,qAx,qAp,vN_0,vN_1,vN_2,vN_3,qBw,qBr,qBf,qDe,qDd,qDc,qDb,qDa,qCz,qCi,qCh,qCg,qCf,qCe,qCd,qCc,qCb,qCa,qBy,qBz,qBc,qBs,qBg,vE_0,vE_1,vE_2,vE_3,vE_4,vE_5,qDi,qDh,qDg,qBd,qDj,hc0,hcs,o,ik,lk,hA,ia,la,t1,hc,numI,L1.cell,L1.cell0,L1.cells,L1.cells0,L1.store,L1.store0,L1.len]
      have hx:exec k pc i r s.g=⟨pc+1,r,{ s.g with trap:=0,locks:=s.g.locks.set A 0 },{ e with obj:=A }⟩:=by
        obtain ⟨op,a,b',c⟩:=i;obtain ⟨e1,e2,e3,e4,e5,e6⟩:=e;simp only at o he hA hy;subst o; subst hA;obtain ⟨rfl,rfl,rfl,rfl,rfl⟩:=he;simp only [exec,qCn,sI,← hy,hc,Int.toNat_natCast,if_true,if_false]
      have hd:qEe s k (exec k pc i r s.g)={ s with g:={ s.g with trap:=0,locks:=s.g.locks.set A 0 } }:=by rw [hx]; unfold qEe; rw [rset]
      rw [hd,hx] at hk;have OE:Owns b _ v (want { s with g:={ s.g with trap:=0,locks:=s.g.locks.set A 0 } } v):=O1;exact hk v _ (qDk (p:=p) (s':={ s with g:={ s.g with trap:=0,locks:=s.g.locks.set A 0 } }) (e':=e) hb hl1 kb1 OE).1 O.like (qDk (p:=p) (s':={ s with g:={ s.g with trap:=0,locks:=s.g.locks.set A 0 } }) (e':=e) hb hl1 kb1 OE).2
    . simp [qAk,qAn,qAl,qAi,qAf,qAe,qAb,qAc,qAa,qAj,qAg,qAd,qAu,qAv,resV,retV,qAm,qAh,qAt,qAs,qAr,qAq,qDw,-qAo,qBa,qAw,qBe,vS_0,vS_1,vS_2,vS_3,vS_4,vS_5,vS_6,vS_7,vS_8,vS_9,qBp,qBo,qBn,qBm,qBl,qBk,qBj,qBi,qBh,qBb,qAx,qAp,vN_0,vN_1,vN_2,vN_3,qBw,qBr,qBf,qDe,qDd,qDc,qDb,qDa,qCz,qCi,qCh,qCg,qCf,qCe,qCd,qCc,qCb,qCa,qBy,qBz,qBc,qBs,qBg,vE_0,vE_1,vE_2,vE_3,vE_4,vE_5,qDi,qDh,qDg,qBd,qDj,hc0,hcs,o,ik,lk,hA,ia,la,]
      refine qCq ?_;simp [qAk,qAn,qAl,qAi,qAf,qAe,qAb,qAc,qAa,qAj,qAg,qAd,qAu,qAv,resV,retV,qAm,qAh,qAt,qAs,qAr,qAq,callK_def,-qAo,qBa,qAw,qBe,vS_0,vS_1,vS_2,vS_3,vS_4,vS_5,vS_6,vS_7,vS_8,vS_9,qBp,qBo,qBn,qBm,qBl,qBk,qBj,qBi,qBh,qBb,qAx,qAp,vN_0,vN_1,vN_2,vN_3,qBw,qBr,qBf,qDe,qDd,qDc,qDb,qDa,qCz,qCi,qCh,qCg,qCf,qCe,qCd,qCc,qCb,qCa,qBy,qBz,qBc,qBs,qBg,vE_0,vE_1,vE_2,vE_3,vE_4,vE_5,qDi,qDh,qDg,qBd,qDj,hc0,hcs,o,ik,lk,hA,ia,la,hc,numI]
      have hx:exec k pc i r s.g=⟨pc+1,r,{ s.g with trap:=1 },{ e with obj:=A }⟩:=by
        obtain ⟨op,a,b',c⟩:=i;obtain ⟨e1,e2,e3,e4,e5,e6⟩:=e;simp only at o he hA hy;subst o; subst hA;obtain ⟨rfl,rfl,rfl,rfl,rfl⟩:=he;simp only [exec,qCn,sI,← hy,hc,Int.toNat_natCast,if_true,if_false]
      have hd:qEe s k (exec k pc i r s.g)={ s with g:={ s.g with trap:=1 } }:=by rw [hx]; unfold qEe; rw [rset]
      rw [hd,hx] at hk;have OE:Owns b _ v (want { s with g:={ s.g with trap:=1 } } v):=O;exact hk v _ (qDk (p:=p) (s':={ s with g:={ s.g with trap:=1 } }) (e':=e) hb rfl (fun _ _=>rfl) OE).1 O.like (qDk (p:=p) (s':={ s with g:={ s.g with trap:=1 } }) (e':=e) hb rfl (fun _ _=>rfl) OE).2
  . -- RLock
    have wa:=w0 (w:=7) (by rw [o]; rfl) (by decide) rfl
    obtain ⟨A,hA,_,hAl,hAy⟩:=qFm (l:=s.g.locks) wa.1 (by rw [hs.locks]; exact wa.2)
    obtain ⟨y,hy⟩:∃ y,y=gI s.g.locks i.a:=⟨_,rfl⟩;rw [← hy] at hAy;obtain ⟨ia,la⟩:=O.get 5 (i:=A) (x:=vI y) (by rw [qNg,List.getElem?_map,hAy]; rfl)
    obtain ⟨H1,t1,hl1,L1,O1,kb1⟩:=O.put rfl 5 (i:=A) (x:=vI (w64 (y+1))) (by rw [qNg]; simpa using hAl) rfl
    rw [up_5] at O1;have wy:IntKind.i64.wrap (y+1)=w64 (y+1):=rfl;simp [qAk,qAn,qAl,qAi,qAf,qAe,qAb,qAc,qAa,qAj,qAg,qAd,qAu,qAv,resV,retV,qAm,qAh,qAt,qAs,qAr,qAq,qDw,-qAo,qBa,qAw,qBe,vS_0,vS_1,vS_2,vS_3,vS_4,vS_5,vS_6,vS_7,vS_8,vS_9,qBp,qBo,qBn,qBm,qBl,qBk,qBj,qBi,qBh,qBb,qAx,qAp,vN_0,vN_1,vN_2,vN_3,qBw,qBr,qBf,qDe,qDd,qDc,qDb,qDa,qCz,qCi,qCh,qCg,qCf,qCe,qCd,qCc,qCb,qCa,qBy,qBz,qBc,qBs,qBg,vE_0,vE_1,vE_2,vE_3,vE_4,vE_5,qDi,qDh,qDg,qBd,qDj,hc0,hcs,o,ik,lk,hA,ia,la,wy,t1,L1.cell,L1.cell0,L1.cells,L1.cells0,L1.store,L1.store0,L1.len]
    have hx:exec k pc i r s.g=⟨pc+1,r,{ s.g with locks:=s.g.locks.set A (w64 (y+1)) },{ e with obj:=A }⟩:=by
      obtain ⟨op,a,b',c⟩:=i;obtain ⟨e1,e2,e3,e4,e5,e6⟩:=e;simp only at o he hA hy;subst o; subst hA;obtain ⟨rfl,rfl,rfl,rfl,rfl⟩:=he;simp only [exec,qCn,sI,← hy,Int.toNat_natCast,if_true,if_false]
    have hd:qEe s k (exec k pc i r s.g)={ s with g:={ s.g with locks:=s.g.locks.set A (w64 (y+1)) } }:=by rw [hx]; unfold qEe; rw [rset]
    rw [hd,hx] at hk;have OE:Owns b _ v (want { s with g:={ s.g with locks:=s.g.locks.set A (w64 (y+1)) } } v):=O1;exact hk v _ (qDk (p:=p) (s':={ s with g:={ s.g with locks:=s.g.locks.set A (w64 (y+1)) } }) (e':=e) hb hl1 kb1 OE).1 O.like (qDk (p:=p) (s':={ s with g:={ s.g with locks:=s.g.locks.set A (w64 (y+1)) } }) (e':=e) hb hl1 kb1 OE).2
  . -- RUnlock
    have wa:=w0 (w:=7) (by rw [o]; rfl) (by decide) rfl
    obtain ⟨A,hA,_,hAl,hAy⟩:=qFm (l:=s.g.locks) wa.1 (by rw [hs.locks]; exact wa.2)
    obtain ⟨y,hy⟩:∃ y,y=gI s.g.locks i.a:=⟨_,rfl⟩;rw [← hy] at hAy;obtain ⟨ia,la⟩:=O.get 5 (i:=A) (x:=vI y) (by rw [qNg,List.getElem?_map,hAy]; rfl)
    have wy:IntKind.i64.wrap (y - 1)=w64 (y - 1):=rfl
    by_cases hc:¬ y < 1
    . obtain ⟨H1,t1,hl1,L1,O1,kb1⟩:=O.put rfl 5 (i:=A) (x:=vI (w64 (y - 1))) (by rw [qNg]; simpa using hAl) rfl
      rw [up_5] at O1;simp [qAk,qAn,qAl,qAi,qAf,qAe,qAb,qAc,qAa,qAj,qAg,qAd,qAu,qAv,resV,retV,qAm,qAh,qAt,qAs,qAr,qAq,qDw,-qAo,qBa,qAw,qBe,vS_0,vS_1,vS_2,vS_3,vS_4,vS_5,vS_6,vS_7,vS_8,vS_9,qBp,qBo,qBn,qBm,qBl,qBk,qBj,qBi,qBh,qBb,qAx,qAp,vN_0,vN_1,vN_2,vN_3,qBw,qBr,qBf,qDe,qDd,qDc,qDb,qDa,qCz,qCi,qCh,qCg,qCf,qCe,qCd,qCc,qCb,qCa,qBy,qBz,qBc,qBs,qBg,vE_0,vE_1,vE_2,vE_3,vE_4,vE_5,qDi,qDh,qDg,qBd,qDj,hc0,hcs,o,ik,lk,hA,ia,la,wy,t1,L1.cell,L1.cell0,L1.cells,L1.cells0,L1.store,L1.store0,L1.len]
      refine qCq ?_;simp [qAk,qAn,qAl,qAi,qAf,qAe,qAb,qAc,qAa,qAj,qAg,qAd,qAu,qAv,resV,retV,qAm,qAh,qAt,qAs,qAr,qAq,callK_def,-qAo,qBa,qAw,qBe,vS_0,vS_1,vS_2,vS_3,vS_4,vS_5,vS_6,vS_7,vS_8,vS_9,qBp,qBo,qBn,qBm,qBl,qBk,qBj,qBi,qBh,qBb,qAx,qAp,vN_0,vN_1,vN_2,vN_3,qBw,qBr,qBf,qDe,qDd,qDc,qDb,qDa,qCz,qCi,qCh,qCg,qCf,qCe,qCd,qCc,qCb,qCa,qBy,qBz,qBc,qBs,qBg,vE_0,vE_1,vE_2,vE_3,vE_4,vE_5,qDi,qDh,qDg,qBd,qDj,hc0,hcs,o,ik,lk,hA,ia,la,wy,t1,hc,numI,L1.cell,L1.cell0,L1.cells,L1.cells0,L1.store,L1.store0,L1.len]
      have hx:exec k pc i r s.g=⟨pc+1,r,{ s.g with trap:=0,locks:=s.g.locks.set A (w64 (y - 1)) },{ e with obj:=A }⟩:=by
        obtain ⟨op,a,b',c⟩:=i;obtain ⟨e1,e2,e3,e4,e5,e6⟩:=e;simp only at o he hA hy;subst o; subst hA;obtain ⟨rfl,rfl,rfl,rfl,rfl⟩:=he;simp only [exec,qCn,sI,← hy,hc,Int.toNat_natCast,if_true,if_false]
      have hd:qEe s k (exec k pc i r s.g)={ s with g:={ s.g with trap:=0,locks:=s.g.locks.set A (w64 (y - 1)) } }:=by rw [hx]; unfold qEe; rw [rset]
      rw [hd,hx] at hk;have OE:Owns b _ v (want { s with g:={ s.g with trap:=0,locks:=s.g.locks.set A (w64 (y - 1)) } } v):=O1;exact hk v _ (qDk (p:=p) (s':={ s with g:={ s.g with trap:=0,locks:=s.g.locks.set A (w64 (y - 1)) } }) (e':=e) hb hl1 kb1 OE).1 O.like (qDk (p:=p) (s':={ s with g:={ s.g with trap:=0,locks:=s.g.locks.set A (w64 (y - 1)) } }) (e':=e) hb hl1 kb1 OE).2
    . have hc:=Classical.not_not.1 hc
      simp [qAk,qAn,qAl,qAi,qAf,qAe,qAb,qAc,qAa,qAj,qAg,qAd,qAu,qAv,resV,retV,qAm,qAh,qAt,qAs,qAr,qAq,qDw,-qAo,qBa,qAw,qBe,vS_0,vS_1,vS_2,vS_3,vS_4,vS_5,vS_6,vS_7,vS_8,vS_9,qBp,qBo,qBn,qBm,qBl,qBk,qBj,qBi,qBh,qBb,qAx,qAp,vN_0,vN_1,vN_2,vN_3,qBw,qBr,qBf,qDe,qDd,qDc,qDb,qDa,qCz,qCi,qCh,qCg,qCf,qCe,qCd,qCc,qCb,qCa,qBy,qBz,qBc,qBs,qBg,vE_0,vE_1,vE_2,vE_3,vE_4,vE_5,qDi,qDh,qDg,qBd,qDj,hc0,hcs,o,ik,lk,hA,ia,la,wy,]
      refine qCq ?_;simp [qAk,qAn,qAl,qAi,qAf,qAe,qAb,qAc,qAa,qAj,qAg,qAd,qAu,qAv,resV,retV,qAm,qAh,qAt,qAs,qAr,qAq,callK_def,-qAo,qBa,qAw,qBe,vS_0,vS_1,vS_2,vS_3,vS_4,vS_5,vS_6,vS_7,vS_8,vS_9,qBp,qBo,qBn,qBm,qBl,qBk,qBj,qBi,qBh,qBb,qAx,qAp,vN_0,vN_1,vN_2,vN_3,qBw,qBr,qBf,qDe,qDd,qDc,qDb,qDa,qCz,qCi,qCh,qCg,qCf,qCe,qCd,qCc,qCb,qCa,qBy,qBz,qBc,qBs,qBg,vE_0,vE_1,vE_2,vE_3,vE_4,vE_5,qDi,qDh,qDg,qBd,qDj,hc0,hcs,o,ik,lk,hA,ia,la,wy,hc,numI]
      have hx:exec k pc i r s.g=⟨pc+1,r,{ s.g with trap:=1 },{ e with obj:=A }⟩:=by
        obtain ⟨op,a,b',c⟩:=i;obtain ⟨e1,e2,e3,e4,e5,e6⟩:=e;simp only at o he hA hy;subst o; subst hA;obtain ⟨rfl,rfl,rfl,rfl,rfl⟩:=he;simp only [exec,qCn,sI,← hy,hc,Int.toNat_natCast,if_true,if_false]
      have hd:qEe s k (exec k pc i r s.g)={ s with g:={ s.g with trap:=1 } }:=by rw [hx]; unfold qEe; rw [rset]
      rw [hd,hx] at hk;have OE:Owns b _ v (want { s with g:={ s.g with trap:=1 } } v):=O;exact hk v _ (qDk (p:=p) (s':={ s with g:={ s.g with trap:=1 } }) (e':=e) hb rfl (fun _ _=>rfl) OE).1 O.like (qDk (p:=p) (s':={ s with g:={ s.g with trap:=1 } }) (e':=e) hb rfl (fun _ _=>rfl) OE).2
  . -- Write
    have wa:=w0 (w:=8) (by rw [o]; rfl) (by decide) rfl
    obtain ⟨A,hA,_,hAl,hAy⟩:=qFm (l:=s.g.atoms) wa.1 (by rw [hs.atoms]; exact wa.2)
    obtain ⟨y,hy⟩:∃ y,y=gI s.g.atoms i.a:=⟨_,rfl⟩;rw [← hy] at hAy;obtain ⟨ia,la⟩:=O.get 4 (i:=A) (x:=vI y) (by rw [qRr,List.getElem?_map,hAy]; rfl)
    obtain ⟨B,hB,hBz⟩:=reg i.b (w1 (by rw [o]; rfl))
    obtain ⟨z,hz⟩:∃ z,z=gI r i.b:=⟨_,rfl⟩;rw [← hz] at hBz;obtain ⟨ib,lb⟩:=O.get (16+2 * k) (i:=B) (x:=vI z) (by rw [hkr,List.getElem?_map,hBz]; rfl)
    obtain ⟨H1,t1,hl1,L1,O1,kb1⟩:=O.put rfl 4 (i:=A) (x:=vI (z)) (by rw [qRr]; simpa using hAl) rfl
    rw [up_4] at O1;obtain ⟨_,lb1⟩:=O1.get (16+2 * k) (i:=B) (x:=vI z) (by rw [qEj,hr]; simp [hBz])
    simp [qAk,qAn,qAl,qAi,qAf,qAe,qAb,qAc,qAa,qAj,qAg,qAd,qAu,qAv,resV,retV,qAm,qAh,qAt,qAs,qAr,qAq,qDw,-qAo,qBa,qAw,qBe,vS_0,vS_1,vS_2,vS_3,vS_4,vS_5,vS_6,vS_7,vS_8,vS_9,qBp,qBo,qBn,qBm,qBl,qBk,qBj,qBi,qBh,qBb,qAx,qAp,vN_0,vN_1,vN_2,vN_3,qBw,qBr,qBf,qDe,qDd,qDc,qDb,qDa,qCz,qCi,qCh,qCg,qCf,qCe,qCd,qCc,qCb,qCa,qBy,qBz,qBc,qBs,qBg,vE_0,vE_1,vE_2,vE_3,vE_4,vE_5,qDi,qDh,qDg,qBd,qDj,hc0,hcs,o,ik,lk,hA,hB,ia,la,ib,lb,lb1,t1,L1.cell,L1.cell0,L1.cells,L1.cells0,L1.store,L1.store0,L1.len]
    have hx:exec k pc i r s.g=⟨pc+1,r,{ s.g with atoms:=s.g.atoms.set A z },{ e with obj:=A,value:=z }⟩:=by
      obtain ⟨op,a,b',c⟩:=i;obtain ⟨e1,e2,e3,e4,e5,e6⟩:=e;simp only at o he hA hB hz;subst o; subst hA; subst hB;obtain ⟨rfl,rfl,rfl,rfl,rfl⟩:=he;simp only [exec,qCn,sI,← hz,Int.toNat_natCast,if_true,if_false]
    have hd:qEe s k (exec k pc i r s.g)={ s with g:={ s.g with atoms:=s.g.atoms.set A z } }:=by rw [hx]; unfold qEe; rw [rset]
    rw [hd,hx] at hk;have OE:Owns b _ v (want { s with g:={ s.g with atoms:=s.g.atoms.set A z } } v):=O1;exact hk v _ (qDk (p:=p) (s':={ s with g:={ s.g with atoms:=s.g.atoms.set A z } }) (e':=e) hb hl1 kb1 OE).1 O.like (qDk (p:=p) (s':={ s with g:={ s.g with atoms:=s.g.atoms.set A z } }) (e':=e) hb hl1 kb1 OE).2
  . -- Send
    have wa:=w0 (w:=9) (by rw [o]; rfl) (by decide) rfl
    obtain ⟨A,hA,_,hAl,hAy⟩:=qFm (l:=s.g.closed) wa.1 (by rw [hs.closed]; exact wa.2)
    obtain ⟨y,hy⟩:∃ y,y=gI s.g.closed i.a:=⟨_,rfl⟩;rw [← hy] at hAy;obtain ⟨ia,la⟩:=O.get 7 (i:=A) (x:=vI y) (by rw [qRq,List.getElem?_map,hAy]; rfl)
    obtain ⟨B,hB,hBz⟩:=reg i.b (w1 (by rw [o]; rfl))
    obtain ⟨z,hz⟩:∃ z,z=gI r i.b:=⟨_,rfl⟩;rw [← hz] at hBz;obtain ⟨ib,lb⟩:=O.get (16+2 * k) (i:=B) (x:=vI z) (by rw [hkr,List.getElem?_map,hBz]; rfl)
    have hq:=qSn (q:=s.g.queue) wa.1 (by rw [hs.queue]; exact wa.2)
    obtain ⟨q,hqq⟩:∃ q,q=gL s.g.queue i.a:=⟨_,rfl⟩;rw [← hqq,hA,show ((A:Int)).toNat=A by omega] at hq
    have hql':=hql q (List.mem_of_getElem? hq);have hAq:=(List.getElem?_eq_some_iff.1 hq).1;obtain ⟨i6,l6⟩:=O.get 6 (i:=A) (x:=v (17+2 * A)) (by rw [qGz]; simp [hAq])
    have wq:want s v (17+2 * A)=q.map vI:=by rw [qGy,hq]; rfl
    have sv6:=O.stay 6
    by_cases hc:y=0
    . simp [qAk,qAn,qAl,qAi,qAf,qAe,qAb,qAc,qAa,qAj,qAg,qAd,qAu,qAv,resV,retV,qAm,qAh,qAt,qAs,qAr,qAq,qDw,-qAo,qBa,qAw,qBe,vS_0,vS_1,vS_2,vS_3,vS_4,vS_5,vS_6,vS_7,vS_8,vS_9,qBp,qBo,qBn,qBm,qBl,qBk,qBj,qBi,qBh,qBb,qAx,qAp,vN_0,vN_1,vN_2,vN_3,qBw,qBr,qBf,qDe,qDd,qDc,qDb,qDa,qCz,qCi,qCh,qCg,qCf,qCe,qCd,qCc,qCb,qCa,qBy,qBz,qBc,qBs,qBg,vE_0,vE_1,vE_2,vE_3,vE_4,vE_5,qDi,qDh,qDg,qBd,qDj,hc0,hcs,o,ik,lk,hA,hB,ia,la,ib,lb,i6,l6,hc]
      refine O.pushB hb (17+2 * A) (x:=vI z) (pElems_box (m:=5) rfl rfl) (by rw [wq,List.length_map]; omega) fun w H1 g hl1 L1 O1 kb1 ac1 kw rw_=>?_
      obtain ⟨H2,t2,hl2,O2,kb2⟩:=O1.putR 6 (i:=A) (x:=w) (by rw [qAz (by omega),qGz]; simpa using hAq) (fun id hid=>by rw [qAz (by omega)] at hid; exact (ac1 6 (by omega)).lt hid) kw
      rw [qAz (show (6:Nat)≠17+2 * A by omega)] at t2
      have ln:H1.length=h.length:=hl1;have L2:=lies (hl2.trans hl1);have e6:fset (want s v) (17+2 * A) (want s v (17+2 * A)++[vI z]) 6=want s v 6:=qAz (by omega)
      rw [e6,up_q hq] at O2;simp only [List.cons_append,List.nil_append] at t2;have hcw:∀ t,cellsOf (.agg (cS p { s with g:={ s.g with trap:=t } } v).toArray)=some (cS p { s with g:={ s.g with trap:=t } } v):=hcs;simp [qAk,qAn,qAl,qAi,qAf,qAe,qAb,qAc,qAa,qAj,qAg,qAd,qAu,qAv,resV,retV,qAm,qAh,qAt,qAs,qAr,qAq,-qAo,qBa,qAw,qBe,vS_0,vS_1,vS_2,vS_3,vS_4,vS_5,vS_6,vS_7,vS_8,vS_9,qBp,qBo,qBn,qBm,qBl,qBk,qBj,qBi,qBh,qBb,qAx,qAp,vN_0,vN_1,vN_2,vN_3,qBw,qBr,qBf,qDe,qDd,qDc,qDb,qDa,qCz,qCi,qCh,qCg,qCf,qCe,qCd,qCc,qCb,qCa,qBy,qBz,qBc,qBs,qBg,vE_0,vE_1,vE_2,vE_3,vE_4,vE_5,qDi,qDh,qDg,qBd,qDj,hc0,hcs,o,ik,lk,hA,hB,i6,sv6,kw,t2,L1.cell,L1.cell0,L1.cells,L1.cells0,L1.store,L1.store0,L1.len,L2.cell,L2.cell0,L2.cells,L2.cells0,L2.store,L2.store0,L2.len]
      have hx:exec k pc i r s.g=⟨pc+1,r,{ s.g with trap:=0,queue:=s.g.queue.set A (q++[z]) },{ e with obj:=A,value:=z }⟩:=by
        obtain ⟨op,a,b',c⟩:=i;obtain ⟨e1,e2,e3,e4,e5,e6⟩:=e;simp only at o he hA hB hy hz hqq;subst o; subst hA; subst hB;obtain ⟨rfl,rfl,rfl,rfl,rfl⟩:=he;simp only [exec,qCn,sI,← hy,← hz,← hqq,hc,Int.toNat_natCast,if_true,if_false]
      have hd:qEe s k (exec k pc i r s.g)={ s with g:={ s.g with trap:=0,queue:=s.g.queue.set A (q++[z]) } }:=by rw [hx]; unfold qEe; rw [rset]
      rw [hd,hx] at hk;have OE:Owns b _ (fset v (17+2 * A) w) (want { s with g:={ s.g with trap:=0,queue:=s.g.queue.set A (q++[z]) } } (fset v (17+2 * A) w)):=O2;have hl3:H2.length=h.length:=hl2.trans hl1;have low:∀ m i,rid (v m)=some i→i < h.length:=fun m i hi=>(O.acc m).lt hi
      have:=hk (fset v (17+2 * A) w) (H2++[bx (cS p { s with g:={ s.g with trap:=0 } } v) 19,bx (vIns i) 4,bx (vEv { e with obj:=A,value:=z }) 6,bx (cS p { s with g:={ s.g with trap:=0 } } v) 19,bx (vEv { e with obj:=A,value:=z }) 6,bx [vI z] 1]++g) ⟨by simp; omega,fun i hi hm=>?_⟩ (fun m=>?_) fun H'' hl'' ha=>?_
      . rw [cS_q,List.append_assoc] at this
        exact this
      . rw [List.append_assoc,List.getElem?_append_left (by omega),kb2 i (fun m hm'=>?_),kb1 i hm]
        by_cases hmj:m=17+2 * A
        . subst hmj
          rw [qBt] at hm';rcases rw_ i hm' with h1 | h1
          . exact hm _ h1
          . rw [List.length_append] at h1; omega
        . rw [qAz hmj] at hm'
          exact hm m hm'
      . exact OE.like m
      . refine inlS (OE.keepO fun i m hi=>?_)
        have key:i < h.length→(∃ m,rid (v m)=some i)→H''[i]?=H2[i]?:=fun h1 h2=>by
          rw [ha i (by simp; omega) (fun _=>h2),List.append_assoc,List.getElem?_append_left (by omega)]
        by_cases hmj:m=17+2 * A
        . subst hmj
          have hi':=hi;rw [qBt] at hi';rcases rw_ i hi' with h1 | h1
          . have:=low _ _ h1
            rw [key this ⟨_,h1⟩,List.getElem?_append_left (by omega)]
          . have h1':h.length+6≤i:=by simpa using h1
            have hlt:=(OE.acc (17+2 * A)).lt hi;simp only [List.length_append,List.length_cons,List.length_nil] at hlt;rw [ha i (by simp; omega) (fun hh=>by omega),List.append_assoc,qRo (n:=h.length+6) (by simp; omega) h1',qRo (n:=h.length+6) (by simp; omega) h1']
        . rw [qAz hmj] at hi
          have:=low _ _ hi;rw [key this ⟨_,hi⟩,List.getElem?_append_left (by omega)]
    . simp [qAk,qAn,qAl,qAi,qAf,qAe,qAb,qAc,qAa,qAj,qAg,qAd,qAu,qAv,resV,retV,qAm,qAh,qAt,qAs,qAr,qAq,qDw,-qAo,qBa,qAw,qBe,vS_0,vS_1,vS_2,vS_3,vS_4,vS_5,vS_6,vS_7,vS_8,vS_9,qBp,qBo,qBn,qBm,qBl,qBk,qBj,qBi,qBh,qBb,qAx,qAp,vN_0,vN_1,vN_2,vN_3,qBw,qBr,qBf,qDe,qDd,qDc,qDb,qDa,qCz,qCi,qCh,qCg,qCf,qCe,qCd,qCc,qCb,qCa,qBy,qBz,qBc,qBs,qBg,vE_0,vE_1,vE_2,vE_3,vE_4,vE_5,qDi,qDh,qDg,qBd,qDj,hc0,hcs,o,ik,lk,hA,hB,ia,la,ib,lb,i6,l6,hc]
      have hx:exec k pc i r s.g=⟨pc+1,r,{ s.g with trap:=y },{ e with obj:=A,value:=z }⟩:=by
        obtain ⟨op,a,b',c⟩:=i;obtain ⟨e1,e2,e3,e4,e5,e6⟩:=e;simp only at o he hA hB hy hz;subst o; subst hA; subst hB;obtain ⟨rfl,rfl,rfl,rfl,rfl⟩:=he;simp only [exec,qCn,sI,← hy,← hz,hc,Int.toNat_natCast,if_true,if_false]
      have hd:qEe s k (exec k pc i r s.g)={ s with g:={ s.g with trap:=y } }:=by rw [hx]; unfold qEe; rw [rset]
      rw [hd,hx] at hk;have OE:Owns b _ v (want { s with g:={ s.g with trap:=y } } v):=O;exact hk v _ (qDk (p:=p) (s':={ s with g:={ s.g with trap:=y } }) (e':=e) hb rfl (fun _ _=>rfl) OE).1 O.like (qDk (p:=p) (s':={ s with g:={ s.g with trap:=y } }) (e':=e) hb rfl (fun _ _=>rfl) OE).2
  . -- Close
    have wa:=w0 (w:=9) (by rw [o]; rfl) (by decide) rfl
    obtain ⟨A,hA,_,hAl,hAy⟩:=qFm (l:=s.g.closed) wa.1 (by rw [hs.closed]; exact wa.2)
    obtain ⟨y,hy⟩:∃ y,y=gI s.g.closed i.a:=⟨_,rfl⟩;rw [← hy] at hAy;obtain ⟨ia,la⟩:=O.get 7 (i:=A) (x:=vI y) (by rw [qRq,List.getElem?_map,hAy]; rfl)
    obtain ⟨H1,t1,hl1,L1,O1,kb1⟩:=O.put rfl 7 (i:=A) (x:=vI (1)) (by rw [qRq]; simpa using hAl) rfl
    rw [up_7] at O1;simp [qAk,qAn,qAl,qAi,qAf,qAe,qAb,qAc,qAa,qAj,qAg,qAd,qAu,qAv,resV,retV,qAm,qAh,qAt,qAs,qAr,qAq,qDw,-qAo,qBa,qAw,qBe,vS_0,vS_1,vS_2,vS_3,vS_4,vS_5,vS_6,vS_7,vS_8,vS_9,qBp,qBo,qBn,qBm,qBl,qBk,qBj,qBi,qBh,qBb,qAx,qAp,vN_0,vN_1,vN_2,vN_3,qBw,qBr,qBf,qDe,qDd,qDc,qDb,qDa,qCz,qCi,qCh,qCg,qCf,qCe,qCd,qCc,qCb,qCa,qBy,qBz,qBc,qBs,qBg,vE_0,vE_1,vE_2,vE_3,vE_4,vE_5,qDi,qDh,qDg,qBd,qDj,hc0,hcs,o,ik,lk,hA,ia,la,t1,L1.cell,L1.cell0,L1.cells,L1.cells0,L1.store,L1.store0,L1.len]
    have hx:exec k pc i r s.g=⟨pc+1,r,{ s.g with trap:=y,closed:=s.g.closed.set A 1 },{ e with obj:=A }⟩:=by
      obtain ⟨op,a,b',c⟩:=i;obtain ⟨e1,e2,e3,e4,e5,e6⟩:=e;simp only at o he hA hy;subst o; subst hA;obtain ⟨rfl,rfl,rfl,rfl,rfl⟩:=he;simp only [exec,qCn,sI,← hy,Int.toNat_natCast,if_true,if_false]
    have hd:qEe s k (exec k pc i r s.g)={ s with g:={ s.g with trap:=y,closed:=s.g.closed.set A 1 } }:=by rw [hx]; unfold qEe; rw [rset]
    rw [hd,hx] at hk;have OE:Owns b _ v (want { s with g:={ s.g with trap:=y,closed:=s.g.closed.set A 1 } } v):=O1;exact hk v _ (qDk (p:=p) (s':={ s with g:={ s.g with trap:=y,closed:=s.g.closed.set A 1 } }) (e':=e) hb hl1 kb1 OE).1 O.like (qDk (p:=p) (s':={ s with g:={ s.g with trap:=y,closed:=s.g.closed.set A 1 } }) (e':=e) hb hl1 kb1 OE).2
  . -- Grow
    have wa:=w0 (w:=10) (by rw [o]; rfl) (by decide) rfl
    obtain ⟨A,hA,_,hAl,hAy⟩:=qFm (l:=s.g.groups) wa.1 (by rw [hs.groups]; exact wa.2)
    obtain ⟨y,hy⟩:∃ y,y=gI s.g.groups i.a:=⟨_,rfl⟩;rw [← hy] at hAy;obtain ⟨ia,la⟩:=O.get 8 (i:=A) (x:=vI y) (by rw [want_8,List.getElem?_map,hAy]; rfl)
    have wy:IntKind.i64.wrap (y+i.b)=w64 (y+i.b):=rfl
    by_cases hc:¬ w64 (y+i.b) < 0
    . obtain ⟨H1,t1,hl1,L1,O1,kb1⟩:=O.put rfl 8 (i:=A) (x:=vI (w64 (y+i.b))) (by rw [want_8]; simpa using hAl) rfl
      rw [up_8] at O1;simp [qAk,qAn,qAl,qAi,qAf,qAe,qAb,qAc,qAa,qAj,qAg,qAd,qAu,qAv,resV,retV,qAm,qAh,qAt,qAs,qAr,qAq,qDw,-qAo,qBa,qAw,qBe,vS_0,vS_1,vS_2,vS_3,vS_4,vS_5,vS_6,vS_7,vS_8,vS_9,qBp,qBo,qBn,qBm,qBl,qBk,qBj,qBi,qBh,qBb,qAx,qAp,vN_0,vN_1,vN_2,vN_3,qBw,qBr,qBf,qDe,qDd,qDc,qDb,qDa,qCz,qCi,qCh,qCg,qCf,qCe,qCd,qCc,qCb,qCa,qBy,qBz,qBc,qBs,qBg,vE_0,vE_1,vE_2,vE_3,vE_4,vE_5,qDi,qDh,qDg,qBd,qDj,hc0,hcs,o,ik,lk,hA,ia,la,wy,t1,L1.cell,L1.cell0,L1.cells,L1.cells0,L1.store,L1.store0,L1.len]
      refine qCq ?_;simp [qAk,qAn,qAl,qAi,qAf,qAe,qAb,qAc,qAa,qAj,qAg,qAd,qAu,qAv,resV,retV,qAm,qAh,qAt,qAs,qAr,qAq,callK_def,-qAo,qBa,qAw,qBe,vS_0,vS_1,vS_2,vS_3,vS_4,vS_5,vS_6,vS_7,vS_8,vS_9,qBp,qBo,qBn,qBm,qBl,qBk,qBj,qBi,qBh,qBb,qAx,qAp,vN_0,vN_1,vN_2,vN_3,qBw,qBr,qBf,qDe,qDd,qDc,qDb,qDa,qCz,qCi,qCh,qCg,qCf,qCe,qCd,qCc,qCb,qCa,qBy,qBz,qBc,qBs,qBg,vE_0,vE_1,vE_2,vE_3,vE_4,vE_5,qDi,qDh,qDg,qBd,qDj,hc0,hcs,o,ik,lk,hA,ia,la,wy,t1,hc,numI,L1.cell,L1.cell0,L1.cells,L1.cells0,L1.store,L1.store0,L1.len]
      have hx:exec k pc i r s.g=⟨pc+1,r,{ s.g with trap:=0,groups:=s.g.groups.set A (w64 (y+i.b)) },{ e with obj:=A,value:=i.b }⟩:=by
        obtain ⟨op,a,b',c⟩:=i;obtain ⟨e1,e2,e3,e4,e5,e6⟩:=e;simp only at o he hA hy;subst o; subst hA;obtain ⟨rfl,rfl,rfl,rfl,rfl⟩:=he;simp only [exec,qCn,sI,← hy,hc,Int.toNat_natCast,if_true,if_false]
      have hd:qEe s k (exec k pc i r s.g)={ s with g:={ s.g with trap:=0,groups:=s.g.groups.set A (w64 (y+i.b)) } }:=by rw [hx]; unfold qEe; rw [rset]
      rw [hd,hx] at hk;have OE:Owns b _ v (want { s with g:={ s.g with trap:=0,groups:=s.g.groups.set A (w64 (y+i.b)) } } v):=O1;exact hk v _ (qDk (p:=p) (s':={ s with g:={ s.g with trap:=0,groups:=s.g.groups.set A (w64 (y+i.b)) } }) (e':=e) hb hl1 kb1 OE).1 O.like (qDk (p:=p) (s':={ s with g:={ s.g with trap:=0,groups:=s.g.groups.set A (w64 (y+i.b)) } }) (e':=e) hb hl1 kb1 OE).2
    . have hc:=Classical.not_not.1 hc
      simp [qAk,qAn,qAl,qAi,qAf,qAe,qAb,qAc,qAa,qAj,qAg,qAd,qAu,qAv,resV,retV,qAm,qAh,qAt,qAs,qAr,qAq,qDw,-qAo,qBa,qAw,qBe,vS_0,vS_1,vS_2,vS_3,vS_4,vS_5,vS_6,vS_7,vS_8,vS_9,qBp,qBo,qBn,qBm,qBl,qBk,qBj,qBi,qBh,qBb,qAx,qAp,vN_0,vN_1,vN_2,vN_3,qBw,qBr,qBf,qDe,qDd,qDc,qDb,qDa,qCz,qCi,qCh,qCg,qCf,qCe,qCd,qCc,qCb,qCa,qBy,qBz,qBc,qBs,qBg,vE_0,vE_1,vE_2,vE_3,vE_4,vE_5,qDi,qDh,qDg,qBd,qDj,hc0,hcs,o,ik,lk,hA,ia,la,wy,]
      refine qCq ?_;simp [qAk,qAn,qAl,qAi,qAf,qAe,qAb,qAc,qAa,qAj,qAg,qAd,qAu,qAv,resV,retV,qAm,qAh,qAt,qAs,qAr,qAq,callK_def,-qAo,qBa,qAw,qBe,vS_0,vS_1,vS_2,vS_3,vS_4,vS_5,vS_6,vS_7,vS_8,vS_9,qBp,qBo,qBn,qBm,qBl,qBk,qBj,qBi,qBh,qBb,qAx,qAp,vN_0,vN_1,vN_2,vN_3,qBw,qBr,qBf,qDe,qDd,qDc,qDb,qDa,qCz,qCi,qCh,qCg,qCf,qCe,qCd,qCc,qCb,qCa,qBy,qBz,qBc,qBs,qBg,vE_0,vE_1,vE_2,vE_3,vE_4,vE_5,qDi,qDh,qDg,qBd,qDj,hc0,hcs,o,ik,lk,hA,ia,la,wy,hc,numI]
      have hx:exec k pc i r s.g=⟨pc+1,r,{ s.g with trap:=1 },{ e with obj:=A,value:=i.b }⟩:=by
        obtain ⟨op,a,b',c⟩:=i;obtain ⟨e1,e2,e3,e4,e5,e6⟩:=e;simp only at o he hA hy;subst o; subst hA;obtain ⟨rfl,rfl,rfl,rfl,rfl⟩:=he;simp only [exec,qCn,sI,← hy,hc,Int.toNat_natCast,if_true,if_false]
      have hd:qEe s k (exec k pc i r s.g)={ s with g:={ s.g with trap:=1 } }:=by rw [hx]; unfold qEe; rw [rset]
      rw [hd,hx] at hk;have OE:Owns b _ v (want { s with g:={ s.g with trap:=1 } } v):=O;exact hk v _ (qDk (p:=p) (s':={ s with g:={ s.g with trap:=1 } }) (e':=e) hb rfl (fun _ _=>rfl) OE).1 O.like (qDk (p:=p) (s':={ s with g:={ s.g with trap:=1 } }) (e':=e) hb rfl (fun _ _=>rfl) OE).2
  . -- Wait
    simp [qAk,qAn,qAl,qAi,qAf,qAe,qAb,qAc,qAa,qAj,qAg,qAd,qAu,qAv,resV,retV,qAm,qAh,qAt,qAs,qAr,qAq,qDw,-qAo,qBa,qAw,qBe,vS_0,vS_1,vS_2,vS_3,vS_4,vS_5,vS_6,vS_7,vS_8,vS_9,qBp,qBo,qBn,qBm,qBl,qBk,qBj,qBi,qBh,qBb,qAx,qAp,vN_0,vN_1,vN_2,vN_3,qBw,qBr,qBf,qDe,qDd,qDc,qDb,qDa,qCz,qCi,qCh,qCg,qCf,qCe,qCd,qCc,qCb,qCa,qBy,qBz,qBc,qBs,qBg,vE_0,vE_1,vE_2,vE_3,vE_4,vE_5,qDi,qDh,qDg,qBd,qDj,hc0,hcs,o,ik,lk];have hx:exec k pc i r s.g=⟨pc+1,r,s.g,{ e with obj:=i.a }⟩:=by
      obtain ⟨op,a,b',c⟩:=i;obtain ⟨e1,e2,e3,e4,e5,e6⟩:=e;simp only at o he;subst o;obtain ⟨rfl,rfl,rfl,rfl,rfl⟩:=he;simp only [exec,qCn,sI,Int.toNat_natCast,if_true,if_false]
    have hd:qEe s k (exec k pc i r s.g)={ s with g:=s.g }:=by rw [hx]; unfold qEe; rw [rset]
    rw [hd,hx] at hk;have OE:Owns b _ v (want { s with g:=s.g } v):=O;exact hk v _ (qDk (p:=p) (s':={ s with g:=s.g }) (e':=e) hb rfl (fun _ _=>rfl) OE).1 O.like (qDk (p:=p) (s':={ s with g:=s.g }) (e':=e) hb rfl (fun _ _=>rfl) OE).2
  . -- End
    have wa:=w0 (w:=11) (by rw [o]; rfl) (by decide) rfl
    obtain ⟨A,hA,_,hAl,hAy⟩:=qFm (l:=s.g.onces) wa.1 (by rw [hs.onces]; exact wa.2)
    obtain ⟨y,hy⟩:∃ y,y=gI s.g.onces i.a:=⟨_,rfl⟩;rw [← hy] at hAy;obtain ⟨ia,la⟩:=O.get 9 (i:=A) (x:=vI y) (by rw [qTb,List.getElem?_map,hAy]; rfl)
    by_cases hc:y=1
    . obtain ⟨H1,t1,hl1,L1,O1,kb1⟩:=O.put rfl 9 (i:=A) (x:=vI (2)) (by rw [qTb]; simpa using hAl) rfl
      rw [up_9] at O1;simp [qAk,qAn,qAl,qAi,qAf,qAe,qAb,qAc,qAa,qAj,qAg,qAd,qAu,qAv,resV,retV,qAm,qAh,qAt,qAs,qAr,qAq,qDw,-qAo,qBa,qAw,qBe,vS_0,vS_1,vS_2,vS_3,vS_4,vS_5,vS_6,vS_7,vS_8,vS_9,qBp,qBo,qBn,qBm,qBl,qBk,qBj,qBi,qBh,qBb,qAx,qAp,vN_0,vN_1,vN_2,vN_3,qBw,qBr,qBf,qDe,qDd,qDc,qDb,qDa,qCz,qCi,qCh,qCg,qCf,qCe,qCd,qCc,qCb,qCa,qBy,qBz,qBc,qBs,qBg,vE_0,vE_1,vE_2,vE_3,vE_4,vE_5,qDi,qDh,qDg,qBd,qDj,hc0,hcs,o,ik,lk,hA,ia,la,t1,L1.cell,L1.cell0,L1.cells,L1.cells0,L1.store,L1.store0,L1.len]
      refine qCq ?_;simp [qAk,qAn,qAl,qAi,qAf,qAe,qAb,qAc,qAa,qAj,qAg,qAd,qAu,qAv,resV,retV,qAm,qAh,qAt,qAs,qAr,qAq,callK_def,-qAo,qBa,qAw,qBe,vS_0,vS_1,vS_2,vS_3,vS_4,vS_5,vS_6,vS_7,vS_8,vS_9,qBp,qBo,qBn,qBm,qBl,qBk,qBj,qBi,qBh,qBb,qAx,qAp,vN_0,vN_1,vN_2,vN_3,qBw,qBr,qBf,qDe,qDd,qDc,qDb,qDa,qCz,qCi,qCh,qCg,qCf,qCe,qCd,qCc,qCb,qCa,qBy,qBz,qBc,qBs,qBg,vE_0,vE_1,vE_2,vE_3,vE_4,vE_5,qDi,qDh,qDg,qBd,qDj,hc0,hcs,o,ik,lk,hA,ia,la,t1,hc,numI,L1.cell,L1.cell0,L1.cells,L1.cells0,L1.store,L1.store0,L1.len]
      have hx:exec k pc i r s.g=⟨pc+1,r,{ s.g with trap:=0,onces:=s.g.onces.set A 2 },{ e with obj:=A }⟩:=by
        obtain ⟨op,a,b',c⟩:=i;obtain ⟨e1,e2,e3,e4,e5,e6⟩:=e;simp only at o he hA hy;subst o; subst hA;obtain ⟨rfl,rfl,rfl,rfl,rfl⟩:=he;simp only [exec,qCn,sI,← hy,hc,Int.toNat_natCast,if_true,if_false]
      have hd:qEe s k (exec k pc i r s.g)={ s with g:={ s.g with trap:=0,onces:=s.g.onces.set A 2 } }:=by rw [hx]; unfold qEe; rw [rset]
      rw [hd,hx] at hk;have OE:Owns b _ v (want { s with g:={ s.g with trap:=0,onces:=s.g.onces.set A 2 } } v):=O1;exact hk v _ (qDk (p:=p) (s':={ s with g:={ s.g with trap:=0,onces:=s.g.onces.set A 2 } }) (e':=e) hb hl1 kb1 OE).1 O.like (qDk (p:=p) (s':={ s with g:={ s.g with trap:=0,onces:=s.g.onces.set A 2 } }) (e':=e) hb hl1 kb1 OE).2
    . simp [qAk,qAn,qAl,qAi,qAf,qAe,qAb,qAc,qAa,qAj,qAg,qAd,qAu,qAv,resV,retV,qAm,qAh,qAt,qAs,qAr,qAq,qDw,-qAo,qBa,qAw,qBe,vS_0,vS_1,vS_2,vS_3,vS_4,vS_5,vS_6,vS_7,vS_8,vS_9,qBp,qBo,qBn,qBm,qBl,qBk,qBj,qBi,qBh,qBb,qAx,qAp,vN_0,vN_1,vN_2,vN_3,qBw,qBr,qBf,qDe,qDd,qDc,qDb,qDa,qCz,qCi,qCh,qCg,qCf,qCe,qCd,qCc,qCb,qCa,qBy,qBz,qBc,qBs,qBg,vE_0,vE_1,vE_2,vE_3,vE_4,vE_5,qDi,qDh,qDg,qBd,qDj,hc0,hcs,o,ik,lk,hA,ia,la,]
      refine qCq ?_;simp [qAk,qAn,qAl,qAi,qAf,qAe,qAb,qAc,qAa,qAj,qAg,qAd,qAu,qAv,resV,retV,qAm,qAh,qAt,qAs,qAr,qAq,callK_def,-qAo,qBa,qAw,qBe,vS_0,vS_1,vS_2,vS_3,vS_4,vS_5,vS_6,vS_7,vS_8,vS_9,qBp,qBo,qBn,qBm,qBl,qBk,qBj,qBi,qBh,qBb,qAx,qAp,vN_0,vN_1,vN_2,vN_3,qBw,qBr,qBf,qDe,qDd,qDc,qDb,qDa,qCz,qCi,qCh,qCg,qCf,qCe,qCd,qCc,qCb,qCa,qBy,qBz,qBc,qBs,qBg,vE_0,vE_1,vE_2,vE_3,vE_4,vE_5,qDi,qDh,qDg,qBd,qDj,hc0,hcs,o,ik,lk,hA,ia,la,hc,numI]
      have hx:exec k pc i r s.g=⟨pc+1,r,{ s.g with trap:=1 },{ e with obj:=A }⟩:=by
        obtain ⟨op,a,b',c⟩:=i;obtain ⟨e1,e2,e3,e4,e5,e6⟩:=e;simp only at o he hA hy;subst o; subst hA;obtain ⟨rfl,rfl,rfl,rfl,rfl⟩:=he;simp only [exec,qCn,sI,← hy,hc,Int.toNat_natCast,if_true,if_false]
      have hd:qEe s k (exec k pc i r s.g)={ s with g:={ s.g with trap:=1 } }:=by rw [hx]; unfold qEe; rw [rset]
      rw [hd,hx] at hk;have OE:Owns b _ v (want { s with g:={ s.g with trap:=1 } } v):=O;exact hk v _ (qDk (p:=p) (s':={ s with g:={ s.g with trap:=1 } }) (e':=e) hb rfl (fun _ _=>rfl) OE).1 O.like (qDk (p:=p) (s':={ s with g:={ s.g with trap:=1 } }) (e':=e) hb rfl (fun _ _=>rfl) OE).2
end
end Pm
