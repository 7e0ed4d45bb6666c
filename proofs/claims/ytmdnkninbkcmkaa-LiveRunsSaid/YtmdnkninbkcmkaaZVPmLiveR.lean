/- A register that is not read may be anything, by any script.
   No condition: plain lemmas. -/

import Derived.Test.YtmdnkninbkcmkaaZVPmRun13
import Derived.Test.YtmdnkninbkcmkaaZVPmRun3
import Derived.Test.YtmdnkninbkcmkaaZVPmCfgC
import Derived.Test.YtmdnkninbkcmkaaZVPmLive3
import Derived.Test.YtmdnkninbkcmkaaZVPmLive5
import Derived.Test.YtmdnkninbkcmkaaZVPmTab
namespace Pm
set_option linter.unusedSimpArgs false
set_option linter.unusedVariables false
open Go Am
open Go.Proofs.Try (prog)

theorem qEw {p:Prog}:(qDo p)[6]?=some (vL (vM 4 vIns) p.threads):=Eq.trans rfl rfl
theorem qBx {p:Prog} {z:List Value} (h:z.length=7):setAll z 0 (qDo p)=qDo p:=qHf (by rw [qDz,h])
theorem Inl.listA {b:Nat} {h:Heap} {xs ys:List Value} (k:Inl b h (.agg xs.toArray) (.agg ys.toArray)):Inls b h xs ys:=by
  cases k with
  | cell hc=>simp [qCk] at hc
  | agg hs hc =>
    have:∀ (xs ys:List Value),xs.length=ys.length→(∀ (i:Nat) (x y:Value),xs[i]?=some x→ys[i]?=some y→Inl b h x y)→Inls b h xs ys:=by
      intro xs
      induction xs with
      | nil=>intro ys hl _; cases ys with
        | nil=>exact trivial
        | cons y ys=>simp at hl
      | cons x xs ih=>intro ys hl hh; cases ys with
        | nil=>simp at hl
        | cons y ys=>exact ⟨hh 0 x y rfl rfl,ih ys (by simpa using hl) fun i a c ha hc=>hh (i+1) a c (by simpa using ha) (by simpa using hc)⟩
    exact this xs ys (by simpa using hs) fun i x y hx hy=>hc i x y (by simpa using hx) (by simpa using hy)
section
variable {h : Heap}
set_option maxHeartbeats 8000000 in
theorem LiveRuns_spec' (h:Heap) (l:List (List Nat)) (c d:List Nat) (th rg:Nat) (v:Int) (hl:qSz l∧∀ c∈l,qTa c) (hc:∀ x∈c,x≤255) (hd:∀ x∈d,x≤255) (hth:th≤255) (hrg:rg≤255):qBu prog 5 [vL (vL v8) l,vL v8 c,vL v8 d,v8 th,v8 rg,vI v] h fun r _=>r=.bool true:=by
  refine call_LiveRuns (by simp) ?_
  have hlim:lim=1048576:=rfl;have hp:=make_sound l;have hn1:=qQh l;have htl:(qFf l).threads.length=nThr l:=threads_len l;simp [-qAy,qAk,qAn,qAl,qAi,qAf,qAe,qAb,qAc,qAa,qAj,qAg,qAd,qAu,qAv,resV,retV,qAm,qAh,qAt,qAs,qAr,qAq,qNb];refine Make_ok hl ?_;obtain ⟨p,hpe⟩:∃ p,p=qFf l:=⟨_,rfl⟩;rw [← hpe] at hp htl ⊢;simp [-qAy,qAk,qAn,qAl,qAi,qAf,qAe,qAb,qAc,qAa,qAj,qAg,qAd,qAu,qAv,resV,retV,qAm,qAh,qAt,qAs,qAr,qAq,callK_def,-qAo,qBa,qAw,qBe,vS_0,vS_1,vS_2,vS_3,vS_4,vS_5,vS_6,vS_7,vS_8,vS_9,qBp,qBo,qBn,qBm,qBl,qBk,qBj,qBi,qBh,qBv,qEv,qBx,qDz,qDl,qEw]
  refine r4New_call hp ?_;simp [-qAy,qAk,qAn,qAl,qAi,qAf,qAe,qAb,qAc,qAa,qAj,qAg,qAd,qAu,qAv,resV,retV,qAm,qAh,qAt,qAs,qAr,qAq,callK_def,-qAo,qBa,qAw,qBe,vS_0,vS_1,vS_2,vS_3,vS_4,vS_5,vS_6,vS_7,vS_8,vS_9,qBp,qBo,qBn,qBm,qBl,qBk,qBj,qBi,qBh,qBv,qEv,qBx,qDz,qDl,qEw];refine Picks_call hc ?_;obtain ⟨ps,hps⟩:∃ ps,ps=qLi c:=⟨_,rfl⟩;rw [← hps];have hpl:ps.length≤60:=by rw [hps]; unfold qLi; simp; omega
  simp [-qAy,qAk,qAn,qAl,qAi,qAf,qAe,qAb,qAc,qAa,qAj,qAg,qAd,qAu,qAv,resV,retV,qAm,qAh,qAt,qAs,qAr,qAq,callK_def,-qAo,qBa,qAw,qBe,vS_0,vS_1,vS_2,vS_3,vS_4,vS_5,vS_6,vS_7,vS_8,vS_9,qBp,qBo,qBn,qBm,qBl,qBk,qBj,qBi,qBh,qBv,qEv,qBx,qDz,qDl,qEw];rw [qAy];simp [-qAy,qAk,qAn,qAl,qAi,qAf,qAe,qAb,qAc,qAa,qAj,qAg,qAd,qAu,qAv,resV,retV,qAm,qAh,qAt,qAs,qAr,qAq];refine qFe (σ:=Nat×MS×Heap) (fun x=>[(2,vL v8 d),(3,v8 th),(4,v8 rg),(5,vI v),(13,ptr h.length),(14,ptr (h.length+1)),(16,vL vI ps),(17,vI x.1)]) (fun x=>h++(bx (qDo p) 7 :: bx (vSt p x.2.1) 19 :: x.2.2)) (fun x=>x.1≤ps.length∧Shape p x.2.1∧x.2.1.g.told.length≤x.1) (fun x=>ps.length - x.1) (0,newM p,[]) (by simp) (by simp) ⟨by simp,newM_shape hp,by simp [newM]⟩ ?_
  rintro ⟨i,s0,g0⟩ fr ⟨hi,hs0,ht0⟩;simp only at hi hs0 ht0 ⊢
  by_cases hlt:i < ps.length
  . obtain ⟨i1,hi1,wi⟩:=qCj (show i < lim by omega)
    have hif:(i:Int) < ps.length:=by omega
    have hx:ps[i]?=some ps[i]:=List.getElem?_eq_getElem hlt;obtain ⟨x,hxx⟩:∃ x,x=ps[i]:=⟨_,rfl⟩;rw [← hxx] at hx;rw [qAy];simp [-qAy,qAk,qAn,qAl,qAi,qAf,qAe,qAb,qAc,qAa,qAj,qAg,qAd,qAu,qAv,resV,retV,qAm,qAh,qAt,qAs,qAr,qAq,hif];rw [qAy];simp [-qAy,qAk,qAn,qAl,qAi,qAf,qAe,qAb,qAc,qAa,qAj,qAg,qAd,qAu,qAv,resV,retV,qAm,qAh,qAt,qAs,qAr,qAq,-qAo,qBa,qAw,qBe,vS_0,vS_1,vS_2,vS_3,vS_4,vS_5,vS_6,vS_7,vS_8,vS_9,qBp,qBo,qBn,qBm,qBl,qBk,qBj,qBi,qBh,qBv,qEv,qBx,qDz,qDl,qEw,hx,hif]
    refine qLg hp hs0 (by omega) ?_
    obtain ⟨hs1,ht1⟩:=qHd hp hs0 x;obtain ⟨s,hse⟩:∃ s,s=(qIo p s0 x).1:=⟨_,rfl⟩;rw [← hse] at hs1 ht1 ⊢;clear hs0;have hsa:setAll (vSt p s0) 0 (vSt p s)=vSt p s:=qBv qBa;simp [qAk,qAn,qAl,qAi,qAf,qAe,qAb,qAc,qAa,qAj,qAg,qAd,qAu,qAv,resV,retV,qAm,qAh,qAt,qAs,qAr,qAq,callK_def,-qAo,qBa,qAw,qBe,vS_0,vS_1,vS_2,vS_3,vS_4,vS_5,vS_6,vS_7,vS_8,vS_9,qBp,qBo,qBn,qBm,qBl,qBk,qBj,qBi,qBh,qBv,qEv,qBx,qDz,qDl,qEw,hsa,wi]
    exact .go (i1,s,_) (by simp only []; omega) (by simp) rfl ⟨by simp only []; omega,hs1,by simp only []; omega⟩
  . obtain rfl:i=ps.length:=by omega
    rw [qAy];simp [-qAy,qAk,qAn,qAl,qAi,qAf,qAe,qAb,qAc,qAa,qAj,qAg,qAd,qAu,qAv,resV,retV,qAm,qAh,qAt,qAs,qAr,qAq];obtain ⟨k,hk⟩:∃ k,k=th % nThr l:=⟨_,rfl⟩;obtain ⟨ρ,hρ⟩:∃ ρ,ρ=rg % 4:=⟨_,rfl⟩;have hkn:k < nThr l:=by rw [hk]; exact Nat.mod_lt _ (by omega)
    have hkt:k < p.threads.length:=by omega
    have hρ4:ρ < 4:=by rw [hρ]; exact Nat.mod_lt _ (by omega)
    obtain ⟨t,ht⟩:∃ t,p.threads[k]?=some t:=⟨_,List.getElem?_eq_getElem hkt⟩;obtain ⟨htl6,hto⟩:=hp.code t (List.mem_of_getElem? ht);have e1:(th:Int).tmod (nThr l:Int)=(k:Int):=by rw [Int.tmod_eq_emod_of_nonneg (by omega),hk]; rfl
    have e2:(rg:Int).tmod 4=(ρ:Int):=by rw [Int.tmod_eq_emod_of_nonneg (by omega),hρ]; rfl
    have hn0:¬ nThr l=0:=by omega
    have wd:IntKind.i64.wrap (k:Int)=k:=qCo (by omega) (by omega)
    have wt:IntKind.i64.wrap (th:Int)=th:=qCo (by omega) (by omega)
    have wr:IntKind.i64.wrap (ρ:Int)=ρ:=qCo (by omega) (by omega)
    have wr8:IntKind.u8.wrap (ρ:Int)=ρ:=by
      rw [qOb (by omega) (by omega)]
    have hkI:(k:Int) < nThr l:=by omega
    simp [-qAy,qAk,qAn,qAl,qAi,qAf,qAe,qAb,qAc,qAa,qAj,qAg,qAd,qAu,qAv,resV,retV,qAm,qAh,qAt,qAs,qAr,qAq,callK_def,-qAo,qBa,qAw,qBe,vS_0,vS_1,vS_2,vS_3,vS_4,vS_5,vS_6,vS_7,vS_8,vS_9,qBp,qBo,qBn,qBm,qBl,qBk,qBj,qBi,qBh,qBv,qEv,qBx,qDz,qDl,qEw,htl,e1,e2,hn0,wd,wt,wr,wr8,ht,hkI];refine lAhead_call (fun c hc=>by have:=(hto c hc).op; omega) (by omega) fun a ha=>?_
    unfold qPc at ha;rw [if_neg (by omega)] at ha
    have hal:=ha.len;obtain ⟨pc,hpc,hpct⟩:∃ pc:Nat,s0.at_[k]?=some (pc:Int)∧pc≤t.length:=by
      have hka:k < s0.at_.length:=by rw [hs0.at_]; exact hkt
      have h1:s0.at_[k]?=some s0.at_[k]:=List.getElem?_eq_getElem hka;obtain ⟨p0,p1⟩:=hs0.pc k _ t h1 ht;exact ⟨s0.at_[k].toNat,by rw [h1]; congr 1; omega,by omega⟩
    have hkaI:(k:Int) < s0.at_.length:=by rw [hs0.at_]; omega
    simp [-qAy,qAk,qAn,qAl,qAi,qAf,qAe,qAb,qAc,qAa,qAj,qAg,qAd,qAu,qAv,resV,retV,qAm,qAh,qAt,qAs,qAr,qAq,callK_def,-qAo,qBa,qAw,qBe,vS_0,vS_1,vS_2,vS_3,vS_4,vS_5,vS_6,vS_7,vS_8,vS_9,qBp,qBo,qBn,qBm,qBl,qBk,qBj,qBi,qBh,qBv,qEv,qBx,qDz,qDl,qEw,htl,ht,hkI];rw [qAy];simp [-qAy,qAk,qAn,qAl,qAi,qAf,qAe,qAb,qAc,qAa,qAj,qAg,qAd,qAu,qAv,resV,retV,qAm,qAh,qAt,qAs,qAr,qAq,-qAo,qBa,qAw,qBe,vS_0,vS_1,vS_2,vS_3,vS_4,vS_5,vS_6,vS_7,vS_8,vS_9,qBp,qBo,qBn,qBm,qBl,qBk,qBj,qBi,qBh,qBv,qEv,qBx,qDz,qDl,qEw,htl,ht,hkI,hal]
    refine qTw (σ:=Unit) (fun _=>[(2,vL v8 d),(5,vI v),(13,ptr h.length),(14,ptr (h.length+1)),(18,vI k),(19,vI ρ)]) (fun _=>h++(bx (qDo p) 7 :: bx (vSt p s0) 19 :: g0)) (fun _=>¬ Lv t ρ pc) ?_ ?_
    . by_cases hend:pc < t.length
      . have hendI:(pc:Int) < t.length:=by omega
        have hpa:pc < a.length:=by omega
        have haa:a[pc]?=some (gN a pc):=qVa hpa;simp [-qAy,qAk,qAn,qAl,qAi,qAf,qAe,qAb,qAc,qAa,qAj,qAg,qAd,qAu,qAv,resV,retV,qAm,qAh,qAt,qAs,qAr,qAq,-qAo,qBa,qAw,qBe,vS_0,vS_1,vS_2,vS_3,vS_4,vS_5,vS_6,vS_7,vS_8,vS_9,qBp,qBo,qBn,qBm,qBl,qBk,qBj,qBi,qBh,qBv,qEv,qBx,qDz,qDl,qEw,htl,ht,hkI,hkaI,hpc,hendI,hal,haa];refine RHas_call (ha.lt pc) ?_;rw [qQr (by omega)]
        cases hbit:(gN a pc).testBit ρ with
        | true =>
          simp [-qAy,qAk,qAn,qAl,qAi,qAf,qAe,qAb,qAc,qAa,qAj,qAg,qAd,qAu,qAv,resV,retV,qAm,qAh,qAt,qAs,qAr,qAq,callK_def];refine known15_call ?_;simp [qAk,qAn,qAl,qAi,qAf,qAe,qAb,qAc,qAa,qAj,qAg,qAd,qAu,qAv,resV,retV,qAm,qAh,qAt,qAs,qAr,qAq,callK_def]
        | false =>
          simp [qAk,qAn,qAl,qAi,qAf,qAe,qAb,qAc,qAa,qAj,qAg,qAd,qAu,qAv,resV,retV,qAm,qAh,qAt,qAs,qAr,qAq,callK_def];exact .go () (by simp) rfl fun hLv=>by rw [(ha.bit pc ρ).2 hLv] at hbit; cases hbit
      . have hendI:¬ (pc:Int) < t.length:=by omega
        simp [qAk,qAn,qAl,qAi,qAf,qAe,qAb,qAc,qAa,qAj,qAg,qAd,qAu,qAv,resV,retV,qAm,qAh,qAt,qAs,qAr,qAq,-qAo,qBa,qAw,qBe,vS_0,vS_1,vS_2,vS_3,vS_4,vS_5,vS_6,vS_7,vS_8,vS_9,qBp,qBo,qBn,qBm,qBl,qBk,qBj,qBi,qBh,qBv,qEv,qBx,qDz,qDl,qEw,htl,ht,hkI,hkaI,hpc,hendI,hal,hend];exact .go () (by simp) rfl fun hLv=>hend hLv.lt
    . rintro ⟨⟩ fr hnl
      have hsh:=hs0.short hp;have hv8:=hp.vars; have ha4:=hp.atoms; have hl4:=hp.locks; have hg4:=hp.groups; have ho4:=hp.onces;unfold In4 at ha4 hl4 hg4 ho4;have q1:=hs0.vars; have q2:=hs0.atoms; have q3:=hs0.locks; have q4:=hs0.groups; have q5:=hs0.onces;simp [-qAy,qAk,qAn,qAl,qAi,qAf,qAe,qAb,qAc,qAa,qAj,qAg,qAd,qAu,qAv,resV,retV,qAm,qAh,qAt,qAs,qAr,qAq,-qAo,qBa,qAw,qBe,vS_0,vS_1,vS_2,vS_3,vS_4,vS_5,vS_6,vS_7,vS_8,vS_9,qBp,qBo,qBn,qBm,qBl,qBk,qBj,qBi,qBh,qBv,qEv,qBx,qDz,qDl,qEw]
      refine r4Copy_call hs0 (by omega) (fun l hl=>by have:=hsh l hl; omega) ⟨hp.threads.2,hp.chans⟩ ⟨by omega,by omega,by omega,by omega,by omega⟩ fun w g O=>?_
      obtain ⟨h0,hh0⟩:∃ h0,h0=h++[bx (qDo p) 7,bx (vSt p s0) 19]:=⟨_,rfl⟩;obtain ⟨H,hH⟩:∃ H,H=(h++(bx (qDo p) 7 :: bx (vSt p s0) 19 :: g0))++g:=⟨_,rfl⟩;have hH2:H=h0++(g0++g):=by rw [hH,hh0]; simp
      have hb:h0.length≤(h++(bx (qDo p) 7 :: bx (vSt p s0) 19 :: g0)).length:=by rw [hh0]; simp
      have h0l:h0.length=h.length+2:=by rw [hh0]; simp
      rw [← hH] at O ⊢;have O:=O.weak hb;clear hH hb;have hc0:=qRn (p:=p) (s:=s0) (v:=w) O.like;have hkr:k < s0.r.length:=by rw [hs0.r]; exact hkt
      have hrk:s0.r[k]?=some s0.r[k]:=List.getElem?_eq_getElem hkr;obtain ⟨rk,hrkk⟩:∃ rk,rk=s0.r[k]:=⟨_,rfl⟩;rw [← hrkk] at hrk;have r4:=hs0.r4 rk (List.mem_of_getElem? hrk);obtain ⟨ik,lk⟩:=O.get 2 (i:=k) (x:=w (16+2 * k)) (by rw [qIg]; simp [hkr])
      have hwr:want s0 w (16+2 * k)=rk.map vI:=by rw [qEj,hrk]; rfl
      have ia:=O.idx (16+2 * k) (i:=ρ) (by rw [hwr]; simp; omega)
      obtain ⟨H1,t1,hl1,L1,O1,kb1⟩:=O.put rfl (16+2 * k) (i:=ρ) (x:=vI v) (by rw [hwr]; simp; omega) rfl
      rw [up_r hrk] at O1;simp [-qAy,qAk,qAn,qAl,qAi,qAf,qAe,qAb,qAc,qAa,qAj,qAg,qAd,qAu,qAv,resV,retV,qAm,qAh,qAt,qAs,qAr,qAq,callK_def,-qAo,qBa,qAw,qBe,vS_0,vS_1,vS_2,vS_3,vS_4,vS_5,vS_6,vS_7,vS_8,vS_9,qBp,qBo,qBn,qBm,qBl,qBk,qBj,qBi,qBh,qBv,qEv,qBx,qDz,qDl,qEw,qBw,qBr,qBf,qCz,hc0,ik,lk,ia,t1];obtain ⟨g1,hg1⟩:∃ g1,H1=h0++g1:=by
        refine ⟨H1.drop h0.length,?_⟩;apply List.ext_getElem?;intro m
        by_cases hm:m < h0.length
        . rw [kb1 m (O.low hm),hH2,List.getElem?_append_left hm,List.getElem?_append_left hm]
        . rw [List.getElem?_append_right (by omega),List.getElem?_drop]; congr 1; omega
      have hT:h0.length+g1.length=H.length:=by rw [← hl1,hg1]; simp
      have hseal:Inls h0.length (h0++g1) (cS p s0 w) (vSt p ⟨s0.at_,s0.r.set k (rk.set ρ v),s0.g⟩):=by
        rw [← hg1];exact (inlS (p:=p) O1).listA
      have hs1:Shape p ⟨s0.at_,s0.r.set k (rk.set ρ v),s0.g⟩:=⟨hs0.at_,by simp [hs0.r],fun x hx=>by
        rcases List.mem_or_eq_of_mem_set hx with hx | rfl
        . exact hs0.r4 x hx
        . simp [r4],hs0.pc,hs0.began,hs0.vars,hs0.atoms,hs0.locks,hs0.groups,hs0.onces,hs0.queue,hs0.closed,hs0.room⟩
      have hsim:Sim (RelL p) s0 ⟨s0.at_,s0.r.set k (rk.set ρ v),s0.g⟩:=by
        have:=sim_live (p:=p) (s:=s0) (k:=k) (r:=ρ) (v:=v) hs0 fun t' i' ht' hi'=>by
          rw [ht] at ht'; cases ht';rw [hpc] at hi'
          injection hi' with hi'
          have:i'=pc:=by omega
          subst this; exact hnl
        rw [hrk] at this;exact this
      obtain ⟨s1,hs1e⟩:∃ s1:MS,s1=⟨s0.at_,s0.r.set k (rk.set ρ v),s0.g⟩:=⟨_,rfl⟩;rw [← hs1e] at hseal hs1 hsim;have ht1:s1.g.told.length≤ps.length:=by rw [hsim.g]; exact ht0
      refine pOps_seal ⟨h0,g1,⟨cS p s0 w,19,0,true⟩,vSt p s1,by rw [hg1]; rfl,hseal,?_⟩
      obtain ⟨H2,hH2e⟩:∃ H2,H2=h0++lockAll g1++[Ob.row ⟨vSt p s1,19,0,true⟩]:=⟨_,rfl⟩;rw [show h0++lockAll g1++[Ob.row { (⟨cS p s0 w,19,0,true⟩:Row) with cells:=vSt p s1 }]=H2 from hH2e.symm];have hll:(lockAll g1).length=g1.length:=by simp [lockAll]
      have rS:RowV H2 (h.length+1) 0 19 (vSt p s0):=by
        unfold RowV;rw [hH2e,List.append_assoc,List.getElem?_append_left (by omega),hh0,List.getElem?_append_right (by omega),Nat.add_sub_cancel_left]
        rfl
      have rT:RowV H2 H.length 0 19 (vSt p s1):=by
        unfold RowV;rw [hH2e,List.getElem?_append_right (by simp [hll]; omega)]
        simp [hll,hT]
      have hne:h.length+1≠H.length:=by omega
      obtain ⟨T,hTe⟩:∃ T,T=H.length:=⟨_,rfl⟩;rw [← hTe] at rT hne ⊢;simp [-qAy,qAk,qAn,qAl,qAi,qAf,qAe,qAb,qAc,qAa,qAj,qAg,qAd,qAu,qAv,resV,retV,qAm,qAh,qAt,qAs,qAr,qAq,-qAo,qBa,qAw,qBe,vS_0,vS_1,vS_2,vS_3,vS_4,vS_5,vS_6,vS_7,vS_8,vS_9,qBp,qBo,qBn,qBm,qBl,qBk,qBj,qBi,qBh,qBv,qEv,qBx,qDz,qDl,qEw];refine Picks_call hd ?_;obtain ⟨qs,hqs⟩:∃ qs,qs=qLi d:=⟨_,rfl⟩;rw [← hqs];have hql:qs.length≤60:=by rw [hqs]; unfold qLi; simp; omega
      simp [-qAy,qAk,qAn,qAl,qAi,qAf,qAe,qAb,qAc,qAa,qAj,qAg,qAd,qAu,qAv,resV,retV,qAm,qAh,qAt,qAs,qAr,qAq,callK_def,-qAo,qBa,qAw,qBe,vS_0,vS_1,vS_2,vS_3,vS_4,vS_5,vS_6,vS_7,vS_8,vS_9,qBp,qBo,qBn,qBm,qBl,qBk,qBj,qBi,qBh,qBv,qEv,qBx,qDz,qDl,qEw];rw [qAy];simp [-qAy,qAk,qAn,qAl,qAi,qAf,qAe,qAb,qAc,qAa,qAj,qAg,qAd,qAu,qAv,resV,retV,qAm,qAh,qAt,qAs,qAr,qAq];clear hc0 hwr;refine qFe (σ:=Nat×MS×MS×Heap) (fun x=>[(14,ptr (h.length+1)),(21,ptr T),(22,vL vI qs),(23,vI x.1)]) (fun x=>x.2.2.2) (fun x=>x.1≤qs.length∧Shape p x.2.1∧Shape p x.2.2.1∧Sim (RelL p) x.2.1 x.2.2.1∧x.2.1.g.told.length≤ps.length+x.1∧RowV x.2.2.2 (h.length+1) 0 19 (vSt p x.2.1)∧RowV x.2.2.2 T 0 19 (vSt p x.2.2.1)) (fun x=>qs.length - x.1) (0,s0,s1,H2) (by simp) rfl ⟨by simp,hs0,hs1,hsim,by simp only []; omega,rS,rT⟩ ?_
      clear rS rT hH2e hseal hs1 hsim ht1 hs1e;rintro ⟨i,s,t',H2⟩ fr ⟨hi,hs,hs',hsim,hto',rS,rT⟩;simp only at hi hs hs' hsim hto' rS rT ⊢;have hto2:t'.g.told.length≤ps.length+i:=by rw [hsim.g]; exact hto'
      have cS1:H2.cells? (h.length+1) 0 0 19=some (vSt p s):=rS.cells rfl;have cT1:H2.cells? T 0 0 19=some (vSt p t'):=rT.cells rfl
      by_cases hlt:i < qs.length
      . obtain ⟨i1,hi1,wi⟩:=qCj (show i < lim by omega)
        have hif:(i:Int) < qs.length:=by omega
        have hx:qs[i]?=some qs[i]:=List.getElem?_eq_getElem hlt;obtain ⟨x,hxx⟩:∃ x,x=qs[i]:=⟨_,rfl⟩;rw [← hxx] at hx;obtain ⟨hs2,ht2⟩:=qHd hp hs x;obtain ⟨hs2',_⟩:=qHd hp hs' x;obtain ⟨hsim2,_⟩:=hsim.step (pair_live hp) hp hp hs hs' x;rw [qAy];simp [-qAy,qAk,qAn,qAl,qAi,qAf,qAe,qAb,qAc,qAa,qAj,qAg,qAd,qAu,qAv,resV,retV,qAm,qAh,qAt,qAs,qAr,qAq,hif];rw [qAy];simp [-qAy,qAk,qAn,qAl,qAi,qAf,qAe,qAb,qAc,qAa,qAj,qAg,qAd,qAu,qAv,resV,retV,qAm,qAh,qAt,qAs,qAr,qAq,-qAo,qBa,qAw,qBe,vS_0,vS_1,vS_2,vS_3,vS_4,vS_5,vS_6,vS_7,vS_8,vS_9,qBp,qBo,qBn,qBm,qBl,qBk,qBj,qBi,qBh,qBv,qEv,qBx,qDz,qDl,qEw,hx,hif,cS1]
        refine qLg hp hs (by omega) ?_
        obtain ⟨u,hue⟩:∃ u,u=(qIo p s x).1:=⟨_,rfl⟩;rw [← hue] at hs2 ht2 hsim2 ⊢;obtain ⟨H3,a1,a2,a3⟩:=rS.store (n:=19) (cs:=vSt p u) rfl rfl (by simp [vSt,qDo])
        have a1':qCm H2 19 (ptr (h.length+1)) (.agg (vSt p u).toArray)=some H3:=a1;have rT3:=rT.keep (a3.1 T (fun e=>hne e.symm))
        have cT3:H3.cells? T 0 0 19=some (vSt p t'):=rT3.cells rfl;simp [-qAy,qAk,qAn,qAl,qAi,qAf,qAe,qAb,qAc,qAa,qAj,qAg,qAd,qAu,qAv,resV,retV,qAm,qAh,qAt,qAs,qAr,qAq,callK_def,-qAo,qBa,qAw,qBe,vS_0,vS_1,vS_2,vS_3,vS_4,vS_5,vS_6,vS_7,vS_8,vS_9,qBp,qBo,qBn,qBm,qBl,qBk,qBj,qBi,qBh,qBv,qEv,qBx,qDz,qDl,qEw,a1',hx,hif,cT3];refine qLg hp hs' (by omega) ?_
        obtain ⟨u',hue'⟩:∃ u',u'=(qIo p t' x).1:=⟨_,rfl⟩;rw [← hue'] at hs2' hsim2 ⊢;obtain ⟨H4,b1,b2,b3⟩:=rT3.store (n:=19) (cs:=vSt p u') rfl rfl (by simp [vSt,qDo])
        have b1':qCm H3 19 (ptr T) (.agg (vSt p u').toArray)=some H4:=b1;simp [qAk,qAn,qAl,qAi,qAf,qAe,qAb,qAc,qAa,qAj,qAg,qAd,qAu,qAv,resV,retV,qAm,qAh,qAt,qAs,qAr,qAq,callK_def,-qAo,qBa,qAw,qBe,vS_0,vS_1,vS_2,vS_3,vS_4,vS_5,vS_6,vS_7,vS_8,vS_9,qBp,qBo,qBn,qBm,qBl,qBk,qBj,qBi,qBh,qBv,qEv,qBx,qDz,qDl,qEw,b1',wi];exact .go (i1,u,u',H4) (by simp only []; omega) (by simp) rfl ⟨by simp only []; omega,hs2,hs2',hsim2,by simp only []; omega,a2.keep (b3.1 _ hne),b2⟩
      . obtain rfl:i=qs.length:=by omega
        have hif:¬ (qs.length:Int) < qs.length:=by omega
        rw [qAy];simp [-qAy,qAk,qAn,qAl,qAi,qAf,qAe,qAb,qAc,qAa,qAj,qAg,qAd,qAu,qAv,resV,retV,qAm,qAh,qAt,qAs,qAr,qAq];refine known15_call ?_;have e17:H2.cell? (h.length+1) 17 0=some (vL vI s.g.told):=by rw [rS.cell]; rfl
        have e17':H2.cell? T 17 0=some (vL vI s.g.told):=by rw [rT.cell,← hsim.g]; rfl
        have e7:H2.cell? (h.length+1) 7 0=some (vL vI s.at_):=by rw [rS.cell]; rfl
        have e7':H2.cell? T 7 0=some (vL vI s.at_):=by rw [rT.cell,← hsim.at_]; rfl
        simp [-qAy,qAk,qAn,qAl,qAi,qAf,qAe,qAb,qAc,qAa,qAj,qAg,qAd,qAu,qAv,resV,retV,qAm,qAh,qAt,qAs,qAr,qAq,callK_def,-qAo,qBa,qAw,qBe,vS_0,vS_1,vS_2,vS_3,vS_4,vS_5,vS_6,vS_7,vS_8,vS_9,qBp,qBo,qBn,qBm,qBl,qBk,qBj,qBi,qBh,qBv,qEv,qBx,qDz,qDl,qEw,e17,e17'];refine RSame01_call (by omega) ?_
        simp [-qAy,qAk,qAn,qAl,qAi,qAf,qAe,qAb,qAc,qAa,qAj,qAg,qAd,qAu,qAv,resV,retV,qAm,qAh,qAt,qAs,qAr,qAq,callK_def,-qAo,qBa,qAw,qBe,vS_0,vS_1,vS_2,vS_3,vS_4,vS_5,vS_6,vS_7,vS_8,vS_9,qBp,qBo,qBn,qBm,qBl,qBk,qBj,qBi,qBh,qBv,qEv,qBx,qDz,qDl,qEw,cS1,cT1];refine qHg ?_ (qKn.lock (r4Status_call hp hs ⟨rfl,?_⟩))
        . simp [qAk,qAn,qAl,qAi,qAf,qAe,qAb,qAc,qAa,qAj,qAg,qAd,qAu,qAv,resV,retV,qAm,qAh,qAt,qAs,qAr,qAq,-qAo,qBa,qAw,qBe,vS_0,vS_1,vS_2,vS_3,vS_4,vS_5,vS_6,vS_7,vS_8,vS_9,qBp,qBo,qBn,qBm,qBl,qBk,qBj,qBi,qBh,qBv,qEv,qBx,qDz,qDl,qEw,cT1]
        simp [-qAy,qAk,qAn,qAl,qAi,qAf,qAe,qAb,qAc,qAa,qAj,qAg,qAd,qAu,qAv,resV,retV,qAm,qAh,qAt,qAs,qAr,qAq,callK_def,-qAo,qBa,qAw,qBe,vS_0,vS_1,vS_2,vS_3,vS_4,vS_5,vS_6,vS_7,vS_8,vS_9,qBp,qBo,qBn,qBm,qBl,qBk,qBj,qBi,qBh,qBv,qEv,qBx,qDz,qDl,qEw,cS1,cT1];refine r4Status_call hp hs' ?_;rw [hsim.status (pair_live hp) hp hs hs'];simp [-qAy,qAk,qAn,qAl,qAi,qAf,qAe,qAb,qAc,qAa,qAj,qAg,qAd,qAu,qAv,resV,retV,qAm,qAh,qAt,qAs,qAr,qAq,callK_def,-qAo,qBa,qAw,qBe,vS_0,vS_1,vS_2,vS_3,vS_4,vS_5,vS_6,vS_7,vS_8,vS_9,qBp,qBo,qBn,qBm,qBl,qBk,qBj,qBi,qBh,qBv,qEv,qBx,qDz,qDl,qEw,e7,e7']
        refine RSame01_call (by have:=hs.at_; omega) ?_
        simp [qAk,qAn,qAl,qAi,qAf,qAe,qAb,qAc,qAa,qAj,qAg,qAd,qAu,qAv,resV,retV,qAm,qAh,qAt,qAs,qAr,qAq,callK_def,-qAo,qBa,qAw,qBe,vS_0,vS_1,vS_2,vS_3,vS_4,vS_5,vS_6,vS_7,vS_8,vS_9,qBp,qBo,qBn,qBm,qBl,qBk,qBj,qBi,qBh,qBv,qEv,qBx,qDz,qDl,qEw]
end
theorem LiveRuns_spec (l:List (List Nat)) (c d:List Nat) (th rg:Nat) (v:Int) (hl:qSz l∧∀ c∈l,qTa c) (hc:qTa c) (hd:qTa d) (hth:th≤255) (hrg:rg≤255) (_:inI v):qBu prog 5 [vL (vL v8) l,vL v8 c,vL v8 d,v8 th,v8 rg,vI v] [] fun r _=>r=.bool true:=LiveRuns_spec' [] l c d th rg v hl hc.2 hd.2 hth hrg
end Pm
