/- Loads of what is known: a program without them, thread by thread, walked; by any script it races, or the same is told.
   No condition: plain lemmas. -/

import Derived.Test.YtmdnkninbkcmkaaDoorZUPmRaceT3
import Derived.Test.YtmdnkninbkcmkaaDoorZUPmRace10
import Derived.Test.YtmdnkninbkcmkaaDoorZUPmLoads5
import Derived.Test.YtmdnkninbkcmkaaDoorZUPmRun14
namespace Pm
set_option linter.unusedSimpArgs false
set_option linter.unusedVariables false
open Go Am
open Go.Proofs.Tryd (prog)

section
variable {h : Heap} {K : Value → Heap → Prop}
theorem dCode_lend {code:List Ins} (h4:No4 h) (ho:∀ i∈code,i.op≤255) (hl:code.length≤60) (hk:∀ out fv,qSm code out→K (.agg #[vM 4 vIns out,fv]) h):qFm prog 14 [vM 4 vIns code] h K:=by
  refine qFm.lendE (args':=[vM 4 vIns code]) ⟨.cell closedC_vM,trivial⟩ h4 (qPh ho (by unfold lim; omega) fun out fm hF=>?_)
  unfold qJl at hF;rw [if_neg (by omega)] at hF
  have hF1:qSm code out:=by
    obtain ⟨⟨k,hk1,hk2⟩,_⟩:=hF;unfold qMa at hk1;rw [if_neg (by omega)] at hk1
    obtain ⟨o,ho1⟩:=hk1;exact ⟨k,o,ho1,hk2⟩
  refine ⟨out.length,out.flatMap vIns,1,fm.length,fm.map vI,rfl,?_,by simp [qDx],fun fv=>hk out fv hF1⟩
  simp [vIns,qDx]
structure FT17 (h:Heap) (p:Prog) (k:Nat) (tv:Value) (outs:List (List Ins)) (H:Heap):Prop where
  old:RowV H h.length 0 7 (qCs p)
  res:RowV H (h.length+1) 0 7 zero7
  row:RowV H (h.length+2) 0 7 (z7 p tv)
  acc:AccL (vM 4 vIns) (h.length+2+1) H tv outs
  no:No4 H
  kp:qCq h.length h H
  len:outs.length=k
  fold:LdT p.threads outs
set_option maxHeartbeats 4000000 in
theorem changed17_call {p:Prog} (h4:No4 h) (hn:p.threads.length≤60) (hc:∀ t∈p.threads,t.length≤60∧∀ i∈t,i.op≤255) (hk:∀ outs,LdT p.threads outs→outs.length=p.threads.length→K (.agg (qCs (thrP p outs)).toArray) h):qBn prog 6 [.agg (qCs p).toArray] h K:=by
  refine qBn.forget ?_;refine call_changed17 (by simp) ?_
  have hlim:lim=1048576:=rfl;simp [-qAy,qAl,qAo,qAm,qAi,qAf,qAe,qAb,qAc,qAa,qAj,qAg,qAd,qAu,qAv,resV,retV,qAn,qAh,qAs,qAr,qAq,qAp,qNn,qCs];rw [qAy];simp [-qAy,qAl,qAo,qAm,qAi,qAf,qAe,qAb,qAc,qAa,qAj,qAg,qAd,qAu,qAv,resV,retV,qAn,qAh,qAs,qAr,qAq,qAp];refine qEa (σ:=Nat×Value×List (List Ins)×Heap) (fun x=>[(1,ptr h.length),(2,ptr (h.length+1)),(3,ptr (h.length+2)),(4,vI x.1)]) (fun x=>x.2.2.2)
    (fun x=>x.1≤p.threads.length∧FT17 h p x.1 x.2.1 x.2.2.1 x.2.2.2) (fun x=>p.threads.length - x.1)
    (0,nilS,[],h++[bx (qCs p) 7,bx zero7 7,bx (z7 p nilS) 7]) (by simp) (by rfl) ⟨by simp,⟨by simp [RowV,bx],by simp [RowV,bx],by simp [RowV,bx],.nil,h4.app fun r hr _=>by simp [bx] at hr; rcases hr with rfl | rfl | rfl<;>simp,qCq.app,rfl,⟨by simp,fun k x y _ hy=>by simp at hy⟩⟩⟩ ?_
  rintro ⟨k,tv,outs,H⟩ fr ⟨hk0,w⟩;simp only at hk0 w ⊢;have e6:H.cell? (h.length+2) 6 0=some tv:=by rw [w.row.cell]; rfl
  have eo:H.cell? h.length 6 0=some (vL (vM 4 vIns) p.threads):=by rw [w.old.cell]; rfl
  by_cases hlt:k < p.threads.length
  . obtain ⟨k1,hk1,wk⟩:=qBm (show k < lim by omega)
    have hkf:(k:Int) < p.threads.length:=by omega
    obtain ⟨t,ht⟩:∃ t,p.threads[k]?=some t:=⟨_,List.getElem?_eq_getElem hlt⟩;obtain ⟨htl,hto⟩:=hc t (List.mem_of_getElem? ht);simp [qAl,qAo,qAm,qAi,qAf,qAe,qAb,qAc,qAa,qAj,qAg,qAd,qAu,qAv,resV,retV,qAn,qAh,qAs,qAr,qAq,qAp,eo,hkf,e6,ht];refine qEi (by simp [e6]) (dCode_lend w.no hto htl fun out fv hF=>?_)
    have e6':∀ rs,(H++rs).cell? (h.length+2) 6 0=some tv:=fun rs=>by rw [w.row.cellA]; rfl
    simp [qAl,qAo,qAm,qAi,qAf,qAe,qAb,qAc,qAa,qAj,qAg,qAd,qAu,qAv,resV,retV,qAn,qAh,qAs,qAr,qAq,qAp,e6,e6'];refine box_push4 (j:=6) w.row (by decide) w.acc (by simp [z7]) (qIr (m:=0) (cs:=[vM 4 vIns out]) rfl rfl) (by rw [w.len]; omega) (w.no.app fun r hr _=>by simp [bx] at hr; simp [hr]) fun v1 H1 H2 t1 r2 a2 t2 t3 t4 n4=>?_
    simp [qAl,qAo,qAm,qAi,qAf,qAe,qAb,qAc,qAa,qAj,qAg,qAd,qAu,qAv,resV,retV,qAn,qAh,qAs,qAr,qAq,qAp,t1,wk];have hx:p.threads[outs.length]?=some t:=by rw [w.len]; exact ht
    exact .go (k1,v1,outs++[out],H2) (by simp only []; omega) (by simp) rfl ⟨by simp only []; omega,⟨w.old.keep (t4.2 _ (by omega)),w.res.keep (t4.2 _ (by omega)),r2,a2,n4,w.kp.trans ⟨t4.1,fun i hi=>t4.2 i (by omega)⟩,by simp [w.len,hk1],w.fold.snoc hx hF⟩⟩
  . obtain rfl:k=p.threads.length:=by omega
    have hkf:¬ (p.threads.length:Int) < p.threads.length:=by omega
    have hce:H.cells? (h.length+2) 0 0 7=some (z7 p tv):=w.row.cells rfl;obtain ⟨H2,s1,s2,s3⟩:=w.res.store (n:=7) (cs:=z7 p tv) rfl rfl (by
      have hq:=w.acc;rcases hq with ⟨e,_⟩ | ⟨id,ver,e,_⟩<;>rw [e]<;>rfl)
    have s1':qBz H 7 (ptr (h.length+1)) (.agg (z7 p tv).toArray)=some H2:=s1;have ce2:H2.cells? (h.length+1) 0 0 7=some (z7 p tv):=s2.cells rfl;simp [qAl,qAo,qAm,qAi,qAf,qAe,qAb,qAc,qAa,qAj,qAg,qAd,qAu,qAv,resV,retV,qAn,qAh,qAs,qAr,qAq,qAp,eo,hkf,hce,s1',ce2];obtain ⟨g,hg⟩:=(w.kp.trans ⟨by rw [s3.2]; exact Nat.le_refl _,fun i hi=>s3.1 i (by omega)⟩:qCq h.length h H2).ext
    have a2:AccL (vM 4 vIns) h.length H2 tv outs:=by
      have a0:=w.acc.keep (h':=H2) fun i hi=>s3.1 i (fun e=>by have:=w.acc.low i hi; omega)
      rcases a0 with ⟨e1,e2,e3⟩ | ⟨id,ver,e1,e2,e3⟩
      . exact Or.inl ⟨e1,e2,e3⟩
      . exact Or.inr ⟨id,ver,e1,by omega,e3⟩
    refine ⟨⟨g,hg⟩,_,Inls.agg (xs:=z7 p tv) (ys:=qCs (thrP p outs)) ⟨.cell rfl,.cell rfl,.cell rfl,.cell rfl,.cell rfl,.cell rfl,AccL.inl a2 fun _=>rfl,trivial⟩,hk outs w.fold w.len⟩
end
theorem qJo {p:Prog} {x:RunR}:(vRun p x)[3]?=some (vM 6 vEv x.trace):=Eq.trans rfl rfl
set_option maxHeartbeats 8000000 in
theorem LoadsRaces_spec (l:List (List Nat)) (c:List Nat) (hl:qXq l∧∀ c∈l,qYm c) (hc:qYm c):qBn prog 4 [vL (vL v8) l,vL v8 c] [] fun r _=>r=.bool true:=by
  refine call_LoadsRaces (by simp) ?_
  obtain ⟨h,hh⟩:∃ h:Heap,h=[]:=⟨_,rfl⟩;rw [← hh];have n4:No4 h:=by rw [hh]; exact .nil
  have nu:NoU h:=by rw [hh]; exact .nil
  have hlim:lim=1048576:=rfl;have hp:=make_sound l;have hcode:∀ q:Prog,SoundP q→∀ t∈q.threads,t.length≤60∧∀ i∈t,i.op≤255:=fun q hq t ht=>by
    obtain ⟨h1,h2⟩:=hq.code t ht;exact ⟨h1,fun i hi=>by have:=(h2 i hi).op; omega⟩
  simp [-qAy,qAl,qAo,qAm,qAi,qAf,qAe,qAb,qAc,qAa,qAj,qAg,qAd,qAu,qAv,resV,retV,qAn,qAh,qAs,qAr,qAq,qAp,qLx];refine Make_ok hl ?_;obtain ⟨p,hpe⟩:∃ p,p=qGa l:=⟨_,rfl⟩;rw [← hpe] at hp ⊢;have ht6:=hp.threads.2;simp [-qAy,qAl,qAo,qAm,qAi,qAf,qAe,qAb,qAc,qAa,qAj,qAg,qAd,qAu,qAv,resV,retV,qAn,qAh,qAs,qAr,qAq,qAp,callK_def,-qAk,qBl,qBh,qBd,qEh,qJn,qGd,qFg,qEg,qOn,qOm,qOl,qJo];refine changed17_call (n4.app fun r hr _=>by simp [bx] at hr; simp [hr]) (by omega) (hcode p hp) fun o1 f1 l1=>?_
  have hq:=f1.sound l1 hp;obtain ⟨q,hqe⟩:∃ q,q=thrP p o1:=⟨_,rfl⟩;rw [← hqe] at hq ⊢;have hnw:newM q=newM p:=newM_same (by rw [hqe]; rfl) (by rw [hqe]; rfl) (by rw [hqe]; rfl) (by rw [hqe]; rfl) (by rw [hqe]; rfl) (by rw [hqe]; rfl) (by rw [hqe]; exact l1)
  simp [-qAy,qAl,qAo,qAm,qAi,qAf,qAe,qAb,qAc,qAa,qAj,qAg,qAd,qAu,qAv,resV,retV,qAn,qAh,qAs,qAr,qAq,qAp,callK_def,-qAk,qBl,qBh,qBd,qEh,qJn,qGd,qFg,qEg,qOn,qOm,qOl,qJo];have nu2:∀ rs:List Ob,(∀ r,Ob.row r∈rs→r.esz≠1)→NoU (h++rs):=fun rs hr=>nu.app fun r h1 _=>hr r h1
  obtain ⟨ks,hks⟩:∃ ks,ks=qOz c:=⟨_,rfl⟩;have hkl:ks.length≤60:=by rw [hks]; unfold qOz; simp; omega
  have hno:qKf p (runR p ks).trace→qKf q (runR q ks).trace:=fun hn =>
    hn.like (qKi hp ks) (loads_runs hp hq f1 l1 hqe hnw ks hn).like (by rw [hqe]; rfl)
  obtain ⟨x,hx⟩:∃ x,x=runR p ks:=⟨_,rfl⟩;obtain ⟨y,hy⟩:∃ y,y=runR q ks:=⟨_,rfl⟩;rw [← hx,← hy] at hno;have I:=runI hp ks;rw [← hx] at I;have hth:=qKi hp ks;rw [← hx] at hth;have J:=runI hq ks;rw [← hy] at J;have hth2:=qKi hq ks;rw [← hy] at hth2;refine qEi ?_ (Picks_still (nu2 _ fun r hr=>by simp [bx] at hr; rcases hr with rfl | rfl<;>simp) hc.2 ?_)
  . simp [qAl,qAo,qAm,qAi,qAf,qAe,qAb,qAc,qAa,qAj,qAg,qAd,qAu,qAv,resV,retV,qAn,qAh,qAs,qAr,qAq,qAp,-qAk,qBl,qBh,qBd,qEh,qJn,qGd,qFg,qEg,qOn,qOm,qOl,qJo]
  rw [← hks];simp [-qAy,qAl,qAo,qAm,qAi,qAf,qAe,qAb,qAc,qAa,qAj,qAg,qAd,qAu,qAv,resV,retV,qAn,qAh,qAs,qAr,qAq,qAp,-qAk,qBl,qBh,qBd,qEh,qJn,qGd,qFg,qEg,qOn,qOm,qOl,qJo];refine r5Run_call hp (by omega) ?_
  rw [← hx];simp [-qAy,qAl,qAo,qAm,qAi,qAf,qAe,qAb,qAc,qAa,qAj,qAg,qAd,qAu,qAv,resV,retV,qAn,qAh,qAs,qAr,qAq,qAp,callK_def,-qAk,qBl,qBh,qBd,qEh,qJn,qGd,qFg,qEg,qOn,qOm,qOl,qJo];refine qEi ?_ (Picks_still (nu2 _ fun r hr=>by simp [bx] at hr; rcases hr with rfl | rfl | rfl<;>simp) hc.2 ?_)
  . simp [qAl,qAo,qAm,qAi,qAf,qAe,qAb,qAc,qAa,qAj,qAg,qAd,qAu,qAv,resV,retV,qAn,qAh,qAs,qAr,qAq,qAp,-qAk,qBl,qBh,qBd,qEh,qJn,qGd,qFg,qEg,qOn,qOm,qOl,qJo]
  rw [← hks];simp [-qAy,qAl,qAo,qAm,qAi,qAf,qAe,qAb,qAc,qAa,qAj,qAg,qAd,qAu,qAv,resV,retV,qAn,qAh,qAs,qAr,qAq,qAp,-qAk,qBl,qBh,qBd,qEh,qJn,qGd,qFg,qEg,qOn,qOm,qOl,qJo];refine r5Run_call hq (by omega) ?_
  rw [← hy];simp [-qAy,qAl,qAo,qAm,qAi,qAf,qAe,qAb,qAc,qAa,qAj,qAg,qAd,qAu,qAv,resV,retV,qAn,qAh,qAs,qAr,qAq,qAp,callK_def,-qAk,qBl,qBh,qBd,qEh,qJn,qGd,qFg,qEg,qOn,qOm,qOl,qJo];refine known17_call ?_;simp [-qAy,qAl,qAo,qAm,qAi,qAf,qAe,qAb,qAc,qAa,qAj,qAg,qAd,qAu,qAv,resV,retV,qAn,qAh,qAs,qAr,qAq,qAp,callK_def,-qAk,qBl,qBh,qBd,qEh,qJn,qGd,qFg,qEg,qOn,qOm,qOl,qJo];refine R2Sound_call hq ?_;simp [-qAy,qAl,qAo,qAm,qAi,qAf,qAe,qAb,qAc,qAa,qAj,qAg,qAd,qAu,qAv,resV,retV,qAn,qAh,qAs,qAr,qAq,qAp,callK_def,-qAk,qBl,qBh,qBd,qEh,qJn,qGd,qFg,qEg,qOn,qOm,qOl,qJo]
  refine r8Racy_call (by have:=J.trace; omega) hth2 fun b hb=>?_
  cases b with
  | false=>simp [qAl,qAo,qAm,qAi,qAf,qAe,qAb,qAc,qAa,qAj,qAg,qAd,qAu,qAv,resV,retV,qAn,qAh,qAs,qAr,qAq,qAp,callK_def,-qAk,qBl,qBh,qBd,qEh,qJn,qGd,qFg,qEg,qOn,qOm,qOl,qJo]
  | true =>
    simp [-qAy,qAl,qAo,qAm,qAi,qAf,qAe,qAb,qAc,qAa,qAj,qAg,qAd,qAu,qAv,resV,retV,qAn,qAh,qAs,qAr,qAq,qAp,callK_def,-qAk,qBl,qBh,qBd,qEh,qJn,qGd,qFg,qEg,qOn,qOm,qOl,qJo];refine r8Racy_call (by have:=I.trace; omega) hth fun b2 hb2=>?_
    cases b2 with
    | true=>simp [qAl,qAo,qAm,qAi,qAf,qAe,qAb,qAc,qAa,qAj,qAg,qAd,qAu,qAv,resV,retV,qAn,qAh,qAs,qAr,qAq,qAp,callK_def,-qAk,qBl,qBh,qBd,qEh,qJn,qGd,qFg,qEg,qOn,qOm,qOl,qJo]
    | false=>exact absurd (hb.2 (hno (hb2.1 rfl))) (by simp)
end Pm
