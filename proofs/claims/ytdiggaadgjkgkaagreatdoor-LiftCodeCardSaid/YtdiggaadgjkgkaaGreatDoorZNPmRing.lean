/- Loads qGm of loops: code as it is, walked.
   No condition: plain lemmas. -/

import Derived.Test.YtdiggaadgjkgkaaGreatDoorZNPmLf4
import Derived.Test.YtdiggaadgjkgkaaGreatDoorZNPmIns
import Derived.Test.YtdiggaadgjkgkaaGreatDoorZNPmFlow1
namespace Pm
set_option linter.unusedSimpArgs false
set_option linter.unusedVariables false
open Go Am
open Go.Proofs.Tryz (prog)

structure OwS (h:Heap) (code:List Ins) (cs:Value) (k:Nat) (fv:Value) (H:Heap):Prop where
  row:RowV H (h.length+2) 0 2 [cs,fv]
  cod:RowM 4 vIns H (h.length+1) 1 4 code
  frm:AccL vI (h.length+2+1) H fv (ownL k)
  res:RowV H h.length 0 2 [nilS,nilS]
  kp:qBs h.length h H
section
variable {h : Heap} {K : Value → Heap → Prop}
set_option maxHeartbeats 2000000 in
theorem lfOwn_call {code:List Ins} (hne:0 < code.length) (hl:code.length≤lim)
    (hk:∀ H idf verf,qBs h.length h H→RowM 4 vIns H (h.length+1) 1 4 code→h.length+1 < idf→H[idf]?=some (.row ⟨(ownL code.length).map vI,1,verf,true⟩) →
      K (.agg #[.slice (some ⟨h.length+1,0,none⟩) code.length 1,.slice (some ⟨idf,0,none⟩) code.length verf]) H) :
    qBl prog 23 [vM 4 vIns code] h K:=by
  refine call_lfOwn (by simp) ?_
  have hlim:lim=1048576:=rfl;obtain ⟨cs,hcs⟩:∃ cs:Value,cs=.slice (some ⟨h.length+1,0,none⟩) code.length 1:=⟨_,rfl⟩;simp [-qAt,qAk,qAn,qAl,qAh,qAg,qAe,qAb,qAd,qAa,qAi,qAf,qAc,qAs,qAu,resV,retV,qAm,qAj,qAr,qAq,qAp,qAo,qPt];refine Clone4_call hl (fun e=>by rw [e] at hne; simp at hne) ?_
  simp [-qAt,qAk,qAn,qAl,qAh,qAg,qAe,qAb,qAd,qAa,qAi,qAf,qAc,qAs,qAu,resV,retV,qAm,qAj,qAr,qAq,qAp,qAo,callK_def];rw [qAt];simp [-qAt,qAk,qAn,qAl,qAh,qAg,qAe,qAb,qAd,qAa,qAi,qAf,qAc,qAs,qAu,resV,retV,qAm,qAj,qAr,qAq,qAp,qAo];refine qDh (σ:=Nat×Value×Heap) (fun x=>[(2,ptr h.length),(3,ptr (h.length+2)),(9,vI code.length),(10,vI x.1)]) (fun x=>x.2.2)
    (fun x=>x.1≤code.length∧OwS h code cs x.1 x.2.1 x.2.2) (fun x=>code.length - x.1)
    (0,nilS,h++[bx [nilS,nilS] 2,Ob.row ⟨code.flatMap vIns,4,1,true⟩,bx [cs,nilS] 2]) (by simp) (by rw [hcs]) ⟨by simp,⟨by simp [RowV,bx],by simp [RowM],.nil,by simp [RowV,bx],qBs.app⟩⟩ ?_
  rintro ⟨k,fv,H⟩ fr ⟨hk0,w⟩;simp only at hk0 w ⊢
  by_cases hlt:k < code.length
  . obtain ⟨k1,hk1,wk⟩:=qBr (show k < lim by omega)
    have hkf:(k:Int) < code.length:=by omega
    simp [qAk,qAn,qAl,qAh,qAg,qAe,qAb,qAd,qAa,qAi,qAf,qAc,qAs,qAu,resV,retV,qAm,qAj,qAr,qAq,qAp,qAo,hkf,w.row.cell,w.row.cellA,-qAy,qAw,qAv,qAx,qBa,wN_0,wN_1,wN_2,wN_3];refine box_push (j:=1) w.row w.frm (by simp) (qFr (m:=0) (cs:=[vI (k:Int)]) rfl rfl) (by rw [qEo]; omega) fun v1 H1 H2 t1 r2 a2 t2 t3 t4=>?_
    have hst:([cs,fv]:List Value).set 1 v1=[cs,v1]:=rfl;rw [hst] at r2;have t1':qBu H1 1 (.pointer (some ⟨h.length+2,1,some 0⟩)) v1=some H2:=t1;rw [← ownL_succ,← hk1] at a2;simp [qAk,qAn,qAl,qAh,qAg,qAe,qAb,qAd,qAa,qAi,qAf,qAc,qAs,qAu,resV,retV,qAm,qAj,qAr,qAq,qAp,qAo,t1',wk];refine .go (k1,v1,H2) (by simp only []; omega) (by simp) rfl ⟨by simp only []; omega,⟨r2,?_,a2,?_,?_⟩⟩
    . have:=w.cod.lt
      exact (t4.2 _ (by omega)).trans w.cod
    . have:=w.res.lt
      exact (t4.2 _ (by omega)).trans w.res
    . exact w.kp.trans ⟨by have:=t4.1; have:=w.row.lt; omega,fun i hi=>t4.2 i (by omega)⟩
  . obtain rfl:k=code.length:=by omega
    have hkf:¬ (code.length:Int) < code.length:=by omega
    obtain ⟨H2,s1,s2,s3⟩:=w.res.store (n:=2) (cs:=[cs,fv]) rfl rfl (by
      have hq:=w.frm;rw [hcs];rcases hq with ⟨e,_⟩ | ⟨id,ver,e,_⟩<;>rw [e]<;>rfl)
    have s1':qBu H 2 (ptr h.length) (.agg #[cs,fv])=some H2:=s1;have ce2:H2.cells? h.length 0 0 2=some [cs,fv]:=s2.cells rfl;have ce3:H.cells? (h.length+2) 0 0 2=some [cs,fv]:=w.row.cells rfl;simp [qAk,qAn,qAl,qAh,qAg,qAe,qAb,qAd,qAa,qAi,qAf,qAc,qAs,qAu,resV,retV,qAm,qAj,qAr,qAq,qAp,qAo,hkf,ce3,s1',ce2];rcases w.frm with ⟨_,e2⟩ | ⟨id,ver,e,e2,e3⟩
    . have:=e2.1; rw [qEo] at this; omega
    . have hrl:=w.row.lt
      have e4:=e3.1;rw [qEo] at e;rw [e,hcs];exact hk H2 id ver (w.kp.trans ⟨by rw [s3.2]; exact Nat.le_refl _,fun i hi=>s3.1 i (by omega)⟩) ((s3.1 _ (by omega)).trans w.cod) (by omega) ((s3.1 _ (by omega)).trans e4)
end
end Pm

/- Loads qGm of loops: the load goes qGm, walked.
   No condition: plain lemmas. -/

namespace Pm
set_option linter.unusedSimpArgs false
set_option linter.unusedVariables false
open Go Am
open Go.Proofs.Tryz (prog)

def qEm (hd B:Nat) (code:List Ins):List Ins:=code.mapIdx fun k x=>qFl hd B k x
def qHu (hd B:Nat) (code:List Ins) (i:Nat) (x:Ins):List Ins:=((qEm hd B code).set i nopI).take hd++x :: ((qEm hd B code).set i nopI).drop hd
def qHt (n hd i:Nat):List Int:=(ownL n).take hd++(i:Int) :: (ownL n).drop hd
structure LfS (h:Heap) (b:Nat) (code:List Ins) (hd B:Nat) (cs fs:Value) (q pb idf verf k:Nat) (out:List Ins) (H:Heap):Prop where
  rg:RgB H b code hd B
  row:RowV H pb 0 2 [cs,fs]
  cod:RowM 4 vIns H q 1 4 out
  frm:RowV H idf verf 1 ((ownL code.length).map vI)
  res:RowV H h.length 0 2 [nilS,nilS]
  kp:qBs h.length h H
  len:out.length=code.length
  done:∀ j x,j < k→code[j]?=some x→out[j]?=some (qFl hd B j x)
  tail:∀ j,k≤j→out[j]?=code[j]?
theorem RgB.keepH {H H':Heap} {b:Nat} {code:List Ins} {hd B:Nat} (h:RgB H b code hd B) (e:H'[b]?=H[b]?) (hl:H.length≤H'.length):RgB H' b code hd B :=
  ⟨by rw [qDb e]; exact h.c0,by rw [qDb e]; exact h.c1,by rw [qDb e]; exact h.c2,by have:=h.lt; omega⟩
theorem flat_cut (l:List Ins) (n:Nat):l.flatMap vIns=(l.take n).flatMap vIns++(l.drop n).flatMap vIns:=by rw [← List.flatMap_append,List.take_append_drop]
theorem flat_takeI {l:List Ins} {n:Nat} (hn:n≤l.length):(l.flatMap vIns).take (n * 4)=(l.take n).flatMap vIns:=by
  rw [flat_cut l n];exact List.take_left' (by rw [qDs (e:=4) (fun _=>rfl)]; simp; omega)
theorem flat_dropI {l:List Ins} {n:Nat} (hn:n≤l.length):(l.flatMap vIns).drop (n * 4)=(l.drop n).flatMap vIns:=by
  rw [flat_cut l n];exact List.drop_left' (by rw [qDs (e:=4) (fun _=>rfl)]; simp; omega)
section
variable {h : Heap} {K : Value → Heap → Prop}
set_option maxHeartbeats 4000000 in
theorem lfLift_call {code:List Ins} {b hd B i:Nat} {x:Ins} (G:RgB h b code hd B) (hB:B < big) (hh:hd < code.length) (hl:code.length+1≤lim) (hx:code[i]?=some x)
    (hk:K (qMg (qHu hd B code i x) (qHt code.length hd i)) h) :
    qBl prog 22 [ptr b,vI i] h K:=by
  refine qBl.forget ?_;refine call_lfLift (by simp) ?_
  have hlim:lim=1048576:=rfl;have hil:i < code.length:=(List.getElem?_eq_some_iff.1 hx).1;have hiI:(i:Int) < code.length:=by omega
  have G2:=fun rs=>G.ext rs
  have hbl:=G.lt;simp [-qAt,qAk,qAn,qAl,qAh,qAg,qAe,qAb,qAd,qAa,qAi,qAf,qAc,qAs,qAu,resV,retV,qAm,qAj,qAr,qAq,qAp,qAo,qPw,(G2 _).c0];refine lfOwn_call (by omega) (by omega) fun H idf verf kp cod hidf frm=>?_
  obtain ⟨q,hq⟩:∃ q,q=h.length+1+1:=⟨_,rfl⟩;obtain ⟨pb,hpb⟩:∃ pb,pb=H.length:=⟨_,rfl⟩;obtain ⟨cs,hcs⟩:∃ cs:Value,cs=.slice (some ⟨q,0,none⟩) code.length 1:=⟨_,rfl⟩;obtain ⟨fs,hfs⟩:∃ fs:Value,fs=.slice (some ⟨idf,0,none⟩) code.length verf:=⟨_,rfl⟩;have cod:RowM 4 vIns H q 1 4 code:=by rw [hq]; simpa using cod
  have hidf:q < idf:=by rw [hq]; simpa using hidf
  have hidl:idf < H.length:=(List.getElem?_eq_some_iff.1 frm).1;have hkp:qBs (h.length+1) (h++[bx [nilS,nilS] 2]) H:=by simpa using kp
  have kp:qBs h.length h H:=(qBs.app (g:=[bx [nilS,nilS] 2])).trans ⟨hkp.1,fun i hi=>hkp.2 i (by omega)⟩
  simp [-qAt,qAk,qAn,qAl,qAh,qAg,qAe,qAb,qAd,qAa,qAi,qAf,qAc,qAs,qAu,resV,retV,qAm,qAj,qAr,qAq,qAp,qAo,callK_def];rw [← hq];rw [qAt];simp [-qAt,qAk,qAn,qAl,qAh,qAg,qAe,qAb,qAd,qAa,qAi,qAf,qAc,qAs,qAu,resV,retV,qAm,qAj,qAr,qAq,qAp,qAo];refine qDh (σ:=Nat×List Ins×Heap) (fun x=>[(0,ptr b),(1,vI i),(4,ptr h.length),(5,ptr pb),(14,cs),(15,vI code.length),(16,vI x.1)]) (fun x=>x.2.2)
    (fun x=>x.1≤code.length∧LfS h b code hd B cs fs q pb idf verf x.1 x.2.1 x.2.2) (fun x=>code.length - x.1)
    (0,code,H++[bx [cs,fs] 2]) (by simp [hcs,hpb]) (by simp [hcs,hfs]) ⟨by simp,⟨?_,?_,?_,?_,?_,?_,rfl,fun _ _ hj=>by omega,fun _ _=>rfl⟩⟩ ?_
  . exact G.keepH (by rw [List.getElem?_append_left (by have:=kp.1; omega)]; exact kp.2 b hbl) (by have:=kp.1; simp; omega)
  . rw [hpb]; simp [RowV,bx]
  . exact cod.keep (List.getElem?_append_left cod.lt)
  . exact RowV.keep (H:=H) frm (List.getElem?_append_left hidl)
  . have:H[h.length]?=some (bx [nilS,nilS] 2):=by rw [hkp.2 _ (by omega)]; simp
    show (H++[bx [cs,fs] 2])[h.length]?=_;rw [List.getElem?_append_left (by omega),this]; rfl
  . exact kp.trans ⟨by simp,fun j hj=>List.getElem?_append_left (by have:=kp.1; omega)⟩
  rintro ⟨k,out,H3⟩ fr ⟨hk0,w⟩;simp only at hk0 w ⊢
  by_cases hlt:k < code.length
  . obtain ⟨k1,hk1,wk⟩:=qBr (show k < lim by omega)
    have hkf:(k:Int) < code.length:=by omega
    obtain ⟨c,hc⟩:∃ c,code[k]?=some c:=⟨_,List.getElem?_eq_getElem hlt⟩;have hoc:out[k]?=some c:=by rw [w.tail k (Nat.le_refl _),hc]
    have hce:H3.cells? q (k * 4) 1 4=some (vIns c):=w.cod.cells hoc;simp [qAk,qAn,qAl,qAh,qAg,qAe,qAb,qAd,qAa,qAi,qAf,qAc,qAs,qAu,resV,retV,qAm,qAj,qAr,qAq,qAp,qAo,hkf,hcs,hce,w.row.cellA,-qAy,qAw,qAv,qAx,qBa,wN_0,wN_1,wN_2,wN_3];refine lfMoved_call (w.rg.ext _) hB fun rs=>?_
    have hql:=w.cod.lt;have hrl:=w.row.lt;have hfl:=w.frm.lt;have hsl:=w.res.lt;have hgl:=w.rg.lt;have e0:∀ j,j < H3.length→(H3++(bx (vIns c) 4 :: rs))[j]?=H3[j]?:=fun j hj=>List.getElem?_append_left hj
    have cod2:RowM 4 vIns (H3++(bx (vIns c) 4 :: rs)) q 1 4 out:=w.cod.keep (e0 _ hql);obtain ⟨H4,s1,s2,s3⟩:=cod2.store (r:=k) (by rw [w.len]; exact hlt) (x:=qFl hd B k c) rfl
    have s1':qBu (H3++(bx (vIns c) 4 :: rs)) 4 (.pointer (some ⟨q,k * 4,some 1⟩)) (.agg (vIns (qFl hd B k c)).toArray)=some H4:=s1;have hl4:H3.length≤H4.length:=by rw [s3.2]; simp
    have e4:∀ j,j < H3.length→j≠q→H4[j]?=H3[j]?:=fun j hj hn=>(s3.1 j hn).trans (e0 j hj)
    have sc:LfS h b code hd B cs fs q pb idf verf k1 (out.set k (qFl hd B k c)) H4:=by
      refine ⟨w.rg.keepH (e4 b hgl (by omega)) hl4,w.row.keep (e4 pb hrl (by omega)),s2,w.frm.keep (e4 idf hfl (by omega)),w.res.keep (e4 _ hsl (by omega)),w.kp.trans ⟨by have:=w.kp.1; omega,fun j hj=>e4 j (by have:=w.kp.1; omega) (by omega)⟩,by simp [w.len],fun j y hj hy=>?_,fun j hj=>?_⟩
      . by_cases e:j=k
        . subst e; rw [hc] at hy; cases hy; rw [List.getElem?_set_self (by rw [w.len]; exact hlt)]
        . rw [List.getElem?_set_ne (fun h=>e h.symm)]; exact w.done j y (by omega) hy
      . rw [List.getElem?_set_ne (by omega)]; exact w.tail j (by omega)
    simp [qAk,qAn,qAl,qAh,qAg,qAe,qAb,qAd,qAa,qAi,qAf,qAc,qAs,qAu,resV,retV,qAm,qAj,qAr,qAq,qAp,qAo,callK_def,w.row.cellA,hlt,hcs,s1',wk,qNy,-qAy,qAw,qAv,qAx,qBa,wN_0,wN_1,wN_2,wN_3];exact .go (k1,out.set k (qFl hd B k c),H4) (by simp only []; omega) (by simp) rfl ⟨by simp only []; omega,by subst hcs; exact sc⟩
  . obtain rfl:k=code.length:=by omega
    have hkf:¬ (code.length:Int) < code.length:=by omega
    have hout:out=qEm hd B code:=by
      apply List.ext_getElem?;intro j;unfold qEm;rw [List.getElem?_mapIdx]
      by_cases hj:j < code.length
      . obtain ⟨y,hy⟩:∃ y,code[j]?=some y:=⟨_,List.getElem?_eq_getElem hj⟩
        rw [w.done j y hj hy,hy]; rfl
      . rw [List.getElem?_eq_none (by rw [w.len]; omega),List.getElem?_eq_none (by omega)]; rfl
    have hql:=w.cod.lt;have hrl:=w.row.lt;have hfl:=w.frm.lt;have hsl:=w.res.lt;have hgl:=w.rg.lt;obtain ⟨H4,s1,s2,s3⟩:=w.cod.store (r:=i) (by rw [w.len]; exact hil) (x:=nopI) rfl
    have s1':qBu H3 4 (.pointer (some ⟨q,i * 4,some 1⟩)) (.agg #[.int .u8 0,.int .i64 0,.int .i64 0,.int .i64 0])=some H4:=s1;have r4:RowV H4 pb 0 2 [cs,fs]:=w.row.keep (s3.1 _ (by omega))
    have g4:RgB H4 b code hd B:=w.rg.keepH (s3.1 _ (by omega)) (by rw [s3.2]; exact Nat.le_refl _)
    have hcg:∀ hh,code[i]'hh=x:=fun _=>(List.getElem?_eq_some_iff.1 hx).2
    have w1:=w.len;obtain ⟨L,hL⟩:∃ L,L=(out.set i nopI).flatMap vIns:=⟨_,rfl⟩;have hLl:L.length=code.length * 4:=by rw [hL,qDs (e:=4) (fun _=>rfl)]; simp [w.len]
    have q4:H4[q]?=some (.row ⟨L,4,1,true⟩):=by rw [hL]; exact s2
    have hl4:H4.length=H3.length:=s3.2;have hql4:q < H4.length:=by rw [s3.2]; exact hql
    simp [qAk,qAn,qAl,qAh,qAg,qAe,qAb,qAd,qAa,qAi,qAf,qAc,qAs,qAu,resV,retV,qAm,qAj,qAr,qAq,qAp,qAo,hkf,w.row.cell,hcs,hil,s1',r4.cell,g4.c0,g4.c1,hiI,hx,hcg,-qAy,qAw,qAv,qAx,qBa,wN_0,wN_1,wN_2,wN_3];refine ins_PCall insIns_ACall (cells:=L) (new:=vIns x) (by rw [List.getElem?_append_left hql4]; exact q4) hLl hh (by omega) (by simp [bx]) rfl (by omega) ?_
    obtain ⟨L2,hL2⟩:∃ L2,L2=L.take (hd * 4)++vIns x++L.drop (hd * 4):=⟨_,rfl⟩;rw [← hL2];obtain ⟨H5,hH5⟩:∃ H5,H5=(H4++[bx (vIns x) 4]).set q (.row ⟨L2,4,2,true⟩):=⟨_,rfl⟩;have l5:H5.length=H4.length+1:=by rw [hH5]; simp
    have e5:∀ j,j≠q→j < H4.length→H5[j]?=H4[j]?:=fun j hj hlt=>by rw [hH5,List.getElem?_set_ne (Ne.symm hj),List.getElem?_append_left hlt]
    have q5:H5[q]?=some (.row ⟨L2,4,2,true⟩):=by rw [hH5,List.getElem?_set_self (by simp; omega)]
    have r5:RowV H5 pb 0 2 [cs,fs]:=r4.keep (e5 _ (by omega) r4.lt)
    obtain ⟨cs2,hcs2⟩:∃ v:Value,v=.slice (some ⟨q,0,none⟩) (code.length+1) 2:=⟨_,rfl⟩;obtain ⟨H6,t1,r6,t3⟩:=r5.set (j:=0) (by simp) (v:=cs2) (by rw [hcs2]; rfl)
    have r6:RowV H6 pb 0 2 [cs2,fs]:=r6;have g6:RgB H6 b code hd B:=g4.keepH (by rw [t3.1 _ (by omega),e5 _ (by omega) g4.lt]) (by rw [t3.2,l5]; omega)
    have f6:H6[idf]?=some (.row ⟨(ownL code.length).map vI,1,verf,true⟩):=by rw [t3.1 _ (by omega),e5 _ (by omega) (by omega),s3.1 _ (by omega)]; exact w.frm
    have hol:((ownL code.length).map vI).length=code.length * 1:=by simp [qEo]
    simp [qAk,qAn,qAl,qAh,qAg,qAe,qAb,qAd,qAa,qAi,qAf,qAc,qAs,qAu,resV,retV,qAm,qAj,qAr,qAq,qAp,qAo,callK_def,← hH5,← hcs2,t1,r6.cell,hfs,g6.c1];have l6:idf < H6.length:=(List.getElem?_eq_some_iff.1 f6).1;refine ins_PCall insInt_ACall (cells:=(ownL code.length).map vI) (new:=[vI (i:Int)]) (by rw [List.getElem?_append_left l6]; exact f6) hol hh (by omega) (by simp [bx]) rfl (by omega) ?_
    obtain ⟨F2,hF2⟩:∃ F2,F2=((ownL code.length).map vI).take (hd * 1)++[vI (i:Int)]++((ownL code.length).map vI).drop (hd * 1):=⟨_,rfl⟩;rw [← hF2];obtain ⟨H7,hH7⟩:∃ H7,H7=(H6++[bx [.int .i64 (i:Int)] 1]).set idf (.row ⟨F2,1,verf+1,true⟩):=⟨_,rfl⟩;have l7:H7.length=H6.length+1:=by rw [hH7]; simp
    have e7:∀ j,j≠idf→j < H6.length→H7[j]?=H6[j]?:=fun j hj hlt=>by rw [hH7,List.getElem?_set_ne (Ne.symm hj),List.getElem?_append_left hlt]
    have f7:H7[idf]?=some (.row ⟨F2,1,verf+1,true⟩):=by rw [hH7,List.getElem?_set_self (by simp; omega)]
    have r7:RowV H7 pb 0 2 [cs2,fs]:=r6.keep (e7 _ (by omega) r6.lt)
    obtain ⟨fs2,hfs2⟩:∃ v:Value,v=.slice (some ⟨idf,0,none⟩) (code.length+1) (verf+1):=⟨_,rfl⟩;obtain ⟨H8,u1,r8,u3⟩:=r7.set (j:=1) (by simp) (v:=fs2) (by rw [hfs2]; rfl)
    have r8:RowV H8 pb 0 2 [cs2,fs2]:=r8;have c8:H8.cells? pb 0 0 2=some [cs2,fs2]:=r8.cells rfl;have n8:RowV H8 h.length 0 2 [nilS,nilS]:=w.res.keep (by rw [u3.1 _ (by omega),e7 _ (by omega) (by omega),t3.1 _ (by omega),e5 _ (by omega) (by omega),s3.1 _ (by omega)])
    obtain ⟨H9,v1,v2,v3⟩:=n8.store (n:=2) (cs:=[cs2,fs2]) rfl (by simp) (by rw [hcs2,hfs2]; rfl)
    have v1':qBu H8 2 (ptr h.length) (.agg #[cs2,fs2])=some H9:=v1;have c9:H9.cells? h.length 0 0 2=some [cs2,fs2]:=v2.cells rfl;have l8:H8.length=H7.length:=u3.2;have l6':H6.length=H5.length:=t3.2;have q9:H9[q]?=some (.row ⟨L2,4,2,true⟩):=by rw [v3.1 _ (by omega),u3.1 _ (by omega),e7 _ (by omega) (by omega),t3.1 _ (by omega),q5]
    have f9:H9[idf]?=some (.row ⟨F2,1,verf+1,true⟩):=by rw [v3.1 _ (by omega),u3.1 _ (by omega),f7]
    have hkp3:=w.kp.1;have hkp9:qBs h.length h H9:=w.kp.trans ⟨by rw [v3.2]; omega,fun j hj=>by
      rw [v3.1 _ (by omega),u3.1 _ (by omega),e7 _ (by omega) (by omega),t3.1 _ (by omega),e5 _ (by omega) (by omega),s3.1 _ (by omega)]⟩
    simp [qAk,qAn,qAl,qAh,qAg,qAe,qAb,qAd,qAa,qAi,qAf,qAc,qAs,qAu,resV,retV,qAm,qAj,qAr,qAq,qAp,qAo,callK_def,← hH7,← hfs2,u1,c8,v1',c9];obtain ⟨g,hg⟩:=hkp9.ext;have eL:L2=(qHu hd B code i x).flatMap vIns:=by
      rw [hL2,hL,hout];unfold qHu;have hn:hd≤((qEm hd B code).set i nopI).length:=by unfold qEm; simp; omega
      rw [List.flatMap_append,List.flatMap_cons,flat_takeI hn,flat_dropI hn,List.append_assoc]
    have eF:F2=(qHt code.length hd i).map vI:=by
      rw [hF2];unfold qHt;simp
    have nC:(qHu hd B code i x).length=code.length+1:=by unfold qHu qEm; simp; omega
    have nF:(qHt code.length hd i).length=code.length+1:=by unfold qHt; simp [qEo]; omega
    have i1:Inl h.length H9 cs2 (vM 4 vIns (qHu hd B code i x)):=AccM.inl (e:=4) (F:=vIns) (.inr ⟨q,2,by rw [hcs2,nC],by omega,by rw [q9,eL],qDs (e:=4) (fun _=>rfl) _⟩) fun _=>rfl
    have i2:Inl h.length H9 fs2 (vL vI (qHt code.length hd i)):=AccL.inl (.inr ⟨idf,verf+1,by rw [hfs2,nF],by omega,by rw [f9,eF],by simp⟩) fun _=>rfl
    exact ⟨⟨g,hg⟩,_,Inls.agg (xs:=[cs2,fs2]) (ys:=[vM 4 vIns (qHu hd B code i x),vL vI (qHt code.length hd i)]) ⟨i1,i2,trivial⟩,hk⟩
end
end Pm

/- Loads qGm of loops: the code, walked.
   No condition: plain lemmas. -/

namespace Pm
set_option linter.unusedSimpArgs false
set_option linter.unusedVariables false
open Go Am
open Go.Proofs.Tryz (prog)

def qJs (code:List Ins) (hd B i:Nat):Bool:=match code[i]? with | some x=>mayB code hd B i x | none=>false
def qMr (code:List Ins) (p:Nat×Nat):Option Nat:=((qCc p.2).find? fun t=>qJs code p.1 p.2 t.toNat).map Int.toNat
def qGc (code:List Ins):List (Nat×Nat)→List Ins×List Int
  | []=>(code,ownL code.length)
  | p :: ls=>match qMr code p with
    | some i=>(qHu p.1 p.2 code i (code[i]?.getD nopI),qHt code.length p.1 i)
    | none=>qGc code ls
def qDk (code out:List Ins) (fm:List Int):Prop :=
  if 60 < code.length then out=[]∧fm=[]
  else if code.length=60 then out=code∧fm=ownL code.length
  else ∃ ls,LoopsTo (succs code) code.length ls∧(out,fm)=qGc code ls
theorem qDk.unique {code out out':List Ins} {fm fm':List Int} (h:qDk code out fm) (h':qDk code out' fm'):out=out'∧fm=fm':=by
  unfold qDk at h h'
  split at h
  . rename_i c; rw [if_pos c] at h'; exact ⟨h.1.trans h'.1.symm,h.2.trans h'.2.symm⟩
  . rename_i c; rw [if_neg c] at h'
    split at h
    . rename_i c; rw [if_pos c] at h'; exact ⟨h.1.trans h'.1.symm,h.2.trans h'.2.symm⟩
    . rename_i c; rw [if_neg c] at h'
      obtain ⟨a,h1,h2⟩:=h;obtain ⟨b,h3,h4⟩:=h';rw [h1.unique h3,← h4] at h2;cases h2; exact ⟨rfl,rfl⟩
theorem LoopsTo.mem {s:List (List Int)} {n:Nat} {l:List (Nat×Nat)} (h:LoopsTo s n l) {p:Nat×Nat} (hp:p∈l):p.1 < n∧LoopOf s p.1 p.2∧∃ t,qHp s p.1 t:=by
  induction h with
  | zero=>simp at hp
  | none _ _ ih=>obtain ⟨h1,h2⟩:=ih hp; exact ⟨by omega,h2⟩
  | one _ h1 h2 ih =>
    rcases List.mem_append.1 hp with h3 | h3
    . obtain ⟨h1,h2⟩:=ih h3; exact ⟨by omega,h2⟩
    . rw [List.mem_singleton.1 h3]; exact ⟨by simp,h2,_,h1⟩
theorem testBit_lt {B t:Nat} (hB:B < big) (h:B.testBit t=true):t < 64:=by
  apply Classical.byContradiction;intro hn;have:B < 2 ^ t:=Nat.lt_of_lt_of_le hB (by show 2 ^ 64≤2 ^ t; exact Nat.pow_le_pow_right (by decide) (by omega))
  rw [Nat.testBit_lt_two_pow this] at h;cases h
theorem LoopOf.lts {s:List (List Int)} {hd B t:Nat} (h:LoopOf s hd B) (hh:hd < s.length) (ht:B.testBit t=true):t < s.length :=
  ((h.bit t (testBit_lt h.lt ht)).1 ht).lt hh
theorem qOj:∀ (l:List Int) (hl:∀ x∈l,∃ k:Nat,x=k∧k < 64) (s t:Nat),(qDi s l).testBit t=true↔s.testBit t=true∨(t:Int)∈l
  | [],_,s,t=>by simp [qDi]
  | x :: l,hl,s,t=>by
    obtain ⟨k,rfl,hk⟩:=hl x (by simp)
    have ih:=qOj l (fun y hy=>hl y (by simp [hy])) (s ||| bitN (k:Int)) t
    have e:qDi s ((k:Int) :: l)=qDi (s ||| bitN (k:Int)) l:=rfl
    rw [e,ih,Nat.testBit_or,bitN_nat hk,Nat.testBit_two_pow];simp only [Bool.or_eq_true,decide_eq_true_eq,List.mem_cons];constructor
    . rintro ((h | h) | h)
      . exact .inl h
      . exact .inr (.inl (by rw [h]))
      . exact .inr (.inr h)
    . rintro (h | h | h)
      . exact .inl (.inl h)
      . exact .inl (.inr (by omega))
      . exact .inr h
theorem with_bits {B:Nat} (hB:B < big):qDi 0 (qCc B)=B:=by
  refine qPf (qHe _ _ (by decide)) hB fun t ht=>?_
  have h1:=qOj (qCc B) (fun x hx=>by obtain ⟨k,h1,h2,_⟩:=qEq.1 hx; exact ⟨k,h1,h2⟩) 0 t
  have h2:(t:Int)∈qCc B↔B.testBit t=true:=by
    rw [qEq];constructor
    . rintro ⟨k,e,_,h⟩
      obtain rfl:t=k:=by omega
      exact h
    . exact fun h=>⟨t,rfl,ht,h⟩
  rw [h2] at h1;cases hA:(qDi 0 (qCc B)).testBit t<;>cases hB:B.testBit t<;>simp_all
theorem cells_edit {out:List Ins} {fm:List Int}:cellsOf (qMg out fm)=some [vM 4 vIns out,vL vI fm]:=rfl
theorem cells_lp {p:Nat×Nat}:cellsOf (.agg (vLp p).toArray)=some [vI p.1,vL vI (qCc p.2)]:=rfl
theorem callMay:qCg prog 21=true:=by kernel_rfl
section
variable {h : Heap} {K : Value → Heap → Prop}
theorem lfOwn_val {code:List Ins} (hl:code.length≤lim) (hk:K (qMg code (ownL code.length)) h):qBl prog 23 [vM 4 vIns code] h K:=by
  refine qBl.forget ?_;rcases Nat.eq_zero_or_pos code.length with h0 | h0
  . have e:code=[]:=List.eq_nil_of_length_eq_zero h0
    subst e;refine call_lfOwn (by simp) ?_
    simp [-qAt,qAk,qAn,qAl,qAh,qAg,qAe,qAb,qAd,qAa,qAi,qAf,qAc,qAs,qAu,resV,retV,qAm,qAj,qAr,qAq,qAp,qAo,qPt];refine Clone4_call hl (fun _=>?_) ?_
    . simp [-qAt,qAk,qAn,qAl,qAh,qAg,qAe,qAb,qAd,qAa,qAi,qAf,qAc,qAs,qAu,resV,retV,qAm,qAj,qAr,qAq,qAp,qAo,callK_def]
      rw [qAt];simp [-qAt,qAk,qAn,qAl,qAh,qAg,qAe,qAb,qAd,qAa,qAi,qAf,qAc,qAs,qAu,resV,retV,qAm,qAj,qAr,qAq,qAp,qAo];refine qSx 1 ?_;rw [qKt];simp [qAk,qAn,qAl,qAh,qAg,qAe,qAb,qAd,qAa,qAi,qAf,qAc,qAs,qAu,resV,retV,qAm,qAj,qAr,qAq,qAp,qAo];exact ⟨_,Inls.agg (xs:=[_,_]) (ys:=[_,_]) ⟨.nil,.nil,trivial⟩,hk⟩
    . simp [-qAt,qAk,qAn,qAl,qAh,qAg,qAe,qAb,qAd,qAa,qAi,qAf,qAc,qAs,qAu,resV,retV,qAm,qAj,qAr,qAq,qAp,qAo,callK_def]
      rw [qAt];simp [-qAt,qAk,qAn,qAl,qAh,qAg,qAe,qAb,qAd,qAa,qAi,qAf,qAc,qAs,qAu,resV,retV,qAm,qAj,qAr,qAq,qAp,qAo];refine qSx 1 ?_;rw [qKt];simp [qAk,qAn,qAl,qAh,qAg,qAe,qAb,qAd,qAa,qAi,qAf,qAc,qAs,qAu,resV,retV,qAm,qAj,qAr,qAq,qAp,qAo];refine ⟨_,Inls.agg (xs:=[_,_]) (ys:=[_,_]) ⟨?_,.nil,trivial⟩,hk⟩;exact AccM.inl (e:=4) (F:=vIns) (l:=[]) (.inr ⟨h.length+1,1,rfl,by omega,by simp,rfl⟩) fun _=>rfl
  . refine lfOwn_call h0 hl fun H idf verf kp cod hidf frm=>?_
    obtain ⟨g,hg⟩:=kp.ext;have i1:Inl h.length H (.slice (some ⟨h.length+1,0,none⟩) code.length 1) (vM 4 vIns code):=AccM.inl (e:=4) (F:=vIns) (.inr ⟨_,1,rfl,by omega,cod,qDs (e:=4) (fun _=>rfl) _⟩) fun _=>rfl
    have i2:Inl h.length H (.slice (some ⟨idf,0,none⟩) code.length verf) (vL vI (ownL code.length)):=AccL.inl (.inr ⟨idf,verf,by rw [qEo],by omega,frm,by simp⟩) fun _=>rfl
    exact ⟨⟨g,hg⟩,_,Inls.agg (xs:=[_,_]) (ys:=[vM 4 vIns code,vL vI (ownL code.length)]) ⟨i1,i2,trivial⟩,hk⟩
set_option maxHeartbeats 4000000 in
theorem lfCode_call {code:List Ins} (ho:∀ i∈code,i.op≤255) (hl:code.length≤lim) (hk:∀ out fm,qDk code out fm→K (qMg out fm) h):qBl prog 9 [vM 4 vIns code] h K:=by
  refine qBl.forget ?_;refine call_lfCode (by simp) ?_
  have hlim:lim=1048576:=rfl
  by_cases h60:60 < code.length
  . have h60':(60:Int) < code.length:=by omega
    simp [qAk,qAn,qAl,qAh,qAg,qAe,qAb,qAd,qAa,qAi,qAf,qAc,qAs,qAu,resV,retV,qAm,qAj,qAr,qAq,qAp,qAo,qMf,h60'];exact ⟨_,Inls.agg (xs:=[_,_]) (ys:=[_,_]) ⟨.nil,.nil,trivial⟩,hk [] [] (by unfold qDk; rw [if_pos h60]; exact ⟨rfl,rfl⟩)⟩
  . have h60':¬ (60:Int) < code.length:=by omega
    simp [-qAt,qAk,qAn,qAl,qAh,qAg,qAe,qAb,qAd,qAa,qAi,qAf,qAc,qAs,qAu,resV,retV,qAm,qAj,qAr,qAq,qAp,qAo,qMf];rw [qAt];simp [-qAt,qAk,qAn,qAl,qAh,qAg,qAe,qAb,qAd,qAa,qAi,qAf,qAc,qAs,qAu,resV,retV,qAm,qAj,qAr,qAq,qAp,qAo,h60']
    by_cases h6:code.length < 60
    . have h6':(code.length:Int) < 60:=by omega
      rw [qAt];simp [-qAt,qAk,qAn,qAl,qAh,qAg,qAe,qAb,qAd,qAa,qAi,qAf,qAc,qAs,qAu,resV,retV,qAm,qAj,qAr,qAq,qAp,qAo,h6'];refine Succs_call (by omega) ?_
      simp [-qAt,qAk,qAn,qAl,qAh,qAg,qAe,qAb,qAd,qAa,qAi,qAf,qAc,qAs,qAu,resV,retV,qAm,qAj,qAr,qAq,qAp,qAo,callK_def];have hss:=sum_succs code;refine lpOf_call (s:=succs code) (by rw [qBt]; omega) (by rw [qBt]; omega) (fun l hl=>by have:=succs_short code l hl; omega) fun ls hls=>?_
      rw [qBt] at hls;have hlsl:=hls.len;simp [-qAt,qAk,qAn,qAl,qAh,qAg,qAe,qAb,qAd,qAa,qAi,qAf,qAc,qAs,qAu,resV,retV,qAm,qAj,qAr,qAq,qAp,qAo,callK_def];refine qDh (σ:=Nat×Heap) (fun x=>[(0,vM 4 vIns code),(2,ptr h.length),(16,vM 2 vLp ls),(17,vI ls.length),(18,vI x.1)]) (fun x=>x.2)
        (fun x=>x.1≤ls.length∧qGc code ls=qGc code (ls.drop x.1)∧RowV x.2 h.length 0 2 [nilS,nilS]∧qBs h.length h x.2) (fun x=>ls.length - x.1)
        (0,h++[bx [nilS,nilS] 2]) (by simp) rfl ⟨by simp,by simp,by simp [RowV,bx],qBs.app⟩ ?_
      rintro ⟨k,H⟩ fr ⟨hk0,he,hr,kp⟩;simp only at hk0 he hr kp ⊢
      by_cases hlt:k < ls.length
      . obtain ⟨k1,hk1,wk⟩:=qBr (show k < lim by omega)
        have hkf:(k:Int) < ls.length:=by omega
        obtain ⟨p,hp⟩:∃ p,ls[k]?=some p:=⟨_,List.getElem?_eq_getElem hlt⟩;obtain ⟨hd,B⟩:=p;obtain ⟨m1,m2,_⟩:=hls.mem (List.mem_of_getElem? hp);simp only at m1 m2;have hBb:=m2.lt;have hbl:∀ t,B.testBit t=true→t < code.length:=fun t ht=>by have:=m2.lts (by rw [qBt]; exact m1) ht; rwa [qBt] at this
        have hdrop:ls.drop k=(hd,B) :: ls.drop k1:=by rw [hk1,List.drop_eq_getElem_cons hlt]; congr 1; exact (List.getElem?_eq_some_iff.1 hp).2
        have evp:vLp (hd,B)=[vI hd,vL vI (qCc B)]:=rfl;have hb64:=bitsI_len B;simp [qAk,qAn,qAl,qAh,qAg,qAe,qAb,qAd,qAa,qAi,qAf,qAc,qAs,qAu,resV,retV,qAm,qAj,qAr,qAq,qAp,qAo,hkf,hp,evp];refine qKm (by decide) (by omega) ?_
        rw [with_bits hBb];simp [qAk,qAn,qAl,qAh,qAg,qAe,qAb,qAd,qAa,qAi,qAf,qAc,qAs,qAu,resV,retV,qAm,qAj,qAr,qAq,qAp,qAo,callK_def];obtain ⟨H1,hH1⟩:∃ H1,H1=H++[bx [vI hd,vL vI (qCc B)] 2,bx [vM 4 vIns code,vI hd,vU B] 3]:=⟨_,rfl⟩;have G:RgB H1 (H.length+1) code hd B:=by
          subst hH1;exact ⟨by simp [qAk,qAn,qAl,qAh,qAg,qAe,qAb,qAd,qAa,qAi,qAf,qAc,qAs,qAu,resV,retV,qAm,qAj,qAr,qAq,qAp,qAo],by simp [qAk,qAn,qAl,qAh,qAg,qAe,qAb,qAd,qAa,qAi,qAf,qAc,qAs,qAu,resV,retV,qAm,qAj,qAr,qAq,qAp,qAo],by simp [qAk,qAn,qAl,qAh,qAg,qAe,qAb,qAd,qAa,qAi,qAf,qAc,qAs,qAu,resV,retV,qAm,qAj,qAr,qAq,qAp,qAo],by simp⟩
        refine qJe (g:=fun t=>qJs code hd B t.toNat) callMay (by omega) rd_vL (fun x K' hx hK=>?_) ?_
        . obtain ⟨t,rfl,_,ht⟩:=qEq.1 hx
          obtain ⟨c,hc⟩:∃ c,code[t]?=some c:=⟨_,List.getElem?_eq_getElem (hbl t ht)⟩;refine qBl.dropB (b:=mayB code hd B t c) (fun K2 hk2=>?_) (by simpa [qJs,hc] using hK)
          exact lfMay_call (by rw [hH1] at G; exact G) hBb hbl (by omega) (by omega) ho hc hk2
        . cases hf:(qCc B).findIdx? (fun t=>qJs code hd B t.toNat) with
          | none =>
            have hfst:fstI (fun t=>qJs code hd B t.toNat) (qCc B)=-1:=by unfold fstI; rw [hf]
            have hpk:qMr code (hd,B)=none:=by
              unfold qMr;have:=List.findIdx?_eq_none_iff.1 hf;rw [List.find?_eq_none.2 (fun x hx=>by simp [this x hx])]; rfl
            rw [hfst];simp [qAk,qAn,qAl,qAh,qAg,qAe,qAb,qAd,qAa,qAi,qAf,qAc,qAs,qAu,resV,retV,qAm,qAj,qAr,qAq,qAp,qAo,callK_def,wk];refine .go (k1,_) (by simp only []; omega) (by simp) rfl ⟨by simp only []; omega,by simp only []; rw [he,hdrop]; simp only [qGc,hpk],hr.keep (List.getElem?_append_left hr.lt),kp.trans ⟨by simp,fun i hi=>List.getElem?_append_left (by have:=kp.1; omega)⟩⟩
          | some n =>
            obtain ⟨n1,n2,n3⟩:=List.findIdx?_eq_some_iff_getElem.1 hf;have hfst:fstI (fun t=>qJs code hd B t.toNat) (qCc B)=(n:Int):=by unfold fstI; rw [hf]
            obtain ⟨v,hv⟩:∃ v,(qCc B)[n]?=some v:=⟨_,List.getElem?_eq_getElem n1⟩;have hvg:(qCc B)[n]=v:=(List.getElem?_eq_some_iff.1 hv).2;obtain ⟨t,rfl,_,ht⟩:=qEq.1 (List.mem_of_getElem? hv);obtain ⟨c,hc⟩:∃ c,code[t]?=some c:=⟨_,List.getElem?_eq_getElem (hbl t ht)⟩;have hpk:qMr code (hd,B)=some t:=by
              unfold qMr;rw [List.find?_eq_some_iff_getElem.2 ⟨by rw [← hvg]; exact n2,n,n1,hvg,fun j hj=>by simpa using n3 j hj⟩]
              rfl
            have hnI:(n:Int) < (qCc B).length:=by omega
            have h0n:(0:Int)≤(n:Int):=by omega
            rw [hfst];simp [qAk,qAn,qAl,qAh,qAg,qAe,qAb,qAd,qAa,qAi,qAf,qAc,qAs,qAu,resV,retV,qAm,qAj,qAr,qAq,qAp,qAo,callK_def,wk,hv,hnI,h0n];refine lfLift_call (by rw [hH1] at G; exact G) hBb m1 (by omega) hc ?_
            rw [← show (H1:Heap)=_ from hH1];have hr1:RowV H1 h.length 0 2 [nilS,nilS]:=by rw [hH1]; exact hr.keep (List.getElem?_append_left hr.lt)
            have kp1:qBs h.length h H1:=by rw [hH1]; exact kp.trans ⟨by simp,fun i hi=>List.getElem?_append_left (by have:=kp.1; omega)⟩
            obtain ⟨H2,s1,s2,s3⟩:=hr1.store (n:=2) (cs:=[vM 4 vIns (qHu hd B code t c),vL vI (qHt code.length hd t)]) rfl rfl rfl;have s1':qBu H1 2 (ptr h.length) (qMg (qHu hd B code t c) (qHt code.length hd t))=some H2:=s1;have ce2:H2.cells? h.length 0 0 2=some [vM 4 vIns (qHu hd B code t c),vL vI (qHt code.length hd t)]:=s2.cells rfl;simp [qAk,qAn,qAl,qAh,qAg,qAe,qAb,qAd,qAa,qAi,qAf,qAc,qAs,qAu,resV,retV,qAm,qAj,qAr,qAq,qAp,qAo,callK_def,s1',ce2]
            obtain ⟨g,hg⟩:=(kp1.trans ⟨by rw [s3.2]; exact Nat.le_refl _,fun i hi=>s3.1 i (by omega)⟩:qBs h.length h H2).ext
            exact ⟨⟨g,hg⟩,_,Inls.agg (xs:=[_,_]) (ys:=[_,_]) ⟨.cell rfl,.cell rfl,trivial⟩,hk _ _ (by unfold qDk; rw [if_neg h60,if_neg (by omega)]; exact ⟨ls,hls,by rw [he,hdrop]; simp only [qGc,hpk,hc,Option.getD_some]⟩)⟩
      . obtain rfl:k=ls.length:=by omega
        have hkf:¬ (ls.length:Int) < ls.length:=by omega
        rw [List.drop_length] at he;simp [-qAt,qAk,qAn,qAl,qAh,qAg,qAe,qAb,qAd,qAa,qAi,qAf,qAc,qAs,qAu,resV,retV,qAm,qAj,qAr,qAq,qAp,qAo,hkf];rw [qAt];simp [-qAt,qAk,qAn,qAl,qAh,qAg,qAe,qAb,qAd,qAa,qAi,qAf,qAc,qAs,qAu,resV,retV,qAm,qAj,qAr,qAq,qAp,qAo];refine lfOwn_val hl ?_;obtain ⟨H2,s1,s2,s3⟩:=hr.store (n:=2) (cs:=[vM 4 vIns code,vL vI (ownL code.length)]) rfl rfl rfl;have s1':qBu H 2 (ptr h.length) (qMg code (ownL code.length))=some H2:=s1
        have ce2:H2.cells? h.length 0 0 2=some [vM 4 vIns code,vL vI (ownL code.length)]:=s2.cells rfl;simp [qAk,qAn,qAl,qAh,qAg,qAe,qAb,qAd,qAa,qAi,qAf,qAc,qAs,qAu,resV,retV,qAm,qAj,qAr,qAq,qAp,qAo,callK_def,s1',ce2];obtain ⟨g,hg⟩:=(kp.trans ⟨by rw [s3.2]; exact Nat.le_refl _,fun i hi=>s3.1 i (by omega)⟩:qBs h.length h H2).ext
        exact ⟨⟨g,hg⟩,_,Inls.agg (xs:=[_,_]) (ys:=[_,_]) ⟨.cell rfl,.cell rfl,trivial⟩,hk code (ownL code.length) (by unfold qDk; rw [if_neg h60,if_neg (by omega)]; exact ⟨ls,hls,by rw [he]; rfl⟩)⟩
    . have h6':¬ (code.length:Int) < 60:=by omega
      rw [qAt];simp [-qAt,qAk,qAn,qAl,qAh,qAg,qAe,qAb,qAd,qAa,qAi,qAf,qAc,qAs,qAu,resV,retV,qAm,qAj,qAr,qAq,qAp,qAo,h6'];refine lfOwn_val hl ?_;simp [qAk,qAn,qAl,qAh,qAg,qAe,qAb,qAd,qAa,qAi,qAf,qAc,qAs,qAu,resV,retV,qAm,qAj,qAr,qAq,qAp,qAo,callK_def,cells_edit];exact ⟨_,Inls.agg (xs:=[_,_]) (ys:=[_,_]) ⟨.cell rfl,.cell rfl,trivial⟩,hk _ _ (by unfold qDk; rw [if_neg h60,if_pos (by omega)]; exact ⟨rfl,rfl⟩)⟩
end
end Pm

/- Code that is one ring: plain instructions, and a way back to the first.
   No condition: plain lemmas. -/

namespace Pm
set_option linter.unusedSimpArgs false
set_option linter.unusedVariables false
open Go Am
open Go.Proofs.Tryz (prog)

structure Ring0 (code:List Ins) (m:Nat) (z:Ins):Prop where
  len:code.length=m+1
  lst:code[m]?=some z
  op:z.op=11
  b:z.b=0
  str:∀ i c,i < m→code[i]?=some c→c.op≠10∧c.op≠11
section
variable {code : List Ins} {m : Nat} {z : Ins}
theorem Ring0.next (h:Ring0 code m z) {t:Nat} (ht:t < m):qDr (succs code) t=[((t+1:Nat):Int)]:=by
  obtain ⟨c,hc⟩:∃ c,code[t]?=some c:=⟨_,List.getElem?_eq_getElem (by rw [h.len]; omega)⟩
  rw [qJq hc];exact nextsOf_plain (h.str t c ht hc)
theorem Ring0.last (h:Ring0 code m z) {x:Int}:x∈qDr (succs code) m↔x=((m+1:Nat):Int)∨x=0:=by
  rw [qJq h.lst];have e:qCu m z=qGz (srt [((m+1:Nat):Int),0]):=by unfold qCu; rw [if_neg (by rw [h.op]; decide),if_pos h.op,h.b]
  have e2:srt [((m+1:Nat):Int),0]=[0,((m+1:Nat):Int)]:=by
    show (if (0:Int) < ((m+1:Nat):Int) then [(0:Int),((m+1:Nat):Int)] else [((m+1:Nat):Int),0])=_
    rw [if_pos (by omega)]
  have e3:qGz [0,((m+1:Nat):Int)]=[0,((m+1:Nat):Int)]:=by
    show (if (0:Int)=((m+1:Nat):Int) then [(0:Int)] else [0,((m+1:Nat):Int)])=_
    rw [if_neg (by omega)]
  rw [e,e2,e3];simp only [List.mem_cons,List.not_mem_nil,or_false];exact Or.comm
theorem Ring0.at_ (h:Ring0 code m z) {t:Nat} (ht:t≤m):(succs code)[t]?=some (qDr (succs code) t):=by
  obtain ⟨c,hc⟩:∃ c,code[t]?=some c:=⟨_,List.getElem?_eq_getElem (by rw [h.len]; omega)⟩
  rw [qJq hc,qIo,hc]; rfl
theorem Ring0.come (h:Ring0 code m z):∀ t,t≤m→Come (succs code) t
  | 0,_=>.start (by rw [qBt,h.len]; omega)
  | t+1,ht=>.step (h.come t (by omega)) (h.at_ (by omega)) (by rw [h.next (by omega)]; simp) (by rw [qBt,h.len]; omega)
theorem Ring0.away (h:Ring0 code m z) {k:Nat}:∀ t,t < k→t≤m→Away (succs code) k t
  | 0,hk,_=>.start (by rw [qBt,h.len]; omega) (by omega)
  | t+1,hk,ht=>.step (h.away t (by omega) (by omega)) (h.at_ (by omega)) (by rw [h.next (by omega)]; simp) (by rw [qBt,h.len]; omega) (by omega)
theorem Ring0.back (h:Ring0 code m z) {hd t:Nat} (hb:qHp (succs code) hd t):hd=0∧t=m:=by
  obtain ⟨h1,h2,h3,h4,h5,h6⟩:=hb;rw [qBt,h.len] at h1 h4
  by_cases ht:t < m
  . rw [h.next ht] at h2
    have h7:(hd:Int)=((t+1:Nat):Int):=List.mem_singleton.1 h2;obtain rfl:hd=t+1:=by omega
    exact absurd (h.away t (by omega) (by omega)) h6
  . obtain rfl:t=m:=by omega
    rcases h.last.1 h2 with e | e
    . omega
    . exact ⟨by omega,rfl⟩
theorem away0 {s:List (List Int)} {i:Nat} (h:Away s 0 i):False:=by
  generalize hk:0=k at h
  induction h with
  | start _ hn=>exact hn hk
  | step _ _ _ _ _ ih=>exact ih
theorem Ring0.back0 (h:Ring0 code m z):qHp (succs code) 0 m :=
  ⟨by rw [qBt,h.len]; omega,h.last.2 (.inr rfl),h.come m (Nat.le_refl _),by rw [qBt,h.len]; omega,h.come m (Nat.le_refl _),away0⟩
theorem Ring0.inlp (h:Ring0 code m z):∀ d t,t+d=m→InLp (succs code) 0 t
  | 0,t,e=>by
    obtain rfl:t=m:=by omega
    exact .back h.back0
  | d+1,t,e=>.step (h.inlp d (t+1) (by omega)) (by omega) (by rw [qBt,h.len]; omega) (by rw [h.next (by omega)]; simp) (h.come t (by omega))
theorem Ring0.loops (h:Ring0 code m z):∀ {n:Nat} {l:List (Nat×Nat)},LoopsTo (succs code) n l→(n=0∧l=[])∨∃ B,LoopOf (succs code) 0 B∧l=[(0,B)]:=by
  intro n l hl
  induction hl with
  | zero=>exact .inl ⟨rfl,rfl⟩
  | @none n l _ hn ih =>
    rcases ih with ⟨rfl,_⟩ | h2
    . exact absurd ⟨m,h.back0⟩ hn
    . exact .inr h2
  | @one n B t l hl0 hb hB ih =>
    obtain ⟨rfl,rfl⟩:=h.back hb;rcases ih with ⟨_,rfl⟩ | ⟨B',_,e⟩
    . exact .inr ⟨B,hB,rfl⟩
    . subst e
      cases hl0
theorem Ring0.bit (h:Ring0 code m z) (hm:m < 64) {B:Nat} (hB:LoopOf (succs code) 0 B) {t:Nat}:B.testBit t=true↔t≤m:=by
  constructor
  . intro ht
    have:=hB.lts (by rw [qBt,h.len]; omega) ht
    rw [qBt,h.len] at this;omega
  . intro ht
    exact (hB.bit t (by omega)).2 (h.inlp (m - t) t (by omega))
theorem bitsI_zero {B:Nat} (h:B.testBit 0=true):∃ l,qCc B=0 :: l:=by
  unfold qCc;rw [show List.range 64=0 :: (List.range 63).map Nat.succ from List.range_succ_eq_map,List.filter_cons,if_pos h];exact ⟨_,rfl⟩
theorem Ring0.first (h:Ring0 code m z) (h0:0 < m) (hm:m < 59) {out:List Ins} {fm:List Int} (hL:qDk code out fm) {x:Ins} (hx:code[0]?=some x) (h7:x.op=7)
    (hq:∀ k c,code[k]?=some c→qFz c.op=true∧¬ (c.op=8∧c.a=x.b)∧(k≠0→hasB (qGg c) x.a=false)) :
    out.length=m+2∧out[0]?=some x∧out[1]?=some nopI∧(∀ k,0 < k→k < m→out[k+1]?=code[k]?)∧out[m+1]?=some { z with b:=1 }∧fm=0 :: ownL (m+1):=by
  unfold qDk at hL;rw [if_neg (by rw [h.len]; omega),if_neg (by rw [h.len]; omega)] at hL
  obtain ⟨ls,h1,h2⟩:=hL;rcases h.loops h1 with ⟨e0,_⟩ | ⟨B,hB,rfl⟩
  . rw [h.len] at e0; omega
  . have hbit:=fun t=>h.bit (by omega) hB (t:=t)
    have hmay:mayB code 0 B 0 x=true:=by
      have han:(qCc B).any (qJp code x 0)=false:=by
        rw [List.any_eq_false];intro y hy;obtain ⟨t,rfl,_,ht⟩:=qEq.1 hy;obtain ⟨c,hc⟩:∃ c,code[t]?=some c:=⟨_,List.getElem?_eq_getElem (by have:=(hbit t).1 ht; rw [h.len]; omega)⟩
        obtain ⟨q1,q2,q3⟩:=hq t c hc;simp only [qJp,Int.toNat_natCast,hc,oddB,q1]
        by_cases ht0:t=0
        . subst ht0; simpa using q2
        . have:=q3 ht0
          simp [this];exact fun a b=>q2 ⟨a,b⟩
      have hcl:qFj code 0 B=false:=by unfold qFj hasB; simp
      unfold mayB;rw [han,hcl];simp [h7,qJj]
    have hpk:qMr code (0,B)=some 0:=by
      obtain ⟨l,hl⟩:=bitsI_zero ((hbit 0).2 (by omega))
      unfold qMr;simp only [hl,List.find?_cons];have:qJs code 0 B (0:Int).toNat=true:=by unfold qJs; rw [show (0:Int).toNat=0 from rfl,hx]; exact hmay
      rw [this]; rfl
    simp only [qGc,hpk,hx,Option.getD_some] at h2;have e1:out=x :: (qEm 0 B code).set 0 nopI:=by have:=congrArg Prod.fst h2; simpa [qHu] using this
    have e2:fm=0 :: ownL (m+1):=by have:=congrArg Prod.snd h2; simpa [qHt,h.len] using this
    have ml:(qEm 0 B code).length=m+1:=by simp [qEm,h.len]
    have mat:∀ (k:Nat) (c:Ins),code[k]?=some c→(qEm 0 B code)[k]?=some (qFl 0 B k c):=fun k c hc=>by simp [qEm,hc]
    refine ⟨by rw [e1]; simp [ml],by rw [e1]; rfl,by rw [e1]; simp [ml],fun k hk0 hk=>?_,?_,e2⟩
    . obtain ⟨c,hc⟩:∃ c,code[k]?=some c:=⟨_,List.getElem?_eq_getElem (by rw [h.len]; omega)⟩
      obtain ⟨s1,s2⟩:=h.str k c hk hc;rw [e1,List.getElem?_cons_succ,List.getElem?_set_ne (by omega),mat k c hc,hc]
      unfold qFl;rw [if_neg s1,if_neg s2]
    . rw [e1,List.getElem?_cons_succ,List.getElem?_set_ne (by omega),mat m z h.lst]
      unfold qFl;rw [if_neg (by rw [h.op]; decide),if_pos h.op,h.b]
      have:toI 0 B m 0=1:=by
        unfold toI;rw [if_pos (.inr ⟨rfl,by rw [qIz (by omega)]; exact (hbit m).2 (Nat.le_refl _)⟩)]
        exact wrap_i64 (by omega) (by omega)
      rw [this]
end
end Pm
