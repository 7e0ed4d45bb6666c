/- Loads qGm of loops: the code is what the document says, walked.
   No condition: plain lemmas. -/

import Derived.Test.YtdiggaadgjkgkaaGreatDoorZNPmLr5
import Derived.Test.YtdiggaadgjkgkaaGreatDoorZNPmLft4
import Derived.Test.YtdiggaadgjkgkaaGreatDoorZNPmMake2
import Derived.Test.YtdiggaadgjkgkaaGreatDoorZNPmBox
import Derived.Test.YtdiggaadgjkgkaaGreatDoorZNPmFlow1
namespace Pm
set_option linter.unusedSimpArgs false
set_option linter.unusedVariables false
open Go Am
open Go.Proofs.Tryz (prog)

def qTp (code:List Ins) (p:Nat×Nat):Prop:=∀ t∈qCc p.2,qJs code p.1 p.2 t.toNat=false
theorem qTp.pick {code:List Ins} {p:Nat×Nat} (h:qTp code p):qMr code p=none:=by
  unfold qMr;rw [List.find?_eq_none.2 fun t ht=>by simp [h t ht]]; rfl
theorem liftTo_none {code:List Ins}:∀ {ls:List (Nat×Nat)},(∀ p∈ls,qTp code p)→qGc code ls=(code,ownL code.length)
  | [],_=>rfl
  | p :: ls,h=>by
    simp only [qGc,(h p (by simp)).pick]
    exact liftTo_none fun q hq=>h q (by simp [hq])
theorem liftTo_found {code:List Ins} {p:Nat×Nat} {k:Nat} {t:Int}:∀ {ls:List (Nat×Nat)} {n:Nat},(∀ (j:Nat) (q:Nat×Nat),j < n→ls[j]?=some q→qTp code q)→ls[n]?=some p→(qCc p.2)[k]?=some t →
    (∀ (j:Nat) (t':Int),j < k→(qCc p.2)[j]?=some t'→qJs code p.1 p.2 t'.toNat=false)→qJs code p.1 p.2 t.toNat=true→qGc code ls=(qHu p.1 p.2 code t.toNat (code[t.toNat]?.getD nopI),qHt code.length p.1 t.toNat)
  | [],n,_,h,_,_,_=>by simp at h
  | q :: ls,0,_,h,h1,h2,h3=>by
    cases h;have hk:=(List.getElem?_eq_some_iff.1 h1).1;have hp:qMr code p=some t.toNat:=by
      unfold qMr;have hg:(qCc p.2)[k]=t:=(List.getElem?_eq_some_iff.1 h1).2;have hf:(qCc p.2).find? (fun t=>qJs code p.1 p.2 t.toNat)=some t:=List.find?_eq_some_iff_getElem.2 ⟨h3,k,hk,hg,fun j hj=>by
        have:=h2 j _ hj (List.getElem?_eq_getElem (by omega))
        simp [this]⟩
      rw [hf]; rfl
    simp only [qGc,hp]
  | q :: ls,n+1,h0,h,h1,h2,h3=>by
    simp only [qGc,(h0 0 q (by omega) rfl).pick]
    exact liftTo_found (n:=n) (fun j r hj hr=>h0 (j+1) r (by omega) (by simpa using hr)) (by simpa using h) h1 h2 h3
theorem movedL_len' (hd B:Nat) (code:List Ins):(qEm hd B code).length=code.length:=by simp [qEm]
theorem liftTo_len {code:List Ins}:∀ {ls:List (Nat×Nat)} {out:List Ins} {fm:List Int},(out,fm)=qGc code ls→out.length≤code.length+1∧fm.length≤code.length+1
  | [],out,fm,h=>by cases h; simp [qEo]
  | p :: ls,out,fm,h=>by
    simp only [qGc] at h
    split at h
    . cases h
      refine ⟨?_,?_⟩
      . simp [qHu,movedL_len']; omega
      . simp [qHt,qEo]; omega
    . exact liftTo_len h
theorem qDk.short {code out:List Ins} {fm:List Int} (h:qDk code out fm):out.length≤61∧fm.length≤61:=by
  unfold qDk at h
  split at h
  . obtain ⟨rfl,rfl⟩:=h; simp
  . split at h
    . obtain ⟨rfl,rfl⟩:=h; rw [qEo]; omega
    . obtain ⟨ls,_,h⟩:=h
      have:=liftTo_len h; omega
def NoTo (code:List Ins) (ls:List (Nat×Nat)) (n:Nat):Prop:=code.length < 60→∀ (j:Nat) (q:Nat×Nat),j < n→ls[j]?=some q→qTp code q
def NoIn (code:List Ins) (hd B k:Nat):Prop:=code.length < 60→∀ (j:Nat) (t':Int),j < k→(qCc B)[j]?=some t'→qJs code hd B t'.toNat=false
section
variable {h : Heap} {K : Value → Heap → Prop}
set_option maxHeartbeats 8000000 in
theorem r20Code_call {code:List Ins} (ho:∀ i∈code,i.op≤255) (hl:code.length≤lim) (hk:∀ out fm,qDk code out fm→K (qMg out fm) h):qBl prog 14 [vM 4 vIns code] h K:=by
  refine qBl.forget ?_;refine call_r20Code (by simp) ?_
  have hlim:lim=1048576:=rfl
  by_cases h60:60 < code.length
  . have h60':(60:Int) < code.length:=by omega
    simp [qAk,qAn,qAl,qAh,qAg,qAe,qAb,qAd,qAa,qAi,qAf,qAc,qAs,qAu,resV,retV,qAm,qAj,qAr,qAq,qAp,qAo,qKi,h60'];exact ⟨_,Inls.agg (xs:=[_,_]) (ys:=[_,_]) ⟨.nil,.nil,trivial⟩,hk [] [] (by unfold qDk; rw [if_pos h60]; exact ⟨rfl,rfl⟩)⟩
  have h60':¬ (60:Int) < code.length:=by omega
  simp [-qAt,qAk,qAn,qAl,qAh,qAg,qAe,qAb,qAd,qAa,qAi,qAf,qAc,qAs,qAu,resV,retV,qAm,qAj,qAr,qAq,qAp,qAo,qKi];rw [qAt];simp [-qAt,qAk,qAn,qAl,qAh,qAg,qAe,qAb,qAd,qAa,qAi,qAf,qAc,qAs,qAu,resV,retV,qAm,qAj,qAr,qAq,qAp,qAo,h60,h60'];refine RSuccs_call (by omega) ?_
  simp [-qAt,qAk,qAn,qAl,qAh,qAg,qAe,qAb,qAd,qAa,qAi,qAf,qAc,qAs,qAu,resV,retV,qAm,qAj,qAr,qAq,qAp,qAo,callK_def];have hss:=sum_succs code;refine r12Of_call (s:=succs code) (by rw [qBt]; omega) (fun l hl=>by have:=succs_short code l hl; omega) fun ls hls=>?_
  rw [qBt] at hls;have hlsl:=hls.len;simp [-qAt,qAk,qAn,qAl,qAh,qAg,qAe,qAb,qAd,qAa,qAi,qAf,qAc,qAs,qAu,resV,retV,qAm,qAj,qAr,qAq,qAp,qAo,callK_def];rw [qAt];simp [-qAt,qAk,qAn,qAl,qAh,qAg,qAe,qAb,qAd,qAa,qAi,qAf,qAc,qAs,qAu,resV,retV,qAm,qAj,qAr,qAq,qAp,qAo];have own:(code.length < 60→qGc code ls=(code,ownL code.length))→qDk code code (ownL code.length):=fun h=>by
    unfold qDk;rw [if_neg h60]
    by_cases e:code.length=60
    . rw [if_pos e]; exact ⟨rfl,rfl⟩
    . rw [if_neg e]; exact ⟨ls,hls,(h (by omega)).symm⟩
  refine qDh (σ:=Nat) (fun x=>[(0,vM 4 vIns code),(2,ptr h.length),(3,vM 2 vLp ls),(4,vI x)]) (fun x=>h++[bx [nilS,nilS] 2])
    (fun x=>x≤ls.length∧NoTo code ls x) (fun x=>ls.length - x) 0 (by simp) rfl ⟨by simp,fun _ j q hj=>by omega⟩ ?_
  rintro n fr ⟨hn,hno⟩
  by_cases hlt:n < ls.length
  . obtain ⟨n1,hn1,wn⟩:=qBr (show n < lim by omega)
    have hnI:(n:Int) < ls.length:=by omega
    obtain ⟨p,hp⟩:∃ p,ls[n]?=some p:=⟨_,List.getElem?_eq_getElem hlt⟩;obtain ⟨hd,B⟩:=p;obtain ⟨m1,m2,_⟩:=hls.mem (List.mem_of_getElem? hp);simp only at m1 m2;have hBb:=m2.lt;have hbl:∀ t,B.testBit t=true→t < code.length:=fun t ht=>by have:=m2.lts (by rw [qBt]; exact m1) ht; rwa [qBt] at this
    have evp:vLp (hd,B)=[vI hd,vL vI (qCc B)]:=rfl;have hb64:=bitsI_len B;rw [qAt];simp [-qAt,qAk,qAn,qAl,qAh,qAg,qAe,qAb,qAd,qAa,qAi,qAf,qAc,qAs,qAu,resV,retV,qAm,qAj,qAr,qAq,qAp,qAo,hnI];rw [qAt];simp [-qAt,qAk,qAn,qAl,qAh,qAg,qAe,qAb,qAd,qAa,qAi,qAf,qAc,qAs,qAu,resV,retV,qAm,qAj,qAr,qAq,qAp,qAo];refine qDh (σ:=Nat) (fun x=>[(0,vM 4 vIns code),(2,ptr h.length),(3,vM 2 vLp ls),(4,vI n),(5,vI x)]) (fun x=>h++[bx [nilS,nilS] 2])
      (fun x=>x≤(qCc B).length∧NoIn code hd B x) (fun x=>(qCc B).length - x) 0 (by simp) rfl ⟨by simp,fun _ j q hj=>by omega⟩ ?_
    rintro k fr ⟨hk',hnk⟩
    by_cases hkl:k < (qCc B).length
    . obtain ⟨k1,hk1,wk⟩:=qBr (show k < lim by omega)
      have hkI:(k:Int) < (qCc B).length:=by omega
      obtain ⟨v,hv⟩:∃ v,(qCc B)[k]?=some v:=⟨_,List.getElem?_eq_getElem hkl⟩;obtain ⟨t,rfl,_,ht⟩:=qEq.1 (List.mem_of_getElem? hv);obtain ⟨c,hc⟩:∃ c,code[t]?=some c:=⟨_,List.getElem?_eq_getElem (hbl t ht)⟩;have hma:qJs code hd B ((t:Int)).toNat=mayB code hd B t c:=by simp [qJs,hc]
      rw [qAt];simp [-qAt,qAk,qAn,qAl,qAh,qAg,qAe,qAb,qAd,qAa,qAi,qAf,qAc,qAs,qAu,resV,retV,qAm,qAj,qAr,qAq,qAp,qAo,hnI,hp,evp,hkI,hv];rw [qAt];simp [-qAt,qAk,qAn,qAl,qAh,qAg,qAe,qAb,qAd,qAa,qAi,qAf,qAc,qAs,qAu,resV,retV,qAm,qAj,qAr,qAq,qAp,qAo,hnI,hp,evp,hkI,hv];rw [← evp];refine r20may_call hBb hbl m1 (by omega) ho hc ?_
      by_cases h6:code.length < 60
      . rw [decide_eq_true h6,Bool.true_and]
        cases hb:mayB code hd B t c with
        | false =>
          simp [qAk,qAn,qAl,qAh,qAg,qAe,qAb,qAd,qAa,qAi,qAf,qAc,qAs,qAu,resV,retV,qAm,qAj,qAr,qAq,qAp,qAo,callK_def,wk];refine .go k1 (by omega) (by simp) rfl ⟨by omega,fun _ j t' hj hjt=>?_⟩
          by_cases e:j=k
          . subst e; rw [hv] at hjt; cases hjt; rw [hma,hb]
          . exact hnk h6 j t' (by omega) hjt
        | true =>
          simp [-qAt,qAk,qAn,qAl,qAh,qAg,qAe,qAb,qAd,qAa,qAi,qAf,qAc,qAs,qAu,resV,retV,qAm,qAj,qAr,qAq,qAp,qAo,callK_def,hnI,hp,evp,hkI,hv];rw [← evp];refine r20lifted_call hBb m1 (by omega) hc ?_
          simp [qAk,qAn,qAl,qAh,qAg,qAe,qAb,qAd,qAa,qAi,qAf,qAc,qAs,qAu,resV,retV,qAm,qAj,qAr,qAq,qAp,qAo,callK_def,cells_edit];have e:=liftTo_found (hno h6) hp hv (fun j t' hj hjt=>hnk h6 j t' hj hjt) (by rw [hma,hb])
          simp only [Int.toNat_natCast,hc,Option.getD_some] at e;exact ⟨_,Inls.agg (xs:=[_,_]) (ys:=[_,_]) ⟨.cell rfl,.cell rfl,trivial⟩,hk _ _ (by unfold qDk; rw [if_neg h60,if_neg (by omega)]; exact ⟨ls,hls,e.symm⟩)⟩
      . rw [decide_eq_false h6,Bool.false_and]
        simp [qAk,qAn,qAl,qAh,qAg,qAe,qAb,qAd,qAa,qAi,qAf,qAc,qAs,qAu,resV,retV,qAm,qAj,qAr,qAq,qAp,qAo,callK_def,wk];exact .go k1 (by omega) (by simp) rfl ⟨by omega,fun h=>absurd h h6⟩
    . obtain rfl:k=(qCc B).length:=by omega
      have hkI:¬ ((qCc B).length:Int) < (qCc B).length:=by omega
      simp [qAk,qAn,qAl,qAh,qAg,qAe,qAb,qAd,qAa,qAi,qAf,qAc,qAs,qAu,resV,retV,qAm,qAj,qAr,qAq,qAp,qAo,hnI,hp,evp,hkI,wn];refine .go n1 (by omega) (by simp) rfl ⟨by omega,fun h6 j q hj hjq=>?_⟩
      by_cases e:j=n
      . subst e; rw [hp] at hjq; cases hjq
        intro t ht;obtain ⟨k,hk⟩:=List.mem_iff_getElem?.1 ht;exact hnk h6 k t (List.getElem?_eq_some_iff.1 hk).1 hk
      . exact hno h6 j q (by omega) hjq
  . obtain rfl:n=ls.length:=by omega
    have hnI:¬ (ls.length:Int) < ls.length:=by omega
    have hfin:qDk code code (ownL code.length):=own fun h6=>liftTo_none fun p hp=>by
      obtain ⟨j,hj⟩:=List.mem_iff_getElem?.1 hp;exact hno h6 j p (List.getElem?_eq_some_iff.1 hj).1 hj
    rw [qAt];simp [-qAt,qAk,qAn,qAl,qAh,qAg,qAe,qAb,qAd,qAa,qAi,qAf,qAc,qAs,qAu,resV,retV,qAm,qAj,qAr,qAq,qAp,qAo,hnI];refine AccM.apps (F:=vIns) (b:=h.length+1) (l:=[]) AccM.nil (by simp) (m:=code) (by simp [qCv,vM]) (by simp; omega) fun v1 H1 a1 a2 a3 a4=>?_
    simp [-qAt,qAk,qAn,qAl,qAh,qAg,qAe,qAb,qAd,qAa,qAi,qAf,qAc,qAs,qAu,resV,retV,qAm,qAj,qAr,qAq,qAp,qAo];refine r16Own_call (by omega) ?_
    have hr1:RowV H1 h.length 0 2 [nilS,nilS]:=by
      show H1[h.length]?=_;rw [a2.2 _ (by omega)]; simp [bx]
    obtain ⟨H2,s1,s2,s3⟩:=hr1.store (n:=2) (cs:=[v1,vL vI (ownL code.length)]) rfl rfl (by
      rcases a1 with ⟨e,_⟩ | ⟨id,ver,e,_⟩<;>rw [e]<;>rfl)
    have s1':qBu H1 2 (ptr h.length) (.agg #[v1,vL vI (ownL code.length)])=some H2:=s1;have ce2:H2.cells? h.length 0 0 2=some [v1,vL vI (ownL code.length)]:=s2.cells rfl;have a1:AccM 4 vIns (h.length+1) H1 v1 code:=by simpa using a1
    have hcv:=a1.cell;simp [qAk,qAn,qAl,qAh,qAg,qAe,qAb,qAd,qAa,qAi,qAf,qAc,qAs,qAu,resV,retV,qAm,qAj,qAr,qAq,qAp,qAo,callK_def,hcv,s1',ce2];have a5:AccM 4 vIns h.length H2 v1 code:=Acc.less (Acc.keep a1 fun j hj=>s3.1 j (fun e=>by have:=a1.low j hj; omega)) (Nat.le_succ _)
    have kp2:qBs h.length h H2:=(qBs.app (g:=[bx [nilS,nilS] 2])).trans ⟨by have:=a2.1; simp at this ⊢; rw [s3.2]; omega,fun i hi=>by rw [s3.1 i (by omega),a2.2 i (by omega)]⟩
    exact ⟨kp2.ext,_,Inls.agg (xs:=[_,_]) (ys:=[vM 4 vIns code,vL vI (ownL code.length)]) ⟨AccM.inl a5 fun _=>rfl,.cell rfl,trivial⟩,hk code (ownL code.length) hfin⟩
theorem qHx {code:List Ins} (ho:∀ i∈code,i.op≤255) (hl:code.length≤lim) (hk:K (vB true) h):qBl prog 7 [vM 4 vIns code] h K:=by
  refine Pure.go (Pure.one (p:=vB true) rfl fun h=>?_) hk
  have hlim:lim=1048576:=rfl;refine call_tells20 (by simp) ?_
  simp [-qAt,qAk,qAn,qAl,qAh,qAg,qAe,qAb,qAd,qAa,qAi,qAf,qAc,qAs,qAu,resV,retV,qAm,qAj,qAr,qAq,qAp,qAo,qNj];refine lfCode_call ho hl fun o1 f1 h1=>?_
  simp [-qAt,qAk,qAn,qAl,qAh,qAg,qAe,qAb,qAd,qAa,qAi,qAf,qAc,qAs,qAu,resV,retV,qAm,qAj,qAr,qAq,qAp,qAo,callK_def,qMg];refine r20Code_call ho hl fun o2 f2 h2=>?_
  obtain ⟨rfl,rfl⟩:=h1.unique h2;have hs:=h1.short;simp [-qAt,qAk,qAn,qAl,qAh,qAg,qAe,qAb,qAd,qAa,qAi,qAf,qAc,qAs,qAu,resV,retV,qAm,qAj,qAr,qAq,qAp,qAo,callK_def,qMg];refine R2SameCode_call (by omega) ?_
  simp [-qAt,qAk,qAn,qAl,qAh,qAg,qAe,qAb,qAd,qAa,qAi,qAf,qAc,qAs,qAu,resV,retV,qAm,qAj,qAr,qAq,qAp,qAo,callK_def];refine RSame01_call (by omega) ?_
  simp [qAk,qAn,qAl,qAh,qAg,qAe,qAb,qAd,qAa,qAi,qAf,qAc,qAs,qAu,resV,retV,qAm,qAj,qAr,qAq,qAp,qAo,callK_def]
end
end Pm

/- Loads qGm of loops: LiftCode, walked.
   No condition: plain lemmas. -/

namespace Pm
set_option linter.unusedSimpArgs false
set_option linter.unusedVariables false
open Go Am
open Go.Proofs.Tryz (prog)

theorem mkIns_op20 (a b:Nat) (at_ n:Int):(qMv a b at_ n).op=opsL[a % 36]?.getD 0:=by
  unfold qMv;simp only [apply_ite Ins.op,ite_self]
theorem opsL_le20 (k:Nat):opsL[k]?.getD 0≤27:=by
  have h:∀ x∈opsL,x≤27:=by decide
  cases e:opsL[k]? with
  | none=>simp
  | some x=>simpa using h x (List.mem_of_getElem? e)
theorem codeOf_op20 {l:List (List Nat)} {i:Nat} {c:Ins} (h:c∈qNh l i):c.op≤27:=by
  unfold qNh at h;rcases List.mem_append.1 h with h | h
  . unfold qNb at h
    split at h
    . obtain ⟨k,_,rfl⟩:=List.mem_map.1 h
      simp
    . simp at h
  . unfold qHb at h
    obtain ⟨k,_,rfl⟩:=List.mem_map.1 h;rw [mkIns_op20];exact opsL_le20 _
section
variable {h : Heap} {K : Value → Heap → Prop}
theorem L20_val {c:List Nat} {back:Nat} (hc:qQr c) (hb:back≤255) (hk:∀ L,qSy c back L→K (vM 4 vIns L) h):qBl prog 8 [vL v8 c,v8 back] h K:=by
  refine qBl.forget ?_;exact L20_call hc hb fun v H L hL acc kp=>⟨kp.ext,_,AccM.inl acc fun _=>rfl,hk L hL⟩
end
theorem loop20_ok {c:List Nat} {back:Nat} {L:List Ins} (h:qSy c back L):L.length≤10∧∀ y∈L,y.op≤255:=by
  obtain ⟨k,hk,hL⟩:=h;refine ⟨by rcases hL with ⟨_,rfl⟩ | ⟨_,rfl⟩<;>simp [qDg]; omega,fun y hy=>?_⟩
  rcases hL with ⟨_,rfl⟩ | ⟨_,rfl⟩
  . simp at hy
  . rcases List.mem_append.1 hy with h1 | h1
    . obtain ⟨j,hj⟩:=List.mem_iff_getElem?.1 h1
      have:=(body20_op hj).2.2; omega
    . simp at h1; rcases h1 with rfl | rfl
      . show (1:Nat)≤255; omega
      . show (11:Nat)≤255; omega
set_option maxHeartbeats 4000000 in
theorem LiftCode_spec' (h:Heap) (code:List Ins) (l:List (List Nat)) (k:Nat) (c:List Nat) (back:Nat) (hcode:qOc code∧∀ i∈code,i.In) (hl:qOc l∧∀ c∈l,qQr c) (hk:k≤255) (hc:qQr c) (hb:back≤255):qBl prog 3 [vM 4 vIns code,vL (vL v8) l,v8 k,vL v8 c,v8 back] h fun r _=>r=.bool true:=by
  refine call_LiftCode (by simp) ?_
  have hlim:lim=1048576:=rfl;have hsh:code.length < 9223372036854775808:=hcode.1
  by_cases h65:61 < code.length
  . have h65':(61:Int) < code.length:=by omega
    simp [qAk,qAn,qAl,qAh,qAg,qAe,qAb,qAd,qAa,qAi,qAf,qAc,qAs,qAu,resV,retV,qAm,qAj,qAr,qAq,qAp,qAo,qJb,h65'];refine known20_call ?_;simp [qAk,qAn,qAl,qAh,qAg,qAe,qAb,qAd,qAa,qAi,qAf,qAc,qAs,qAu,resV,retV,qAm,qAj,qAr,qAq,qAp,qAo,callK_def]
  . have h65':¬ (61:Int) < code.length:=by omega
    have hco:∀ i∈code,i.op≤255:=fun i hi=>(hcode.2 i hi).op
    simp [-qAt,qAk,qAn,qAl,qAh,qAg,qAe,qAb,qAd,qAa,qAi,qAf,qAc,qAs,qAu,resV,retV,qAm,qAj,qAr,qAq,qAp,qAo,qJb];rw [qAt];simp [-qAt,qAk,qAn,qAl,qAh,qAg,qAe,qAb,qAd,qAa,qAi,qAf,qAc,qAs,qAu,resV,retV,qAm,qAj,qAr,qAq,qAp,qAo,h65'];refine known20_call ?_;simp [-qAt,qAk,qAn,qAl,qAh,qAg,qAe,qAb,qAd,qAa,qAi,qAf,qAc,qAs,qAu,resV,retV,qAm,qAj,qAr,qAq,qAp,qAo,callK_def];refine Make_ok hl ?_;obtain ⟨n,hn⟩:∃ n,n=nThr l:=⟨_,rfl⟩
    have hn1:=qRi l;have htl:(qGv l).threads.length=n:=by rw [threads_len,hn]
    obtain ⟨km,hkm⟩:∃ km,km=k % n:=⟨_,rfl⟩;have hkn:km < n:=by rw [hkm]; exact Nat.mod_lt _ (by omega)
    obtain ⟨x,hx⟩:∃ x,(qGv l).threads[km]?=some x:=⟨_,List.getElem?_eq_getElem (by omega)⟩
    have hxl:=threads_at hx;have hxo:∀ c∈x,c.op≤255:=fun c hc=>by
      rw [hxl.1] at hc;have:=codeOf_op20 hc;omega
    have e1:(k:Int).tmod (n:Int)=(km:Int):=by rw [Int.tmod_eq_emod_of_nonneg (by omega),hkm]; rfl
    have hn0:¬ n=0:=by omega
    have wd:IntKind.i64.wrap (km:Int)=km:=wrap_i64 (by omega) (by omega)
    have wk:IntKind.i64.wrap (k:Int)=k:=wrap_i64 (by omega) (by omega)
    simp [-qAt,qAk,qAn,qAl,qAh,qAg,qAe,qAb,qAd,qAa,qAi,qAf,qAc,qAs,qAu,resV,retV,qAm,qAj,qAr,qAq,qAp,qAo,callK_def,qTu];refine qHx hco (by omega) ?_
    simp [-qAt,qAk,qAn,qAl,qAh,qAg,qAe,qAb,qAd,qAa,qAi,qAf,qAc,qAs,qAu,resV,retV,qAm,qAj,qAr,qAq,qAp,qAo,callK_def,qTu,htl,e1,hn0,wd,hx,wk];refine qHx hxo (by omega) ?_
    simp [-qAt,qAk,qAn,qAl,qAh,qAg,qAe,qAb,qAd,qAa,qAi,qAf,qAc,qAs,qAu,resV,retV,qAm,qAj,qAr,qAq,qAp,qAo,callK_def];refine L20_val hc hb fun L hL=>?_
    have hLo:=loop20_ok hL;simp [-qAt,qAk,qAn,qAl,qAh,qAg,qAe,qAb,qAd,qAa,qAi,qAf,qAc,qAs,qAu,resV,retV,qAm,qAj,qAr,qAq,qAp,qAo,callK_def];refine qHx hLo.2 (by omega) ?_
    simp [qAk,qAn,qAl,qAh,qAg,qAe,qAb,qAd,qAa,qAi,qAf,qAc,qAs,qAu,resV,retV,qAm,qAj,qAr,qAq,qAp,qAo,callK_def]
theorem LiftCode_spec (code:List Ins) (l:List (List Nat)) (k:Nat) (c:List Nat) (back:Nat) (hcode:qOc code∧∀ i∈code,i.In) (hl:qOc l∧∀ c∈l,qQr c) (hk:k≤255) (hc:qQr c) (hb:back≤255):qBl prog 3 [vM 4 vIns code,vL (vL v8) l,v8 k,vL v8 c,v8 back] [] fun r _=>r=.bool true:=LiftCode_spec' [] code l k c back hcode hl hk hc hb
end Pm
