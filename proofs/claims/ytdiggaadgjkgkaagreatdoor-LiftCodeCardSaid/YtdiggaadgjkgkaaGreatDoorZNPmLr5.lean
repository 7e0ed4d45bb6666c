/- Loads qGm of loops, the document's answer: whether one may, walked.
   No condition: plain lemmas. -/

import Derived.Test.YtdiggaadgjkgkaaGreatDoorZNPmLr3
namespace Pm
set_option linter.unusedSimpArgs false
set_option linter.unusedVariables false
open Go Am
open Go.Proofs.Tryz (prog)

theorem qOx {B:Nat} {x:Int}:decide (x∈qCc B)=hasB B x:=by
  rw [Bool.eq_iff_iff,decide_eq_true_eq,qEq];unfold hasB;simp only [Bool.and_eq_true,decide_eq_true_eq];constructor
  . rintro ⟨t,rfl,h1,h2⟩; exact ⟨⟨by omega,by omega⟩,h2⟩
  . rintro ⟨⟨h1,h2⟩,h3⟩; exact ⟨x.toNat,by omega,by omega,h3⟩
theorem may_odd {code:List Ins} {hd B i:Nat} {x:Ins} {t:Int} (ht:t∈qCc B) (h:qJp code x i t=true):mayB code hd B i x=false:=by
  have:(qCc B).any (qJp code x i)=true:=List.any_eq_true.2 ⟨t,ht,h⟩;simp [mayB,this]
theorem may_use {code:List Ins} {hd B i j:Nat} {x c:Ins} (h1:hd≤j) (h2:j < i) (hc:code[j]?=some c) (h:hasB (qEj c) x.a=true):mayB code hd B i x=false:=by
  have:((code.drop hd).take (i - hd)).any (fun y=>hasB (qEj y) x.a)=true:=List.any_eq_true.2 ⟨c,List.mem_iff_getElem?.2 ⟨j - hd,by
    rw [List.getElem?_take_of_lt (by omega),List.getElem?_drop,show hd+(j - hd)=j by omega]; exact hc⟩,h⟩
  unfold mayB;rw [this]; simp
theorem may_yes {code:List Ins} {hd B i:Nat} {x:Ins} (h7:x.op=7) (hi:hd≤i) (hr:qJj (qCr code code.length) i=hd) (hc:qFj code hd B=false) (ho:∀ t∈qCc B,qJp code x i t=false)
    (hu:∀ j c,hd≤j→j < i→code[j]?=some c→hasB (qEj c) x.a=false):mayB code hd B i x=true:=by
  have a1:(qCc B).any (qJp code x i)=false:=List.any_eq_false.2 fun t ht=>by simp [ho t ht]
  have a2:((code.drop hd).take (i - hd)).any (fun y=>hasB (qEj y) x.a)=false:=List.any_eq_false.2 fun c hc=>by
    obtain ⟨k,hk⟩:=List.mem_iff_getElem?.1 hc;have hkl:k < i - hd:=by
      have:=(List.getElem?_eq_some_iff.1 hk).1;rw [List.length_take] at this; omega
    rw [List.getElem?_take_of_lt hkl,List.getElem?_drop] at hk;simp [hu (hd+k) c (by omega) (by omega) hk]
  unfold mayB;rw [a1,a2];simp [h7,hi,hr,hc]
def MayOk (code:List Ins) (hd B i:Nat) (x:Ins):Prop:=x.op=7∧hd≤i∧qJj (qCr code code.length) i=hd∧code.length < 60∧qFj code hd B=false
section
variable {h : Heap} {K : Value → Heap → Prop}
theorem qJn {l:List Int} {x:Int} (hl:l.length < lim) (hk:K (vB (decide (x∈l))) h):qBl prog 72 [vL vI l,vI x] h K:=by
  refine call_r20has (by simp) ?_
  have hlim:lim=1048576:=rfl;simp [-qAt,qAk,qAn,qAl,qAh,qAg,qAe,qAb,qAd,qAa,qAi,qAf,qAc,qAs,qAu,resV,retV,qAm,qAj,qAr,qAq,qAp,qAo,qPp];rw [qAt];simp [-qAt,qAk,qAn,qAl,qAh,qAg,qAe,qAb,qAd,qAa,qAi,qAf,qAc,qAs,qAu,resV,retV,qAm,qAj,qAr,qAq,qAp,qAo];refine qDh (σ:=Nat) (fun j=>[(0,vL vI l),(1,vI x),(5,vI j)]) (fun _=>h) (fun j=>j≤l.length∧∀ k,k < j→l[k]?≠some x) (fun j=>l.length - j) 0 (by simp) rfl ⟨by simp,fun k hk=>by omega⟩ ?_
  rintro j fr ⟨hj,hno⟩
  by_cases hlt:j < l.length
  . obtain ⟨j1,hj1,wj⟩:=qBr (show j < lim by omega)
    have hjI:(j:Int) < l.length:=by omega
    obtain ⟨y,hy⟩:∃ y,l[j]?=some y:=⟨_,List.getElem?_eq_getElem hlt⟩
    by_cases e:y=x
    . subst e
      rw [decide_eq_true (List.mem_of_getElem? hy)] at hk;simp [qAk,qAn,qAl,qAh,qAg,qAe,qAb,qAd,qAa,qAi,qAf,qAc,qAs,qAu,resV,retV,qAm,qAj,qAr,qAq,qAp,qAo,hjI,hy];exact hk
    . simp [qAk,qAn,qAl,qAh,qAg,qAe,qAb,qAd,qAa,qAi,qAf,qAc,qAs,qAu,resV,retV,qAm,qAj,qAr,qAq,qAp,qAo,hjI,hy,e,wj]
      refine .go j1 (by omega) (by simp) rfl ⟨by omega,fun k hk=>?_⟩
      by_cases ek:k=j
      . rw [ek,hy]; intro h; cases h; exact e rfl
      . exact hno k (by omega)
  . have hjI:¬ (j:Int) < l.length:=by omega
    have:¬ x∈l:=fun hm=>by
      obtain ⟨k,hk⟩:=List.mem_iff_getElem?.1 hm;exact hno k (by have:=(List.getElem?_eq_some_iff.1 hk).1; omega) hk
    rw [decide_eq_false this] at hk;simp [qAk,qAn,qAl,qAh,qAg,qAe,qAb,qAd,qAa,qAi,qAf,qAc,qAs,qAu,resV,retV,qAm,qAj,qAr,qAq,qAp,qAo,hjI];exact hk
theorem r20place_call {hd B:Nat} {i t:Int} (hk:K (vI (toI hd B i t)) h):qBl prog 77 [vI t,vI hd,vB (hasB B i)] h K:=by
  refine call_r20place (by simp) ?_
  unfold toI at hk
  by_cases h1:(hd:Int) < t
  . rw [if_pos (.inl h1)] at hk
    simp [qAk,qAn,qAl,qAh,qAg,qAe,qAb,qAd,qAa,qAi,qAf,qAc,qAs,qAu,resV,retV,qAm,qAj,qAr,qAq,qAp,qAo,qFu,h1];exact hk
  . by_cases h2:t=hd
    . cases hb:hasB B i with
      | true =>
        rw [if_pos (.inr ⟨h2,hb⟩)] at hk;simp [qAk,qAn,qAl,qAh,qAg,qAe,qAb,qAd,qAa,qAi,qAf,qAc,qAs,qAu,resV,retV,qAm,qAj,qAr,qAq,qAp,qAo,qFu,h1,h2];rw [h2] at hk;exact hk
      | false =>
        rw [if_neg (by simp [h1,hb])] at hk
        simp [qAk,qAn,qAl,qAh,qAg,qAe,qAb,qAd,qAa,qAi,qAf,qAc,qAs,qAu,resV,retV,qAm,qAj,qAr,qAq,qAp,qAo,qFu,h1,h2];rw [h2] at hk;exact hk
    . rw [if_neg (by simp [h1,h2])] at hk
      simp [qAk,qAn,qAl,qAh,qAg,qAe,qAb,qAd,qAa,qAi,qAf,qAc,qAs,qAu,resV,retV,qAm,qAj,qAr,qAq,qAp,qAo,qFu,h1,h2];exact hk
set_option maxHeartbeats 8000000 in
theorem r20may_call {code:List Ins} {hd B i:Nat} {x:Ins} (hB:B < big) (hbl:∀ t,B.testBit t=true→t < code.length) (hh:hd < code.length) (hl:code.length < lim) (ho:∀ c∈code,c.op≤255)
    (hx:code[i]?=some x) (hk:K (vB (decide (code.length < 60) && mayB code hd B i x)) h) :
    qBl prog 33 [vM 4 vIns code,.agg (vLp (hd,B)).toArray,vI i] h K:=by
  refine qBl.dropB (fun K' hk'=>?_) hk
  clear hk;refine call_r20may (by simp) ?_
  have hlim:lim=1048576:=rfl;have hil:i < code.length:=(List.getElem?_eq_some_iff.1 hx).1;have hiI:(i:Int) < code.length:=by omega
  have evp:vLp (hd,B)=[vI hd,vL vI (qCc B)]:=rfl;have hb64:=bitsI_len B;have clp:cellsOf (.agg #[vI (hd:Int),vL vI (qCc B)])=some [vI hd,vL vI (qCc B)]:=rfl;have clx:∀ y:Ins,cellsOf (.agg (vIns y).toArray)=some (vIns y):=fun y=>qAx
  have hxo:=ho x (List.mem_of_getElem? hx);have done:∀ {b:Bool},b=(decide (code.length < 60) && mayB code hd B i x)→∀ rs,K' (vB b) (h++rs):=fun e rs=>by rw [e]; exact hk' rs
  have no:mayB code hd B i x=false→∀ rs,K' (vB false) (h++rs):=fun e=>done (by rw [e]; simp)
  simp [-qAt,qAk,qAn,qAl,qAh,qAg,qAe,qAb,qAd,qAa,qAi,qAf,qAc,qAs,qAu,resV,retV,qAm,qAj,qAr,qAq,qAp,qAo,qPo,evp,clp,hiI,hx,-qAy,qAw,qAv,qAx,qBa,wN_0,wN_1,wN_2,wN_3,wG_0,wG_1,wG_2,wG_3];refine qUa (σ:=Unit) (fun _=>[(0,vM 4 vIns code),(2,vI i),(4,ptr h.length),(7,ptr (h.length+1)),(8,vI hd)]) (fun _=>h++[bx [vI hd,vL vI (qCc B)] 2,bx (vIns x) 4])
    (fun _=>MayOk code hd B i x) ?_ ?_
  . by_cases h7:x.op=7
    case neg =>
      have h7I:¬ (x.op:Int)=7:=by omega
      simp [qAk,qAn,qAl,qAh,qAg,qAe,qAb,qAd,qAa,qAi,qAf,qAc,qAs,qAu,resV,retV,qAm,qAj,qAr,qAq,qAp,qAo,h7,h7I,-qAy,qAw,qAv,qAx,qBa,wN_0,wN_1,wN_2,wN_3,wG_0,wG_1,wG_2,wG_3];exact no (by simp [mayB,h7]) _
    by_cases hdi:hd≤i
    case neg =>
      have hdI:(i:Int) < hd:=by omega
      have hdn:i < hd:=by omega
      simp [qAk,qAn,qAl,qAh,qAg,qAe,qAb,qAd,qAa,qAi,qAf,qAc,qAs,qAu,resV,retV,qAm,qAj,qAr,qAq,qAp,qAo,h7,hdI,hdn,-qAy,qAw,qAv,qAx,qBa,wN_0,wN_1,wN_2,wN_3,wG_0,wG_1,wG_2,wG_3];exact no (by simp [mayB,hdi]) _
    have hdI:¬ (i:Int) < hd:=by omega
    have hdn:¬ i < hd:=by omega
    simp [-qAt,qAk,qAn,qAl,qAh,qAg,qAe,qAb,qAd,qAa,qAi,qAf,qAc,qAs,qAu,resV,retV,qAm,qAj,qAr,qAq,qAp,qAo,h7,hdI,hdn,-qAy,qAw,qAv,qAx,qBa,wN_0,wN_1,wN_2,wN_3,wG_0,wG_1,wG_2,wG_3];refine r11Head_call hl hil ?_;obtain ⟨q,hrw⟩:∃ q,q=qJj (qCr code code.length) i:=⟨_,rfl⟩;rw [← hrw]
    by_cases hro:q=hd
    case neg =>
      have hroI:¬ (q:Int)=hd:=by omega
      simp [qAk,qAn,qAl,qAh,qAg,qAe,qAb,qAd,qAa,qAi,qAf,qAc,qAs,qAu,resV,retV,qAm,qAj,qAr,qAq,qAp,qAo,callK_def,hro,hroI];exact no (by rw [hrw] at hro; simp [mayB,hro]) _
    have hrow:qJj (qCr code code.length) i=hd:=by rw [← hrw,hro]
    rw [hro]
    by_cases h6:code.length < 60
    case neg =>
      have h6I:(60:Int)≤code.length:=by omega
      have h6n:60≤code.length:=by omega
      simp [qAk,qAn,qAl,qAh,qAg,qAe,qAb,qAd,qAa,qAi,qAf,qAc,qAs,qAu,resV,retV,qAm,qAj,qAr,qAq,qAp,qAo,callK_def,h6I,h6n];exact done (by rw [decide_eq_false h6]; simp) _
    have h6I:¬ (60:Int)≤code.length:=by omega
    have h6n:¬ 60≤code.length:=by omega
    have wd:IntKind.i64.wrap ((hd:Int) - 1)=(hd:Int) - 1:=wrap_i64 (by omega) (by omega)
    simp [-qAt,qAk,qAn,qAl,qAh,qAg,qAe,qAb,qAd,qAa,qAi,qAf,qAc,qAs,qAu,resV,retV,qAm,qAj,qAr,qAq,qAp,qAo,callK_def,h6I,h6n,wd];refine qJn (by omega) ?_
    rw [qOx];cases hb:hasB B ((hd:Int) - 1) with
    | false =>
      simp [qAk,qAn,qAl,qAh,qAg,qAe,qAb,qAd,qAa,qAi,qAf,qAc,qAs,qAu,resV,retV,qAm,qAj,qAr,qAq,qAp,qAo,callK_def];exact .go () (by simp) rfl ⟨h7,hdi,hrow,h6,by simp [qFj,hb]⟩
    | true =>
      have h0:0 < hd:=by
        unfold hasB at hb;simp only [Bool.and_eq_true,decide_eq_true_eq] at hb;omega
      obtain ⟨e,he⟩:∃ e,hd=e+1:=⟨hd - 1,by omega⟩
      have heI:(hd:Int) - 1=(e:Int):=by omega
      obtain ⟨c,hc⟩:∃ c,code[e]?=some c:=⟨_,List.getElem?_eq_getElem (by omega)⟩
      have hc':code[hd - 1]?=some c:=by rw [show hd - 1=e by omega]; exact hc
      have hel:(e:Int) < code.length:=by omega
      have we:IntKind.i64.wrap (e:Int)=e:=wrap_i64 (by omega) (by omega)
      by_cases h10:c.op=10
      . have h10I:(c.op:Int)=10:=by omega
        simp [qAk,qAn,qAl,qAh,qAg,qAe,qAb,qAd,qAa,qAi,qAf,qAc,qAs,qAu,resV,retV,qAm,qAj,qAr,qAq,qAp,qAo,callK_def,wd,heI,we,hc,hel,h10,h10I,-qAy,qAw,qAv,qAx,qBa,wN_0,wN_1,wN_2,wN_3,wG_0,wG_1,wG_2,wG_3];exact .go () (by simp) rfl ⟨h7,hdi,hrow,h6,by simp [qFj,hb,hc',h10]⟩
      . have h10I:¬ (c.op:Int)=10:=by omega
        simp [qAk,qAn,qAl,qAh,qAg,qAe,qAb,qAd,qAa,qAi,qAf,qAc,qAs,qAu,resV,retV,qAm,qAj,qAr,qAq,qAp,qAo,callK_def,wd,heI,we,hc,hel,h10,h10I,-qAy,qAw,qAv,qAx,qBa,wN_0,wN_1,wN_2,wN_3,wG_0,wG_1,wG_2,wG_3];have hcl:qFj code hd B=true:=by simp [qFj,hb,hc',h10]
        exact no (by simp [mayB,hcl]) _
  rintro ⟨⟩ fr ⟨h7,hdi,hrow,h6,hcl⟩;have yes:mayB code hd B i x=true→∀ rs,K' (vB true) (h++rs):=fun e=>done (by rw [e,decide_eq_true h6]; rfl)
  rw [qAt];simp [-qAt,qAk,qAn,qAl,qAh,qAg,qAe,qAb,qAd,qAa,qAi,qAf,qAc,qAs,qAu,resV,retV,qAm,qAj,qAr,qAq,qAp,qAo];refine qDh (σ:=Nat×Heap) (fun y=>[(0,vM 4 vIns code),(2,vI i),(4,ptr h.length),(7,ptr (h.length+1)),(8,vI hd),(9,vI y.1)]) (fun y=>h++(bx [vI hd,vL vI (qCc B)] 2 :: bx (vIns x) 4 :: y.2))
    (fun y=>y.1≤(qCc B).length∧∀ (j:Nat) (t:Int),j < y.1→(qCc B)[j]?=some t→qJp code x i t=false) (fun y=>(qCc B).length - y.1) (0,[]) (by simp) rfl ⟨by simp,fun j t hj=>by simp at hj⟩ ?_
  rintro ⟨k,g⟩ fr ⟨hk',hod⟩;simp only at hk' hod ⊢;have cl:∀ l':Heap,(h++(bx [vI hd,vL vI (qCc B)] 2 :: bx (vIns x) 4 :: l')).length=h.length+(l'.length+2):=fun l'=>by simp
  by_cases hkl:k < (qCc B).length
  . obtain ⟨k1,hk1,wk⟩:=qBr (show k < lim by omega)
    have hkI:(k:Int) < (qCc B).length:=by omega
    obtain ⟨v,hv⟩:∃ v,(qCc B)[k]?=some v:=⟨_,List.getElem?_eq_getElem hkl⟩;have hvm:=List.mem_of_getElem? hv;obtain ⟨t,rfl,_,ht⟩:=qEq.1 hvm;have htl:=hbl t ht;have htI:(t:Int) < code.length:=by omega
    obtain ⟨y,hy⟩:∃ y,code[t]?=some y:=⟨_,List.getElem?_eq_getElem htl⟩;have hoa:qJp code x i (t:Int)=oddB x i t y:=by simp [qJp,hy]
    have nxt:oddB x i t y=false→∀ (j:Nat) (t':Int),j < k1→(qCc B)[j]?=some t'→qJp code x i t'=false:=fun e j t' hj hjt=>by
      by_cases ej:j=k
      . subst ej; rw [hv] at hjt; cases hjt; rw [hoa,e]
      . exact hod j t' (by omega) hjt
    have bad:oddB x i t y=true→∀ rs,K' (vB false) (h++rs):=fun e=>no (may_odd hvm (by rw [hoa,e]))
    rw [qAt];simp [-qAt,qAk,qAn,qAl,qAh,qAg,qAe,qAb,qAd,qAa,qAi,qAf,qAc,qAs,qAu,resV,retV,qAm,qAj,qAr,qAq,qAp,qAo,hkI];rw [qAt];simp [-qAt,qAk,qAn,qAl,qAh,qAg,qAe,qAb,qAd,qAa,qAi,qAf,qAc,qAs,qAu,resV,retV,qAm,qAj,qAr,qAq,qAp,qAo,hkI,hv,htI,hy,clx,-qAy,qAw,qAv,qAx,qBa,wN_0,wN_1,wN_2,wN_3,wG_0,wG_1,wG_2,wG_3];refine qIl ?_;cases hq:qFz y.op with
    | false =>
      have hob:oddB x i t y=true:=by simp [oddB,hq]
      simp only [qFz,Bool.or_eq_false_iff,decide_eq_false_iff_not] at hq;obtain ⟨⟨⟨q1,q2⟩,q3⟩,q4⟩:=hq;have i2:¬ (y.op:Int)=10:=by omega
      have i3:¬ (y.op:Int)=11:=by omega
      have i4:¬ (y.op:Int)=9:=by omega
      rw [q1];simp [qAk,qAn,qAl,qAh,qAg,qAe,qAb,qAd,qAa,qAi,qAf,qAc,qAs,qAu,resV,retV,qAm,qAj,qAr,qAq,qAp,qAo,callK_def,q2,q3,q4,i2,i3,i4,cl,-qAy,qAw,qAv,qAx,qBa,wN_0,wN_1,wN_2,wN_3,wG_0,wG_1,wG_2,wG_3];exact bad hob _
    | true =>
      have hq4:(qDa y.op=true∧¬ y.op=10∧¬ y.op=11∧¬ y.op=9)∨(qDa y.op=false∧y.op=10∧¬ y.op=11∧¬ y.op=9)∨(qDa y.op=false∧¬ y.op=10∧y.op=11∧¬ y.op=9)∨(qDa y.op=false∧¬ y.op=10∧¬ y.op=11∧y.op=9):=by
        have hp:qDa y.op=decide (y.op≤8):=rfl;simp only [qFz,hp,Bool.or_eq_true,decide_eq_true_eq] at hq;simp only [hp,decide_eq_true_eq,decide_eq_false_iff_not];omega
      have i2:((y.op:Int)=10)=(y.op=10):=propext ⟨fun h=>by omega,fun h=>by omega⟩
      have i3:((y.op:Int)=11)=(y.op=11):=propext ⟨fun h=>by omega,fun h=>by omega⟩
      have i4:((y.op:Int)=9)=(y.op=9):=propext ⟨fun h=>by omega,fun h=>by omega⟩
      have i8:((y.op:Int)=8)=(y.op=8):=propext ⟨fun h=>by omega,fun h=>by omega⟩
      have hsl:=qMj y;rcases hq4 with ⟨q1,q2,q3,q4⟩ | ⟨q1,q2,q3,q4⟩ | ⟨q1,q2,q3,q4⟩ | ⟨q1,q2,q3,q4⟩
      all_goals
        rw [q1]
        by_cases e8:y.op=8
        . by_cases hab:y.a=x.b
          . first
            | (exfalso; omega)
            | (simp [qAk,qAn,qAl,qAh,qAg,qAe,qAb,qAd,qAa,qAi,qAf,qAc,qAs,qAu,resV,retV,qAm,qAj,qAr,qAq,qAp,qAo,callK_def,i2,i3,i4,i8,q2,q3,q4,e8,hab,cl,-qAy,qAw,qAv,qAx,qBa,wN_0,wN_1,wN_2,wN_3,wG_0,wG_1,wG_2,wG_3]
               exact bad (by simp [oddB,e8,hab]) _)
          . first
            | (exfalso; omega)
            | (by_cases hti:(t:Int)=i
               . simp [qAk,qAn,qAl,qAh,qAg,qAe,qAb,qAd,qAa,qAi,qAf,qAc,qAs,qAu,resV,retV,qAm,qAj,qAr,qAq,qAp,qAo,callK_def,i2,i3,i4,i8,q2,q3,q4,e8,hab,hti,cl,wk,-qAy,qAw,qAv,qAx,qBa,wN_0,wN_1,wN_2,wN_3,wG_0,wG_1,wG_2,wG_3]
                 exact .go (k1,g++[bx (vIns y) 4]) (by simp only []; omega) (by simp) rfl ⟨by simp only []; omega,nxt (by simp [oddB,e8,hab,hti,show qFz 8=true from rfl])⟩
               . have hti':¬ t=i:=by omega
                 simp [qAk,qAn,qAl,qAh,qAg,qAe,qAb,qAd,qAa,qAi,qAf,qAc,qAs,qAu,resV,retV,qAm,qAj,qAr,qAq,qAp,qAo,callK_def,i2,i3,i4,i8,q2,q3,q4,e8,hab,hti,hti',cl,-qAy,qAw,qAv,qAx,qBa,wN_0,wN_1,wN_2,wN_3,wG_0,wG_1,wG_2,wG_3];refine R2Sets_call ?_;simp [qAk,qAn,qAl,qAh,qAg,qAe,qAb,qAd,qAa,qAi,qAf,qAc,qAs,qAu,resV,retV,qAm,qAj,qAr,qAq,qAp,qAo,callK_def,cl,-qAy,qAw,qAv,qAx,qBa,wN_0,wN_1,wN_2,wN_3,wG_0,wG_1,wG_2,wG_3]
                 refine qIk hsl ?_;cases hb:hasB (qGg y) x.a with
                 | false =>
                   simp [qAk,qAn,qAl,qAh,qAg,qAe,qAb,qAd,qAa,qAi,qAf,qAc,qAs,qAu,resV,retV,qAm,qAj,qAr,qAq,qAp,qAo,callK_def,wk];exact .go (k1,g++[bx (vIns y) 4]) (by simp only []; omega) (by simp) rfl ⟨by simp only []; omega,nxt (by simp [oddB,e8,hab,hti,hb,show qFz 8=true from rfl])⟩
                 | true =>
                   simp [qAk,qAn,qAl,qAh,qAg,qAe,qAb,qAd,qAa,qAi,qAf,qAc,qAs,qAu,resV,retV,qAm,qAj,qAr,qAq,qAp,qAo,callK_def];exact bad (by simp [oddB,hq,e8,hab,hti,hti',hb]) _)
        . by_cases hti:(t:Int)=i
          . simp [qAk,qAn,qAl,qAh,qAg,qAe,qAb,qAd,qAa,qAi,qAf,qAc,qAs,qAu,resV,retV,qAm,qAj,qAr,qAq,qAp,qAo,callK_def,i2,i3,i4,i8,q2,q3,q4,e8,hti,cl,wk,-qAy,qAw,qAv,qAx,qBa,wN_0,wN_1,wN_2,wN_3,wG_0,wG_1,wG_2,wG_3]
            exact .go (k1,g++[bx (vIns y) 4]) (by simp only []; omega) (by simp) rfl ⟨by simp only []; omega,nxt (by simp [oddB,hq,e8,hti])⟩
          . have hti':¬ t=i:=by omega
            simp [qAk,qAn,qAl,qAh,qAg,qAe,qAb,qAd,qAa,qAi,qAf,qAc,qAs,qAu,resV,retV,qAm,qAj,qAr,qAq,qAp,qAo,callK_def,i2,i3,i4,i8,q2,q3,q4,e8,hti,hti',cl,-qAy,qAw,qAv,qAx,qBa,wN_0,wN_1,wN_2,wN_3,wG_0,wG_1,wG_2,wG_3];refine R2Sets_call ?_;simp [qAk,qAn,qAl,qAh,qAg,qAe,qAb,qAd,qAa,qAi,qAf,qAc,qAs,qAu,resV,retV,qAm,qAj,qAr,qAq,qAp,qAo,callK_def,cl,-qAy,qAw,qAv,qAx,qBa,wN_0,wN_1,wN_2,wN_3,wG_0,wG_1,wG_2,wG_3]
            refine qIk hsl ?_;cases hb:hasB (qGg y) x.a with
            | false =>
              simp [qAk,qAn,qAl,qAh,qAg,qAe,qAb,qAd,qAa,qAi,qAf,qAc,qAs,qAu,resV,retV,qAm,qAj,qAr,qAq,qAp,qAo,callK_def,wk];exact .go (k1,g++[bx (vIns y) 4]) (by simp only []; omega) (by simp) rfl ⟨by simp only []; omega,nxt (by simp [oddB,hq,e8,hti,hb])⟩
            | true =>
              simp [qAk,qAn,qAl,qAh,qAg,qAe,qAb,qAd,qAa,qAi,qAf,qAc,qAs,qAu,resV,retV,qAm,qAj,qAr,qAq,qAp,qAo,callK_def];exact bad (by simp [oddB,hq,e8,hti,hti',hb]) _
  . obtain rfl:k=(qCc B).length:=by omega
    have hkI:¬ ((qCc B).length:Int) < (qCc B).length:=by omega
    have hodd:∀ t∈qCc B,qJp code x i t=false:=fun t ht=>by
      obtain ⟨j,hj⟩:=List.mem_iff_getElem?.1 ht;exact hod j t (List.getElem?_eq_some_iff.1 hj).1 hj
    rw [qAt];simp [-qAt,qAk,qAn,qAl,qAh,qAg,qAe,qAb,qAd,qAa,qAi,qAf,qAc,qAs,qAu,resV,retV,qAm,qAj,qAr,qAq,qAp,qAo,hkI];rw [qAt];simp [-qAt,qAk,qAn,qAl,qAh,qAg,qAe,qAb,qAd,qAa,qAi,qAf,qAc,qAs,qAu,resV,retV,qAm,qAj,qAr,qAq,qAp,qAo];refine qDh (σ:=Nat) (fun j=>[(0,vM 4 vIns code),(2,vI i),(7,ptr (h.length+1)),(13,vI j)]) (fun _=>h++(bx [vI hd,vL vI (qCc B)] 2 :: bx (vIns x) 4 :: g))
      (fun j=>hd≤j∧j≤i∧∀ j' c,hd≤j'→j' < j→code[j']?=some c→hasB (qEj c) x.a=false) (fun j=>i - j) hd (by simp) rfl ⟨Nat.le_refl _,hdi,fun j' c h1 h2=>by omega⟩ ?_
    rintro j fr ⟨hj1,hj2,hus⟩
    by_cases hlt:j < i
    . obtain ⟨j1,hj1e,wj⟩:=qBr (show j < lim by omega)
      have hjI:(j:Int) < i:=by omega
      have hjc:(j:Int) < code.length:=by omega
      obtain ⟨c,hc⟩:∃ c,code[j]?=some c:=⟨_,List.getElem?_eq_getElem (by omega)⟩
      have hul:=qMh c;simp [qAk,qAn,qAl,qAh,qAg,qAe,qAb,qAd,qAa,qAi,qAf,qAc,qAs,qAu,resV,retV,qAm,qAj,qAr,qAq,qAp,qAo,hjI,hjc,hc,cl,-qAy,qAw,qAv,qAx,qBa,wN_0,wN_1,wN_2,wN_3,wG_0,wG_1,wG_2,wG_3];refine R2Uses_call ?_;simp [qAk,qAn,qAl,qAh,qAg,qAe,qAb,qAd,qAa,qAi,qAf,qAc,qAs,qAu,resV,retV,qAm,qAj,qAr,qAq,qAp,qAo,callK_def,cl,-qAy,qAw,qAv,qAx,qBa,wN_0,wN_1,wN_2,wN_3,wG_0,wG_1,wG_2,wG_3];refine qIk hul ?_
      cases hb:hasB (qEj c) x.a with
      | false =>
        simp [qAk,qAn,qAl,qAh,qAg,qAe,qAb,qAd,qAa,qAi,qAf,qAc,qAs,qAu,resV,retV,qAm,qAj,qAr,qAq,qAp,qAo,callK_def,wj];refine .go j1 (by omega) (by simp) rfl ⟨by omega,by omega,fun j' c' h1 h2 h3=>?_⟩
        by_cases e:j'=j
        . subst e; rw [hc] at h3; cases h3; exact hb
        . exact hus j' c' h1 (by omega) h3
      | true =>
        simp [qAk,qAn,qAl,qAh,qAg,qAe,qAb,qAd,qAa,qAi,qAf,qAc,qAs,qAu,resV,retV,qAm,qAj,qAr,qAq,qAp,qAo,callK_def];exact no (may_use hj1 hlt hc hb) _
    . obtain rfl:j=i:=by omega
      have hjI:¬ (j:Int) < j:=by omega
      simp [qAk,qAn,qAl,qAh,qAg,qAe,qAb,qAd,qAa,qAi,qAf,qAc,qAs,qAu,resV,retV,qAm,qAj,qAr,qAq,qAp,qAo,hjI];exact yes (may_yes h7 hdi hrow hcl hodd fun j' c h1 h2 h3=>hus j' c h1 h2 h3) _
end
end Pm

/- Loads qGm of loops, the document's answer: the load goes qGm, walked.
   No condition: plain lemmas. -/

namespace Pm
set_option linter.unusedSimpArgs false
set_option linter.unusedVariables false
open Go Am
open Go.Proofs.Tryz (prog)

structure PairB (b:Nat) (H:Heap) (cs fs:Value) (C:List Ins) (F:List Int):Prop where
  row:RowV H b 0 2 [cs,fs]
  cod:AccM 4 vIns (b+1) H cs C
  frm:AccL vI (b+1) H fs F
  ap:qOd cs fs
theorem Acc.less {e b b' n:Nat} {h:Heap} {v:Value} {cs:List Value} (ha:Acc e b h v n cs) (hb:b'≤b):Acc e b' h v n cs:=by
  rcases ha with h1 | ⟨id,ver,h1,h2,h3⟩
  . exact Or.inl h1
  . exact Or.inr ⟨id,ver,h1,Nat.le_trans hb h2,h3⟩
theorem AccM.low {α:Type} {F:α→List Value} {e b:Nat} {H:Heap} {v:Value} {l:List α} (ha:AccM e F b H v l):∀ i,rid v=some i→b≤i:=by
  intro i hi;rcases ha with ⟨e,_⟩ | ⟨id,ver,e,h,_⟩
  . rw [e] at hi; simp [rid] at hi
  . rw [e] at hi; simp [rid] at hi; omega
section
variable {P : Program} {K : Fr → Heap → Prop} {is : List AIns} {d : Option Nat} {fr : Fr} {H0 H : Heap} {b : Nat} {cs fs lit : Value} {C : List Ins} {F : List Int} {rs : List Ob}
theorem PairB.pushC {x:Ins} (w:PairB b H cs fs C F) (hp:qCv (H++rs) 4 lit=some (1,vIns x)) (hl:C.length+1≤lim)
    (hk:∀ v1 H1 H2,qBu H1 1 (.pointer (some ⟨b,0,some 0⟩)) v1=some H2→PairB b H2 v1 fs (C++[x]) F→(∀ j o,rs[j]?=some o→H2[H.length+j]?=some o)→H.length+rs.length≤H2.length→qBs b H H2→pOps P K is (updO fr d v1) H1) :
    eK P K is d [] fr H0 (pApp (H++rs) 4 cs lit):=by
  have hb:=w.row.lt;refine AccM.apps (w.cod.ext qBs.app) (by simp; omega) (m:=[x]) (by simpa using hp) (by simpa using hl) fun v1 H1 a1 a2 a3 a4=>?_
  have hgl:∀ i,rid cs=some i→i < H.length:=fun i hi=>Acc.lt w.cod hi
  have hkl:∀ i,rid fs=some i→i < H.length:=fun i hi=>Acc.lt w.frm hi
  have hr1:RowV H1 b 0 2 [cs,fs]:=w.row.keep (by rw [a2.2 _ (by omega),List.getElem?_append_left hb])
  have hH1:H.length+rs.length≤H1.length:=by have:=a2.1; simpa using this
  have hk1:AccL vI (b+1) H1 fs F:=Acc.keep w.frm fun i hi=>by
    rw [a3 i (by simp; have:=hkl i hi; omega) (fun e=>w.ap i e hi),List.getElem?_append_left (hkl i hi)]
  obtain ⟨H2,t1,t2,t3⟩:=hr1.set (j:=0) (by simp) a1.cell
  refine hk v1 H1 H2 t1 ⟨t2,Acc.keep a1 fun i hi=>t3.1 i (fun e=>by have:=a1.low i hi; omega),Acc.keep hk1 fun i hi=>t3.1 i (fun e=>by have:=w.frm.low i hi; omega),fun i hi hk2=>(a4 i hi).elim (fun e=>w.ap i e hk2) (fun e=>by have:=hkl i hk2; simp at e; omega)⟩ (fun j o ho=>?_) (by rw [t3.2]; exact hH1) ⟨by rw [t3.2]; omega,fun i hi=>?_⟩
  . have hj:=(List.getElem?_eq_some_iff.1 ho).1
    rw [t3.1 _ (by omega),a3 _ (by simp; omega) (fun e=>by have:=hgl _ e; omega),List.getElem?_append_right (by omega),Nat.add_sub_cancel_left,ho]
  . rw [t3.1 i (by omega),a2.2 i (by omega),List.getElem?_append_left (by omega)]
theorem PairB.pushF {x:Int} (w:PairB b H cs fs C F) (hp:qCv (H++rs) 1 lit=some (1,[vI x])) (hl:F.length+1≤lim)
    (hk:∀ v1 H1 H2,qBu H1 1 (.pointer (some ⟨b,1,some 0⟩)) v1=some H2→PairB b H2 cs v1 C (F++[x])→(∀ j o,rs[j]?=some o→H2[H.length+j]?=some o)→H.length+rs.length≤H2.length→qBs b H H2→pOps P K is (updO fr d v1) H1) :
    eK P K is d [] fr H0 (pApp (H++rs) 1 fs lit):=by
  have hb:=w.row.lt;refine AccL.apps (w.frm.ext qBs.app) (by simp; omega) (m:=[x]) hp (by simpa using hl) fun v1 H1 a1 a2 a3 a4=>?_
  have hgl:∀ i,rid cs=some i→i < H.length:=fun i hi=>Acc.lt w.cod hi
  have hkl:∀ i,rid fs=some i→i < H.length:=fun i hi=>Acc.lt w.frm hi
  have hr1:RowV H1 b 0 2 [cs,fs]:=w.row.keep (by rw [a2.2 _ (by omega),List.getElem?_append_left hb])
  have hH1:H.length+rs.length≤H1.length:=by have:=a2.1; simpa using this
  have hk1:AccM 4 vIns (b+1) H1 cs C:=Acc.keep w.cod fun i hi=>by
    rw [a3 i (by simp; have:=hgl i hi; omega) (fun e=>w.ap i hi e),List.getElem?_append_left (hgl i hi)]
  obtain ⟨H2,t1,t2,t3⟩:=hr1.set (j:=1) (by simp) a1.cell
  refine hk v1 H1 H2 t1 ⟨t2,Acc.keep hk1 fun i hi=>t3.1 i (fun e=>by have:=w.cod.low i hi; omega),Acc.keep a1 fun i hi=>t3.1 i (fun e=>by have:=a1.low i hi; omega),fun i hi hk2=>(a4 i hk2).elim (fun e=>w.ap i hi e) (fun e=>by have:=hgl i hi; simp at e; omega)⟩ (fun j o ho=>?_) (by rw [t3.2]; exact hH1) ⟨by rw [t3.2]; omega,fun i hi=>?_⟩
  . have hj:=(List.getElem?_eq_some_iff.1 ho).1
    rw [t3.1 _ (by omega),a3 _ (by simp; omega) (fun e=>by have:=hkl _ e; omega),List.getElem?_append_right (by omega),Nat.add_sub_cancel_left,ho]
  . rw [t3.1 i (by omega),a2.2 i (by omega),List.getElem?_append_left (by omega)]
end
def mkL (hd B i k:Nat) (c:Ins):Ins:=if k=i then nopI else qFl hd B k c
def lcTo (hd B i:Nat) (x:Ins) (code:List Ins):Nat→List Ins
  | 0=>[]
  | k+1=>(lcTo hd B i x code k++if k=hd then [x] else [])++[mkL hd B i k ((code[k]?).getD nopI)]
def lfTo (hd i:Nat):Nat→List Int
  | 0=>[]
  | k+1=>(lfTo hd i k++if k=hd then [(i:Int)] else [])++[(k:Int)]
theorem qMi {α:Type} {l:List α} {k:Nat} {x:α} (h:l[k]?=some x):l.take (k+1)=l.take k++[x]:=by
  rw [List.take_add_one,h]; rfl
theorem lay_all {α:Type} (M:List α) (x:α) (hd:Nat) (L:Nat→List α) (h0:L 0=[]) (hs:∀ k y,M[k]?=some y→L (k+1)=(L k++if k=hd then [x] else [])++[y]) (hh:hd < M.length):L M.length=M.take hd++x :: M.drop hd:=by
  have key:∀ k,k≤M.length→L k=if k≤hd then M.take k else M.take hd++x :: (M.drop hd).take (k - hd):=by
    intro k
    induction k with
    | zero=>intro _; rw [if_pos (by omega),h0]; simp
    | succ k ih =>
      intro hk;obtain ⟨y,hy⟩:∃ y,M[k]?=some y:=⟨_,List.getElem?_eq_getElem (by omega)⟩
      rw [hs k y hy,ih (by omega)]
      by_cases h1:k+1≤hd
      . rw [if_pos (by omega),if_pos h1,if_neg (by omega),List.append_nil,qMi hy]
      . by_cases h2:k=hd
        . subst h2
          rw [if_pos (Nat.le_refl _),if_neg h1,if_pos rfl,show k+1 - k=0+1 by omega,qMi (l:=M.drop k) (k:=0) (x:=y) (by rw [List.getElem?_drop]; exact hy)]
          simp
        . rw [if_neg (by omega),if_neg h1,if_neg h2,List.append_nil,show k+1 - hd=(k - hd)+1 by omega,qMi (l:=M.drop hd) (k:=k - hd) (x:=y) (by rw [List.getElem?_drop,show hd+(k - hd)=k by omega]; exact hy)]
          simp
  rw [key _ (Nat.le_refl _),if_neg (by omega),List.take_of_length_le (l:=M.drop hd) (by simp)]
theorem lcTo_all {hd B i:Nat} {x:Ins} {code:List Ins} (hh:hd < code.length):lcTo hd B i x code code.length=qHu hd B code i x:=by
  have hl:((qEm hd B code).set i nopI).length=code.length:=by simp [qEm]
  have:=lay_all ((qEm hd B code).set i nopI) x hd (lcTo hd B i x code) rfl (fun k y hy=>by
    have hk:k < code.length:=by have:=(List.getElem?_eq_some_iff.1 hy).1; omega
    obtain ⟨c,hc⟩:∃ c,code[k]?=some c:=⟨_,List.getElem?_eq_getElem hk⟩;show (lcTo hd B i x code k++if k=hd then [x] else [])++[mkL hd B i k ((code[k]?).getD nopI)]=_
    congr 2
    rw [hc,Option.getD_some];unfold mkL
    by_cases e:k=i
    . subst e
      rw [List.getElem?_set_self (by simpa [qEm] using hk)] at hy
      rw [if_pos rfl]; exact Option.some.inj hy
    . rw [List.getElem?_set_ne (fun h=>e h.symm)] at hy
      rw [if_neg e];have:(qEm hd B code)[k]?=some (qFl hd B k c):=by simp [qEm,hc]
      rw [this] at hy; exact Option.some.inj hy) (by omega)
  rw [hl] at this;exact this
theorem lfTo_all {n hd i:Nat} (hh:hd < n):lfTo hd i n=qHt n hd i:=by
  have hl:=qEo n;have:=lay_all (ownL n) (i:Int) hd (lfTo hd i) rfl (fun k y hy=>by
    have hk:k < n:=by have:=(List.getElem?_eq_some_iff.1 hy).1; omega
    rw [ownL_at hk] at hy;show (lfTo hd i k++if k=hd then [(i:Int)] else [])++[(k:Int)]=_
    congr 2; exact Option.some.inj hy) (by omega)
  rw [hl] at this;exact this
theorem lcTo_len {hd B i:Nat} {x:Ins} {code:List Ins}:∀ k,(lcTo hd B i x code k).length≤2 * k
  | 0=>by simp [lcTo]
  | k+1=>by
    have:=lcTo_len (hd:=hd) (B:=B) (i:=i) (x:=x) (code:=code) k;unfold lcTo
    by_cases h:k=hd<;>simp [h]<;>subst_vars<;>omega
theorem lfTo_len {hd i:Nat}:∀ k,(lfTo hd i k).length≤2 * k
  | 0=>by simp [lfTo]
  | k+1=>by
    have:=lfTo_len (hd:=hd) (i:=i) k;unfold lfTo
    by_cases h:k=hd<;>simp [h]<;>subst_vars<;>omega
structure LdS (h:Heap) (hd B:Nat) (cs fs:Value) (C:List Ins) (F:List Int) (H:Heap):Prop where
  lp:RowV H h.length 0 2 [vI hd,vL vI (qCc B)]
  res:RowV H (h.length+1) 0 2 [nilS,nilS]
  two:PairB (h.length+2) H cs fs C F
  kp:qBs h.length h H
theorem LdS.keep {h H H':Heap} {hd B:Nat} {cs fs cs' fs':Value} {C C':List Ins} {F F':List Int} (w:LdS h hd B cs fs C F H) (t:PairB (h.length+2) H' cs' fs' C' F') (k:qBs (h.length+2) H H'):LdS h hd B cs' fs' C' F' H' :=
  ⟨w.lp.keep (k.2 _ (by omega)),w.res.keep (k.2 _ (by omega)),t,w.kp.trans ⟨k.1,fun i hi=>k.2 i (by omega)⟩⟩
theorem PairB.ext {b:Nat} {H:Heap} {cs fs:Value} {C:List Ins} {F:List Int} (w:PairB b H cs fs C F) (rs:List Ob):PairB b (H++rs) cs fs C F :=
  ⟨w.row.keep (List.getElem?_append_left w.row.lt),AccM.ext w.cod qBs.app,AccL.ext w.frm qBs.app,w.ap⟩
section
variable {h : Heap} {K : Value → Heap → Prop}
set_option maxHeartbeats 8000000 in
theorem r20lifted_call {code:List Ins} {hd B i:Nat} {x:Ins} (hB:B < big) (hh:hd < code.length) (hl:2 * code.length+1≤lim) (hx:code[i]?=some x)
    (hk:K (qMg (qHu hd B code i x) (qHt code.length hd i)) h) :
    qBl prog 34 [vM 4 vIns code,.agg (vLp (hd,B)).toArray,vI i] h K:=by
  refine qBl.forget ?_;refine call_r20lifted (by simp) ?_
  have hlim:lim=1048576:=rfl;have hil:i < code.length:=(List.getElem?_eq_some_iff.1 hx).1;have hiI:(i:Int) < code.length:=by omega
  have evp:vLp (hd,B)=[vI hd,vL vI (qCc B)]:=rfl;have hb64:=bitsI_len B;simp [-qAt,qAk,qAn,qAl,qAh,qAg,qAe,qAb,qAd,qAa,qAi,qAf,qAc,qAs,qAu,resV,retV,qAm,qAj,qAr,qAq,qAp,qAo,qJv,cells_lp,evp];rw [qAt];simp [-qAt,qAk,qAn,qAl,qAh,qAg,qAe,qAb,qAd,qAa,qAi,qAf,qAc,qAs,qAu,resV,retV,qAm,qAj,qAr,qAq,qAp,qAo];refine qDh (σ:=Nat×Value×Value×Heap) (fun y=>[(0,vM 4 vIns code),(2,vI i),(4,ptr h.length),(6,ptr (h.length+1)),(7,ptr (h.length+2)),(8,vI y.1)]) (fun y=>y.2.2.2)
    (fun y=>y.1≤code.length∧LdS h hd B y.2.1 y.2.2.1 (lcTo hd B i x code y.1) (lfTo hd i y.1) y.2.2.2) (fun y=>code.length - y.1)
    (0,nilS,nilS,h++[bx [vI hd,vL vI (qCc B)] 2,bx [nilS,nilS] 2,bx [nilS,nilS] 2]) (by simp) rfl
    ⟨by simp,⟨by simp [RowV,bx],by simp [RowV,bx],⟨by simp [RowV,bx],AccM.nil,AccL.nil,.nil⟩,qBs.app⟩⟩ ?_
  rintro ⟨k,cs,fs,H⟩ fr ⟨hk0,w⟩;simp only at hk0 w ⊢;have hlc:=lcTo_len (hd:=hd) (B:=B) (i:=i) (x:=x) (code:=code) k;have hlf:=lfTo_len (hd:=hd) (i:=i) k
  by_cases hlt:k < code.length
  . obtain ⟨k1,hk1,wk⟩:=qBr (show k < lim by omega)
    have hkI:(k:Int) < code.length:=by omega
    obtain ⟨c,hc⟩:∃ c,code[k]?=some c:=⟨_,List.getElem?_eq_getElem hlt⟩;have hmk:lcTo hd B i x code k1=(lcTo hd B i x code k++if k=hd then [x] else [])++[mkL hd B i k c]:=by
      rw [hk1];show (lcTo hd B i x code k++if k=hd then [x] else [])++[mkL hd B i k ((code[k]?).getD nopI)]=_
      rw [hc]; rfl
    have hmf:lfTo hd i k1=(lfTo hd i k++if k=hd then [(i:Int)] else [])++[(k:Int)]:=by rw [hk1]; rfl
    have hHl:=w.kp.1;rw [qAt];simp [-qAt,qAk,qAn,qAl,qAh,qAg,qAe,qAb,qAd,qAa,qAi,qAf,qAc,qAs,qAu,resV,retV,qAm,qAj,qAr,qAq,qAp,qAo,hkI];rw [qAt];simp [-qAt,qAk,qAn,qAl,qAh,qAg,qAe,qAb,qAd,qAa,qAi,qAf,qAc,qAs,qAu,resV,retV,qAm,qAj,qAr,qAq,qAp,qAo];refine qUa (σ:=Value×Value×Heap) (fun _=>[(0,vM 4 vIns code),(2,vI i),(4,ptr h.length),(6,ptr (h.length+1)),(7,ptr (h.length+2)),(8,vI k)]) (fun y=>y.2.2)
      (fun y=>LdS h hd B y.1 y.2.1 (lcTo hd B i x code k++if k=hd then [x] else []) (lfTo hd i k++if k=hd then [(i:Int)] else []) y.2.2) ?_ ?_
    . by_cases hkh:k=hd
      . have e1:(if k=hd then [x] else [])=[x]:=if_pos hkh
        have e2:(if k=hd then [(i:Int)] else [])=[(i:Int)]:=if_pos hkh
        rw [e1,e2];subst hkh;simp [qAk,qAn,qAl,qAh,qAg,qAe,qAb,qAd,qAa,qAi,qAf,qAc,qAs,qAu,resV,retV,qAm,qAj,qAr,qAq,qAp,qAo,w.lp.cell,w.two.row.cell,hiI,hx,-qAy,qAw,qAv,qAx,qBa,wN_0,wN_1,wN_2,wN_3,wG_0,wG_1,wG_2,wG_3];refine PairB.pushC w.two (x:=x) (qEx (m:=0) rfl rfl) (by omega) fun v1 H1 H2 t1 p2 t2 t3 t4=>?_
        have t1':qBu H1 1 (.pointer (some ⟨h.length+2,0,some 0⟩)) v1=some H2:=t1;have w2:=w.keep p2 t4;simp [qAk,qAn,qAl,qAh,qAg,qAe,qAb,qAd,qAa,qAi,qAf,qAc,qAs,qAu,resV,retV,qAm,qAj,qAr,qAq,qAp,qAo,t1',w2.two.row.cell];refine PairB.pushF p2 (x:=(i:Int)) (qFr (m:=0) rfl rfl) (by omega) fun v2 H3 H4 s1 q2 s2 s3 s4=>?_
        have s1':qBu H3 1 (.pointer (some ⟨h.length+2,1,some 0⟩)) v2=some H4:=s1;simp [qAk,qAn,qAl,qAh,qAg,qAe,qAb,qAd,qAa,qAi,qAf,qAc,qAs,qAu,resV,retV,qAm,qAj,qAr,qAq,qAp,qAo,s1'];exact .go (v1,v2,H4) (by simp) rfl (w2.keep q2 s4)
      . have e1:(if k=hd then [x] else [])=[]:=if_neg hkh
        have e2:(if k=hd then [(i:Int)] else [])=[]:=if_neg hkh
        have hkhI:¬ (k:Int)=hd:=by omega
        rw [e1,e2,List.append_nil,List.append_nil];simp [qAk,qAn,qAl,qAh,qAg,qAe,qAb,qAd,qAa,qAi,qAf,qAc,qAs,qAu,resV,retV,qAm,qAj,qAr,qAq,qAp,qAo,w.lp.cell,hkh,hkhI];exact .go (cs,fs,H) (by simp) rfl w
    . clear w
      obtain ⟨C1,hC1⟩:∃ C1,C1=lcTo hd B i x code k++if k=hd then [x] else []:=⟨_,rfl⟩
      obtain ⟨F1,hF1⟩:∃ F1,F1=lfTo hd i k++if k=hd then [(i:Int)] else []:=⟨_,rfl⟩
      have hC1l:C1.length≤2 * k+1:=by rw [hC1]; split<;>simp<;>omega
      have hF1l:F1.length≤2 * k+1:=by rw [hF1]; split<;>simp<;>omega
      rw [← hC1] at hmk;rw [← hF1] at hmf;rw [← hC1,← hF1];rintro ⟨cs,fs,H⟩ fr w;simp only at w ⊢;have hHl:=w.kp.1;have wlp:∀ (rs:List Ob) (j:Nat),(H++rs).cell? h.length j 0=[vI (hd:Int),vL vI (qCc B)][j]?:=fun rs j=>by
        rw [qDb (List.getElem?_append_left w.lp.lt)]; exact w.lp.cell j
      have wtw:∀ (rs:List Ob) (j:Nat),(H++rs).cell? (h.length+2) j 0=[cs,fs][j]?:=fun rs j=>by
        rw [qDb (List.getElem?_append_left w.two.row.lt)]; exact w.two.row.cell j
      have tail:∀ (y:Ins) (v1:Value) (H1 H2:Heap) {rs:List Ob},PairB (h.length+2) H2 v1 fs (C1++[y]) F1→qBs (h.length+2) H H2→LdS h hd B v1 fs (C1++[y]) F1 H2:=fun y v1 H1 H2 rs p2 t4=>w.keep p2 t4
      have sn:∀ y:Ins,setAll (vIns y) 0 (vIns nopI)=vIns nopI:=fun _=>rfl
      have n0:nopI.op=0:=rfl;have sa1:∀ a:Int,(vIns c).set 1 (vI a)=vIns ⟨c.op,a,c.b,c.c⟩:=fun _=>rfl
      have sa2:∀ a:Int,(vIns c).set 2 (vI a)=vIns ⟨c.op,c.a,a,c.c⟩:=fun _=>rfl
      have i10:((c.op:Int)=10)=(c.op=10):=propext ⟨fun h=>by omega,fun h=>by omega⟩
      have i11:((c.op:Int)=11)=(c.op=11):=propext ⟨fun h=>by omega,fun h=>by omega⟩
      have fin:∀ (y:Ins) (v1 v2:Value) (H2 H4:Heap) (fr:Fr),mkL hd B i k c=y→qBs (h.length+2) H H2→PairB (h.length+2) H4 v1 v2 (C1++[y]) (F1++[(k:Int)])→qBs (h.length+2) H2 H4→PairB (h.length+2) H2 v1 fs (C1++[y]) F1 →
          k1≤code.length∧LdS h hd B v1 v2 (lcTo hd B i x code k1) (lfTo hd i k1) H4:=fun y v1 v2 H2 H4 fr e k2 q k4 p=>by
        rw [hmk,hmf,e];exact ⟨by omega,(w.keep p k2).keep q k4⟩
      have two:∀ {y:Ins} {v1:Value} {H2:Heap} (rs:List Ob),PairB (h.length+2) H2 v1 fs (C1++[y]) F1→∀ j:Nat,(H2++rs).cell? (h.length+2) j 0=[v1,fs][j]?:=fun rs p j=>by
        rw [qDb (List.getElem?_append_left p.row.lt)]; exact p.row.cell j
      by_cases hki:k=i
      . have em:mkL hd B i k c=nopI:=by unfold mkL; rw [if_pos hki]
        subst hki;simp [qAk,qAn,qAl,qAh,qAg,qAe,qAb,qAd,qAa,qAi,qAf,qAc,qAs,qAu,resV,retV,qAm,qAj,qAr,qAq,qAp,qAo,hkI,hc,wlp,wtw,cells_nop,sn,n0,-qAy,qAw,qAv,qAx,qBa,wN_0,wN_1,wN_2,wN_3,wG_0,wG_1,wG_2,wG_3];refine PairB.pushC w.two (x:=nopI) (qEx (m:=1) rfl rfl) (by omega) fun v1 H1 H2 t1 p2 t2 t3 t4=>?_
        have t1':qBu H1 1 (.pointer (some ⟨h.length+2,0,some 0⟩)) v1=some H2:=t1;simp [qAk,qAn,qAl,qAh,qAg,qAe,qAb,qAd,qAa,qAi,qAf,qAc,qAs,qAu,resV,retV,qAm,qAj,qAr,qAq,qAp,qAo,t1',p2.row.cell];refine PairB.pushF p2 (x:=(k:Int)) (qFr (m:=0) rfl rfl) (by omega) fun v2 H3 H4 s1 q2 s2 s3 s4=>?_
        have s1':qBu H3 1 (.pointer (some ⟨h.length+2,1,some 0⟩)) v2=some H4:=s1;simp [qAk,qAn,qAl,qAh,qAg,qAe,qAb,qAd,qAa,qAi,qAf,qAc,qAs,qAu,resV,retV,qAm,qAj,qAr,qAq,qAp,qAo,s1',wk];exact .go (k1,v1,v2,H4) (by simp only []; omega) (by simp) rfl (fin _ v1 v2 H2 H4 fr em t4 q2 s4 p2)
      . have hkiI:¬ (k:Int)=i:=by omega
        by_cases h10:c.op=10
        . have em:mkL hd B i k c=⟨10,toI hd B k c.a,c.b,c.c⟩:=by unfold mkL qFl; rw [if_neg hki,if_pos h10,h10]
          simp [qAk,qAn,qAl,qAh,qAg,qAe,qAb,qAd,qAa,qAi,qAf,qAc,qAs,qAu,resV,retV,qAm,qAj,qAr,qAq,qAp,qAo,hkI,hc,wlp,wtw,hki,hkiI,i10,i11,h10,-qAy,qAw,qAv,qAx,qBa,wN_0,wN_1,wN_2,wN_3,wG_0,wG_1,wG_2,wG_3];refine qJn (by omega) ?_
          rw [qOx];simp [qAk,qAn,qAl,qAh,qAg,qAe,qAb,qAd,qAa,qAi,qAf,qAc,qAs,qAu,resV,retV,qAm,qAj,qAr,qAq,qAp,qAo,callK_def];refine ⟨⟨⟨vI c.a,rfl,rfl⟩,⟨vI hd,rfl,by rw [wlp]; rfl⟩⟩,r20place_call ?_⟩
          simp [qAk,qAn,qAl,qAh,qAg,qAe,qAb,qAd,qAa,qAi,qAf,qAc,qAs,qAu,resV,retV,qAm,qAj,qAr,qAq,qAp,qAo,callK_def,wtw,sa1,i10,i11,h10,-qAy,qAw,qAv,qAx,qBa,wN_0,wN_1,wN_2,wN_3,wG_0,wG_1,wG_2,wG_3];refine PairB.pushC w.two (x:=⟨10,toI hd B k c.a,c.b,c.c⟩) (qEx (m:=1) rfl rfl) (by omega) fun v1 H1 H2 t1 p2 t2 t3 t4=>?_
          have t1':qBu H1 1 (.pointer (some ⟨h.length+2,0,some 0⟩)) v1=some H2:=t1;simp [qAk,qAn,qAl,qAh,qAg,qAe,qAb,qAd,qAa,qAi,qAf,qAc,qAs,qAu,resV,retV,qAm,qAj,qAr,qAq,qAp,qAo,t1',p2.row.cell];refine PairB.pushF p2 (x:=(k:Int)) (qFr (m:=0) rfl rfl) (by omega) fun v2 H3 H4 s1 q2 s2 s3 s4=>?_
          have s1':qBu H3 1 (.pointer (some ⟨h.length+2,1,some 0⟩)) v2=some H4:=s1;simp [qAk,qAn,qAl,qAh,qAg,qAe,qAb,qAd,qAa,qAi,qAf,qAc,qAs,qAu,resV,retV,qAm,qAj,qAr,qAq,qAp,qAo,s1',wk];exact .go (k1,v1,v2,H4) (by simp only []; omega) (by simp) rfl (fin _ v1 v2 H2 H4 fr em t4 q2 s4 p2)
        . by_cases h11:c.op=11
          . have em:mkL hd B i k c=⟨11,c.a,toI hd B k c.b,c.c⟩:=by unfold mkL qFl; rw [if_neg hki,if_neg h10,if_pos h11,h11]
            simp [qAk,qAn,qAl,qAh,qAg,qAe,qAb,qAd,qAa,qAi,qAf,qAc,qAs,qAu,resV,retV,qAm,qAj,qAr,qAq,qAp,qAo,hkI,hc,wlp,wtw,hki,hkiI,i10,i11,h11,-qAy,qAw,qAv,qAx,qBa,wN_0,wN_1,wN_2,wN_3,wG_0,wG_1,wG_2,wG_3];refine qJn (by omega) ?_
            rw [qOx];simp [qAk,qAn,qAl,qAh,qAg,qAe,qAb,qAd,qAa,qAi,qAf,qAc,qAs,qAu,resV,retV,qAm,qAj,qAr,qAq,qAp,qAo,callK_def];refine ⟨⟨⟨vI c.b,rfl,rfl⟩,⟨vI hd,rfl,by rw [wlp]; rfl⟩⟩,r20place_call ?_⟩
            simp [qAk,qAn,qAl,qAh,qAg,qAe,qAb,qAd,qAa,qAi,qAf,qAc,qAs,qAu,resV,retV,qAm,qAj,qAr,qAq,qAp,qAo,callK_def,wtw,sa2,i10,i11,h11,-qAy,qAw,qAv,qAx,qBa,wN_0,wN_1,wN_2,wN_3,wG_0,wG_1,wG_2,wG_3];refine PairB.pushC w.two (x:=⟨11,c.a,toI hd B k c.b,c.c⟩) (qEx (m:=1) rfl rfl) (by omega) fun v1 H1 H2 t1 p2 t2 t3 t4=>?_
            have t1':qBu H1 1 (.pointer (some ⟨h.length+2,0,some 0⟩)) v1=some H2:=t1;simp [qAk,qAn,qAl,qAh,qAg,qAe,qAb,qAd,qAa,qAi,qAf,qAc,qAs,qAu,resV,retV,qAm,qAj,qAr,qAq,qAp,qAo,t1',p2.row.cell];refine PairB.pushF p2 (x:=(k:Int)) (qFr (m:=0) rfl rfl) (by omega) fun v2 H3 H4 s1 q2 s2 s3 s4=>?_
            have s1':qBu H3 1 (.pointer (some ⟨h.length+2,1,some 0⟩)) v2=some H4:=s1;simp [qAk,qAn,qAl,qAh,qAg,qAe,qAb,qAd,qAa,qAi,qAf,qAc,qAs,qAu,resV,retV,qAm,qAj,qAr,qAq,qAp,qAo,s1',wk];exact .go (k1,v1,v2,H4) (by simp only []; omega) (by simp) rfl (fin _ v1 v2 H2 H4 fr em t4 q2 s4 p2)
          . have em:mkL hd B i k c=c:=by unfold mkL qFl; rw [if_neg hki,if_neg h10,if_neg h11]
            simp [qAk,qAn,qAl,qAh,qAg,qAe,qAb,qAd,qAa,qAi,qAf,qAc,qAs,qAu,resV,retV,qAm,qAj,qAr,qAq,qAp,qAo,hkI,hc,wlp,wtw,hki,hkiI,i10,i11,h10,h11,-qAy,qAw,qAv,qAx,qBa,wN_0,wN_1,wN_2,wN_3,wG_0,wG_1,wG_2,wG_3];refine PairB.pushC w.two (x:=c) (qEx (m:=1) rfl rfl) (by omega) fun v1 H1 H2 t1 p2 t2 t3 t4=>?_
            have t1':qBu H1 1 (.pointer (some ⟨h.length+2,0,some 0⟩)) v1=some H2:=t1;simp [qAk,qAn,qAl,qAh,qAg,qAe,qAb,qAd,qAa,qAi,qAf,qAc,qAs,qAu,resV,retV,qAm,qAj,qAr,qAq,qAp,qAo,t1',p2.row.cell];refine PairB.pushF p2 (x:=(k:Int)) (qFr (m:=0) rfl rfl) (by omega) fun v2 H3 H4 s1 q2 s2 s3 s4=>?_
            have s1':qBu H3 1 (.pointer (some ⟨h.length+2,1,some 0⟩)) v2=some H4:=s1;simp [qAk,qAn,qAl,qAh,qAg,qAe,qAb,qAd,qAa,qAi,qAf,qAc,qAs,qAu,resV,retV,qAm,qAj,qAr,qAq,qAp,qAo,s1',wk];exact .go (k1,v1,v2,H4) (by simp only []; omega) (by simp) rfl (fin _ v1 v2 H2 H4 fr em t4 q2 s4 p2)
  . obtain rfl:k=code.length:=by omega
    have hkI:¬ (code.length:Int) < code.length:=by omega
    obtain ⟨H2,s1,s2,s3⟩:=w.res.store (n:=2) (cs:=[cs,fs]) rfl rfl (by
      have q1:=w.two.cod;have q2:=w.two.frm;rcases q1 with ⟨e,_⟩ | ⟨id,ver,e,_⟩<;>rcases q2 with ⟨e',_⟩ | ⟨id',ver',e',_⟩<;>rw [e,e']<;>rfl)
    have s1':qBu H 2 (ptr (h.length+1)) (.agg #[cs,fs])=some H2:=s1;have ce2:H2.cells? (h.length+1) 0 0 2=some [cs,fs]:=s2.cells rfl;have ce3:H.cells? (h.length+2) 0 0 2=some [cs,fs]:=w.two.row.cells rfl;simp [qAk,qAn,qAl,qAh,qAg,qAe,qAb,qAd,qAa,qAi,qAf,qAc,qAs,qAu,resV,retV,qAm,qAj,qAr,qAq,qAp,qAo,hkI,ce3,s1',ce2];have hC:=lcTo_all (B:=B) (i:=i) (x:=x) hh;have hF:=lfTo_all (i:=i) hh;have kp2:qBs h.length h H2:=w.kp.trans ⟨by rw [s3.2]; exact Nat.le_refl _,fun i hi=>s3.1 i (by omega)⟩
    have c1:AccM 4 vIns h.length H2 cs (qHu hd B code i x):=by
      rw [← hC];exact Acc.less (Acc.keep w.two.cod fun j hj=>s3.1 j (fun e=>by have:=w.two.cod.low j hj; omega)) (by omega)
    have c2:AccL vI h.length H2 fs (qHt code.length hd i):=by
      rw [← hF];exact Acc.less (Acc.keep w.two.frm fun j hj=>s3.1 j (fun e=>by have:=w.two.frm.low j hj; omega)) (by omega)
    exact ⟨kp2.ext,_,Inls.agg (xs:=[cs,fs]) (ys:=[vM 4 vIns (qHu hd B code i x),vL vI (qHt code.length hd i)]) ⟨AccM.inl c1 fun _=>rfl,AccL.inl c2 fun _=>rfl,trivial⟩,hk⟩
end
end Pm
