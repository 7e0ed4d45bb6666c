/- Loads qGm of loops: small functions, walked.
   No condition: plain lemmas. -/

import Derived.Test.YtdiggaadgjkgkaaGreatDoorZNPmLp3
import Derived.Test.YtdiggaadgjkgkaaGreatDoorZNPmSeg2
import Derived.Test.YtdiggaadgjkgkaaGreatDoorZNPmLive2
namespace Pm
set_option linter.unusedSimpArgs false
set_option linter.unusedVariables false
open Go Am
open Go.Proofs.Tryz (prog)

def qFz (op:Nat):Bool:=qDa op || decide (op=10) || decide (op=11) || decide (op=9)
structure RgB (H:Heap) (b:Nat) (code:List Ins) (hd B:Nat):Prop where
  c0:H.cell? b 0 0=some (vM 4 vIns code)
  c1:H.cell? b 1 0=some (vI hd)
  c2:H.cell? b 2 0=some (vU B)
  lt:b < H.length
theorem RgB.ext {H:Heap} {b:Nat} {code:List Ins} {hd B:Nat} (h:RgB H b code hd B) (rs:List Ob):RgB (H++rs) b code hd B:=by
  have e:=List.getElem?_append_left (l₂:=rs) h.lt;exact ⟨by rw [qDb e]; exact h.c0,by rw [qDb e]; exact h.c1,by rw [qDb e]; exact h.c2,by have:=h.lt; simp; omega⟩
def qFj (code:List Ins) (hd B:Nat):Bool:=hasB B ((hd:Int) - 1) && (match code[hd - 1]? with | some c=>decide (c.op≠10) | none=>false)
section
variable {h : Heap} {K : Value → Heap → Prop}
theorem lfQuiet_call {op:Nat} (ho:op≤255) (hk:K (vB (qFz op)) h):qBl prog 49 [v8 op] h K:=by
  refine Pure.go (Pure.one (p:=vB (qFz op)) rfl fun h=>?_) hk
  refine call_lfQuiet (by simp) ?_
  simp [-qAt,qAk,qAn,qAl,qAh,qAg,qAe,qAb,qAd,qAa,qAi,qAf,qAc,qAs,qAu,resV,retV,qAm,qAj,qAr,qAq,qAp,qAo,qNo];refine irPlain_call ho ?_;unfold qFz;cases qDa op with
  | true=>simp [qAk,qAn,qAl,qAh,qAg,qAe,qAb,qAd,qAa,qAi,qAf,qAc,qAs,qAu,resV,retV,qAm,qAj,qAr,qAq,qAp,qAo,callK_def]
  | false =>
    by_cases h10:op=10
    . simp [qAk,qAn,qAl,qAh,qAg,qAe,qAb,qAd,qAa,qAi,qAf,qAc,qAs,qAu,resV,retV,qAm,qAj,qAr,qAq,qAp,qAo,callK_def,h10]
    . have i10:¬ (op:Int)=10:=by omega
      by_cases h11:op=11
      . simp [qAk,qAn,qAl,qAh,qAg,qAe,qAb,qAd,qAa,qAi,qAf,qAc,qAs,qAu,resV,retV,qAm,qAj,qAr,qAq,qAp,qAo,callK_def,h11]
      . have i11:¬ (op:Int)=11:=by omega
        by_cases h9:op=9
        . simp [qAk,qAn,qAl,qAh,qAg,qAe,qAb,qAd,qAa,qAi,qAf,qAc,qAs,qAu,resV,retV,qAm,qAj,qAr,qAq,qAp,qAo,callK_def,h9]
        . have i9:¬ (op:Int)=9:=by omega
          simp [qAk,qAn,qAl,qAh,qAg,qAe,qAb,qAd,qAa,qAi,qAf,qAc,qAs,qAu,resV,retV,qAm,qAj,qAr,qAq,qAp,qAo,callK_def,h10,h11,h9,i10,i11,i9]
theorem lfClosed_call {code:List Ins} {b hd B:Nat} (G:RgB h b code hd B) (hB:B < big) (hh:hd < lim) (hl:code.length < lim) (hhl:hd≤code.length) (hk:K (vB (qFj code hd B)) h):qBl prog 46 [ptr b] h K:=by
  refine call_lfClosed (by simp) ?_
  have hlim:lim=1048576:=rfl;have w1:IntKind.i64.wrap ((hd:Int) - 1)=(hd:Int) - 1:=wrap_i64 (by omega) (by omega)
  simp [-qAt,qAk,qAn,qAl,qAh,qAg,qAe,qAb,qAd,qAa,qAi,qAf,qAc,qAs,qAu,resV,retV,qAm,qAj,qAr,qAq,qAp,qAo,qLi,G.c2,G.c1,w1];refine qFg hB ?_;unfold qFj at hk;cases hb:hasB B ((hd:Int) - 1) with
  | false =>
    rw [hb] at hk;simp [qAk,qAn,qAl,qAh,qAg,qAe,qAb,qAd,qAa,qAi,qAf,qAc,qAs,qAu,resV,retV,qAm,qAj,qAr,qAq,qAp,qAo,callK_def];exact hk
  | true =>
    rw [hb] at hk;have h1:1≤hd:=by
      have:=hb;unfold hasB at this;simp at this;omega
    obtain ⟨j,hj⟩:∃ j:Nat,hd=j+1:=⟨hd - 1,by omega⟩
    have hjl:j < code.length:=by omega
    have hjI:(j:Int) < code.length:=by omega
    have ej:(hd:Int) - 1=(j:Int):=by omega
    obtain ⟨c,hc⟩:∃ c,code[j]?=some c:=⟨_,List.getElem?_eq_getElem hjl⟩;rw [show hd - 1=j by omega,hc] at hk
    rw [ej] at w1
    by_cases h10:c.op=10
    . simp [h10] at hk
      simp [qAk,qAn,qAl,qAh,qAg,qAe,qAb,qAd,qAa,qAi,qAf,qAc,qAs,qAu,resV,retV,qAm,qAj,qAr,qAq,qAp,qAo,callK_def,G.c0,G.c1,ej,w1,hjI,hc,h10,-qAy,qAw,qAv,qAx,qBa,wN_0,wN_1,wN_2,wN_3];exact hk
    . have i10:¬ (c.op:Int)=10:=by omega
      simp [h10] at hk;simp [qAk,qAn,qAl,qAh,qAg,qAe,qAb,qAd,qAa,qAi,qAf,qAc,qAs,qAu,resV,retV,qAm,qAj,qAr,qAq,qAp,qAo,callK_def,G.c0,G.c1,ej,w1,hjI,hc,h10,i10,-qAy,qAw,qAv,qAx,qBa,wN_0,wN_1,wN_2,wN_3];exact hk
end
end Pm

/- Loads qGm of loops: whether a load may go qGm, walked.
   No condition: plain lemmas. -/

namespace Pm
set_option linter.unusedSimpArgs false
set_option linter.unusedVariables false
open Go Am
open Go.Proofs.Tryz (prog)

section
variable {h : Heap} {K : Value → Heap → Prop}
theorem rd_vL {l:List Int}:Rd h (vL vI l) l:=by
  refine ⟨by simp,fun i x hx=>⟨fptr [vI x],?_,by simp⟩⟩
  have hi:=(List.getElem?_eq_some_iff.1 hx).1;have hiI:(i:Int) < l.length:=by omega
  simp [hx,hiI]
theorem fst_any {g:Int→Bool} {l:List Int}:decide (0≤fstI g l)=l.any g:=by
  unfold fstI;cases e:l.findIdx? g with
  | none =>
    have h1:=List.findIdx?_eq_none_iff.1 e;have:l.any g=false:=by
      rw [List.any_eq_false];intro x hx; simp [h1 x hx]
    rw [this]; simp
  | some k =>
    obtain ⟨h1,h2,_⟩:=List.findIdx?_eq_some_iff_getElem.1 e;have:l.any g=true:=List.any_eq_true.2 ⟨_,List.getElem_mem h1,h2⟩;rw [this]; simp
theorem ContF1_call {F:FuncId} {first caps:Array Value} {g:Int→Bool} {l:List Int} (hc:qCg prog F=true) (hl:l.length≤lim) (hf:∀ (x:Int) (K:Value→Heap→Prop),x∈l→K (vB (g x)) h→qBl prog F (first.toList++(vI x :: caps.toList)) h K) (hk:K (vB (l.any g)) h) :
    qBl prog 90 [vL vI l,.func (.func F) first caps] h K:=by
  refine call_ContF1 (by simp) ?_
  simp [qAk,qAn,qAl,qAh,qAg,qAe,qAb,qAd,qAa,qAi,qAf,qAc,qAs,qAu,resV,retV,qAm,qAj,qAr,qAq,qAp,qAo,qQj];refine qJe hc hl rd_vL hf ?_;rw [← fst_any] at hk;simp [qAk,qAn,qAl,qAh,qAg,qAe,qAb,qAd,qAa,qAi,qAf,qAc,qAs,qAu,resV,retV,qAm,qAj,qAr,qAq,qAp,qAo,callK_def];exact hk
theorem IdxF4_call {F:FuncId} {first caps:Array Value} {g:Ins→Bool} {l:List Ins} (hc:qCg prog F=true) (hl:l.length≤lim) (hf:∀ (x:Ins) (K:Value→Heap→Prop),x∈l→K (vB (g x)) h→qBl prog F (first.toList++(.agg (vIns x).toArray :: caps.toList)) h K)
    (hk:∀ k:Int,decide (0≤k)=l.any g→K (vI k) h) :
    qBl prog 94 [vM 4 vIns l,.func (.func F) first caps] h K:=by
  refine call_IdxF4 (by simp) ?_
  simp [qAk,qAn,qAl,qAh,qAg,qAe,qAb,qAd,qAa,qAi,qAf,qAc,qAs,qAu,resV,retV,qAm,qAj,qAr,qAq,qAp,qAo,qRr];refine qDh (σ:=Nat) (fun k=>[(0,vM 4 vIns l),(1,.func (.func F) first caps),(7,vI l.length),(8,vI k)]) (fun _=>h) (fun k=>k≤l.length∧∀ j y,j < k→l[j]?=some y→g y=false) (fun k=>l.length - k) 0 (by simp) rfl ⟨by omega,by omega⟩ ?_
  rintro k fr ⟨hk1,hne⟩
  by_cases hlt:k < l.length
  . obtain ⟨k1,hk1,wk⟩:=qBr (show k < lim by omega)
    obtain ⟨y,hy⟩:∃ y,l[k]?=some y:=⟨_,List.getElem?_eq_getElem hlt⟩;have hkf:(k:Int) < l.length:=by omega
    simp [qAk,qAn,qAl,qAh,qAg,qAe,qAb,qAd,qAa,qAi,qAf,qAc,qAs,qAu,resV,retV,qAm,qAj,qAr,qAq,qAp,qAo,hkf,hy,-qAy,qAw,qAv,qAx,qBa,wN_0,wN_1,wN_2,wN_3];rw [qDn (f:=F) (first:=first) (caps:=caps) (by simp) hc]
    simp [qAk,qAn,qAl,qAh,qAg,qAe,qAb,qAd,qAa,qAi,qAf,qAc,qAs,qAu,resV,retV,qAm,qAj,qAr,qAq,qAp,qAo];refine hf y _ (List.mem_of_getElem? hy) ?_;cases hg:g y with
    | true =>
      have:l.any g=true:=List.any_eq_true.2 ⟨_,List.mem_of_getElem? hy,hg⟩;simp [qAk,qAn,qAl,qAh,qAg,qAe,qAb,qAd,qAa,qAi,qAf,qAc,qAs,qAu,resV,retV,qAm,qAj,qAr,qAq,qAp,qAo,callK_def];exact hk k (by rw [this]; simp)
    | false =>
      simp [qAk,qAn,qAl,qAh,qAg,qAe,qAb,qAd,qAa,qAi,qAf,qAc,qAs,qAu,resV,retV,qAm,qAj,qAr,qAq,qAp,qAo,callK_def,wk];refine .go k1 (by omega) (by simp) rfl ⟨by omega,fun j y' hj hy'=>?_⟩
      by_cases hjk:j=k
      . subst hjk; rw [hy] at hy'; cases hy'; exact hg
      . exact hne j y' (by omega) hy'
  . have:l.any g=false:=by
      rw [List.any_eq_false];intro x hm;obtain ⟨j,hj⟩:=List.mem_iff_getElem?.1 hm;simp [hne j x (by have:=(List.getElem?_eq_some_iff.1 hj).1; omega) hj]
    have hkf:¬ (k:Int) < l.length:=by omega
    simp [qAk,qAn,qAl,qAh,qAg,qAe,qAb,qAd,qAa,qAi,qAf,qAc,qAs,qAu,resV,retV,qAm,qAj,qAr,qAq,qAp,qAo,hkf];exact hk (-1) (by rw [this]; rfl)
theorem ContF4_call {F:FuncId} {first caps:Array Value} {g:Ins→Bool} {l:List Ins} (hc:qCg prog F=true) (hl:l.length≤lim) (hf:∀ (x:Ins) (K:Value→Heap→Prop),x∈l→K (vB (g x)) h→qBl prog F (first.toList++(.agg (vIns x).toArray :: caps.toList)) h K) (hk:K (vB (l.any g)) h) :
    qBl prog 52 [vM 4 vIns l,.func (.func F) first caps] h K:=by
  refine call_ContF4 (by simp) ?_
  simp [qAk,qAn,qAl,qAh,qAg,qAe,qAb,qAd,qAa,qAi,qAf,qAc,qAs,qAu,resV,retV,qAm,qAj,qAr,qAq,qAp,qAo,qQi];refine IdxF4_call hc hl hf fun k hkk=>?_
  rw [← hkk] at hk;simp [qAk,qAn,qAl,qAh,qAg,qAe,qAb,qAd,qAa,qAi,qAf,qAc,qAs,qAu,resV,retV,qAm,qAj,qAr,qAq,qAp,qAo,callK_def];exact hk
theorem callAny1:qCg prog 91=true:=by kernel_rfl
theorem qEq {S:Nat} {x:Int}:x∈qCc S↔∃ t:Nat,x=(t:Int)∧t < 64∧S.testBit t=true:=by
  unfold qCc;simp only [List.mem_map,List.mem_filter,List.mem_range];constructor
  . rintro ⟨t,⟨h1,h2⟩,rfl⟩; exact ⟨t,rfl,h1,h2⟩
  . rintro ⟨t,rfl,h1,h2⟩; exact ⟨t,⟨h1,h2⟩,rfl⟩
theorem bitsI_len (S:Nat):(qCc S).length≤64:=by
  unfold qCc;rw [List.length_map];exact Nat.le_trans (List.length_filter_le _ _) (by simp)
set_option maxHeartbeats 1000000 in
theorem lfAny_call {F:FuncId} {first caps:Array Value} {g:Int→Bool} {code:List Ins} {b hd B:Nat} (G:RgB h b code hd B) (hB:B < big) (hbl:∀ t,B.testBit t=true→t < code.length) (hc:qCg prog F=true)
    (hf:∀ (rs:List Ob) (t:Nat) (c:Ins) (K:Value→Heap→Prop),code[t]?=some c→B.testBit t=true→K (vB (g t)) (h++rs)→qBl prog F (first.toList++(vI t :: .agg (vIns c).toArray :: caps.toList)) (h++rs) K)
    (hk:∀ rs,K (vB ((qCc B).any g)) (h++rs)) :
    qBl prog 47 [ptr b,.func (.func F) first caps] h K:=by
  refine call_lfAny (by simp) ?_
  have hlim:lim=1048576:=rfl;have hcf:cellsOf (.func (.func F) first caps)=some [.func (.func F) first caps]:=rfl
  have G2:=fun rs=>G.ext rs
  simp [-qAt,qAk,qAn,qAl,qAh,qAg,qAe,qAb,qAd,qAa,qAi,qAf,qAc,qAs,qAu,resV,retV,qAm,qAj,qAr,qAq,qAp,qAo,qRp,hcf,(G2 _).c2];refine bList_call hB ?_;simp [-qAt,qAk,qAn,qAl,qAh,qAg,qAe,qAb,qAd,qAa,qAi,qAf,qAc,qAs,qAu,resV,retV,qAm,qAj,qAr,qAq,qAp,qAo,callK_def];refine ContF1_call (g:=g) callAny1 (by have:=bitsI_len B; omega) (fun x K hx hK=>?_) ?_
  . obtain ⟨t,rfl,ht,hbit⟩:=qEq.1 hx
    have htl:=hbl t hbit;have htI:(t:Int) < code.length:=by omega
    obtain ⟨c,hcc⟩:∃ c,code[t]?=some c:=⟨_,List.getElem?_eq_getElem htl⟩;refine call_lfAny1 (by simp) ?_
    simp [-qAt,qAk,qAn,qAl,qAh,qAg,qAe,qAb,qAd,qAa,qAi,qAf,qAc,qAs,qAu,resV,retV,qAm,qAj,qAr,qAq,qAp,qAo,qPx,(G2 _).c0,htI,hcc,-qAy,qAw,qAv,qAx,qBa,wN_0,wN_1,wN_2,wN_3];rw [qDn (f:=F) (first:=first) (caps:=caps) (by simp) hc]
    simp [-qAt,qAk,qAn,qAl,qAh,qAg,qAe,qAb,qAd,qAa,qAi,qAf,qAc,qAs,qAu,resV,retV,qAm,qAj,qAr,qAq,qAp,qAo];refine hf _ t c _ hcc hbit ?_;simp [qAk,qAn,qAl,qAh,qAg,qAe,qAb,qAd,qAa,qAi,qAf,qAc,qAs,qAu,resV,retV,qAm,qAj,qAr,qAq,qAp,qAo,callK_def];exact hK
  . simp [qAk,qAn,qAl,qAh,qAg,qAe,qAb,qAd,qAa,qAi,qAf,qAc,qAs,qAu,resV,retV,qAm,qAj,qAr,qAq,qAp,qAo,callK_def]
    exact hk _
end
end Pm

/- Loads qGm of loops: whether the load at a place may go qGm, walked.
   No condition: plain lemmas. -/

namespace Pm
set_option linter.unusedSimpArgs false
set_option linter.unusedVariables false
open Go Am
open Go.Proofs.Tryz (prog)

def oddB (x:Ins) (i:Nat) (k:Int) (y:Ins):Bool:=!qFz y.op || (decide (y.op=8) && decide (y.a=x.b)) || (decide (k≠(i:Int)) && hasB (qGg y) x.a)
section
variable {h : Heap} {K : Value → Heap → Prop}
set_option maxHeartbeats 1000000 in
theorem lfMay1_call {x y:Ins} {k:Int} {i xb ib:Nat} (hA:h.cell? xb 1 0=some (vI x.a)) (hB:h.cell? xb 2 0=some (vI x.b)) (hi:h.cell? ib 0 0=some (vI i)) (hxl:xb < h.length) (hil:ib < h.length) (ho:y.op≤255)
    (hk:∀ rs,K (vB (oddB x i k y)) (h++rs)) :
    qBl prog 48 [vI k,.agg (vIns y).toArray,ptr xb,ptr ib] h K:=by
  refine call_lfMay1 (by simp) ?_
  have e:∀ (b c:Nat) (rs:List Ob),b < h.length→(h++rs).cell? b c 0=h.cell? b c 0:=fun b c rs hb=>qDb (List.getElem?_append_left hb)
  have eA:=fun rs=>(e xb 1 rs hxl).trans hA
  have eB:=fun rs=>(e xb 2 rs hxl).trans hB
  have eI:=fun rs=>(e ib 0 rs hil).trans hi
  simp [-qAt,qAk,qAn,qAl,qAh,qAg,qAe,qAb,qAd,qAa,qAi,qAf,qAc,qAs,qAu,resV,retV,qAm,qAj,qAr,qAq,qAp,qAo,qPv,-qAy,qAw,qAv,qAx,qBa,wN_0,wN_1,wN_2,wN_3];refine lfQuiet_call ho ?_;unfold oddB at hk;cases hq:qFz y.op with
  | false =>
    simp only [hq] at hk;simp [qAk,qAn,qAl,qAh,qAg,qAe,qAb,qAd,qAa,qAi,qAf,qAc,qAs,qAu,resV,retV,qAm,qAj,qAr,qAq,qAp,qAo,callK_def];exact hk _
  | true =>
    simp only [hq] at hk
    by_cases h8:y.op=8
    . by_cases hab:y.a=x.b
      . simp only [h8,hab] at hk
        simp [qAk,qAn,qAl,qAh,qAg,qAe,qAb,qAd,qAa,qAi,qAf,qAc,qAs,qAu,resV,retV,qAm,qAj,qAr,qAq,qAp,qAo,callK_def,eA,eB,eI,h8,hab,-qAy,qAw,qAv,qAx,qBa,wN_0,wN_1,wN_2,wN_3];exact hk _
      . by_cases hki:k=(i:Int)
        . simp [h8,hab,hki] at hk
          simp [qAk,qAn,qAl,qAh,qAg,qAe,qAb,qAd,qAa,qAi,qAf,qAc,qAs,qAu,resV,retV,qAm,qAj,qAr,qAq,qAp,qAo,callK_def,eA,eB,eI,h8,hab,hki,-qAy,qAw,qAv,qAx,qBa,wN_0,wN_1,wN_2,wN_3];exact hk _
        . simp [h8,hab,hki] at hk
          simp [qAk,qAn,qAl,qAh,qAg,qAe,qAb,qAd,qAa,qAi,qAf,qAc,qAs,qAu,resV,retV,qAm,qAj,qAr,qAq,qAp,qAo,callK_def,eA,eB,eI,h8,hab,hki,-qAy,qAw,qAv,qAx,qBa,wN_0,wN_1,wN_2,wN_3];refine irSets_call ho ?_;simp [qAk,qAn,qAl,qAh,qAg,qAe,qAb,qAd,qAa,qAi,qAf,qAc,qAs,qAu,resV,retV,qAm,qAj,qAr,qAq,qAp,qAo,callK_def,eA,eB,eI,h8,hab,hki,-qAy,qAw,qAv,qAx,qBa,wN_0,wN_1,wN_2,wN_3];refine qFg (qMj _) ?_;simp [qAk,qAn,qAl,qAh,qAg,qAe,qAb,qAd,qAa,qAi,qAf,qAc,qAs,qAu,resV,retV,qAm,qAj,qAr,qAq,qAp,qAo,callK_def,eA,eB,eI,h8,hab,hki,-qAy,qAw,qAv,qAx,qBa,wN_0,wN_1,wN_2,wN_3]
          exact hk _
    . have i8:¬ (y.op:Int)=8:=by omega
      by_cases hki:k=(i:Int)
      . simp [h8,hki] at hk
        simp [qAk,qAn,qAl,qAh,qAg,qAe,qAb,qAd,qAa,qAi,qAf,qAc,qAs,qAu,resV,retV,qAm,qAj,qAr,qAq,qAp,qAo,callK_def,eA,eB,eI,h8,i8,hki,-qAy,qAw,qAv,qAx,qBa,wN_0,wN_1,wN_2,wN_3];exact hk _
      . simp [h8,hki] at hk
        simp [qAk,qAn,qAl,qAh,qAg,qAe,qAb,qAd,qAa,qAi,qAf,qAc,qAs,qAu,resV,retV,qAm,qAj,qAr,qAq,qAp,qAo,callK_def,eA,eB,eI,h8,i8,hki,-qAy,qAw,qAv,qAx,qBa,wN_0,wN_1,wN_2,wN_3];refine irSets_call ho ?_;simp [qAk,qAn,qAl,qAh,qAg,qAe,qAb,qAd,qAa,qAi,qAf,qAc,qAs,qAu,resV,retV,qAm,qAj,qAr,qAq,qAp,qAo,callK_def,eA,eB,eI,h8,i8,hki,-qAy,qAw,qAv,qAx,qBa,wN_0,wN_1,wN_2,wN_3];refine qFg (qMj _) ?_;simp [qAk,qAn,qAl,qAh,qAg,qAe,qAb,qAd,qAa,qAi,qAf,qAc,qAs,qAu,resV,retV,qAm,qAj,qAr,qAq,qAp,qAo,callK_def,eA,eB,eI,h8,i8,hki,-qAy,qAw,qAv,qAx,qBa,wN_0,wN_1,wN_2,wN_3]
        exact hk _
theorem callMay1:qCg prog 48=true:=by kernel_rfl
theorem callMay2:qCg prog 53=true:=by kernel_rfl
theorem lfMay2_call {x y:Ins} {xb:Nat} (hA:h.cell? xb 1 0=some (vI x.a)) (hxl:xb < h.length) (ho:y.op≤255) (hk:∀ rs,K (vB (hasB (qEj y) x.a)) (h++rs)) :
    qBl prog 53 [.agg (vIns y).toArray,ptr xb] h K:=by
  refine call_lfMay2 (by simp) ?_
  have e:∀ (b c:Nat) (rs:List Ob),b < h.length→(h++rs).cell? b c 0=h.cell? b c 0:=fun b c rs hb=>qDb (List.getElem?_append_left hb)
  have eA:=fun rs=>(e xb 1 rs hxl).trans hA
  simp [-qAt,qAk,qAn,qAl,qAh,qAg,qAe,qAb,qAd,qAa,qAi,qAf,qAc,qAs,qAu,resV,retV,qAm,qAj,qAr,qAq,qAp,qAo,qPu,eA,-qAy,qAw,qAv,qAx,qBa,wN_0,wN_1,wN_2,wN_3];refine irUses_call ho ?_;simp [qAk,qAn,qAl,qAh,qAg,qAe,qAb,qAd,qAa,qAi,qAf,qAc,qAs,qAu,resV,retV,qAm,qAj,qAr,qAq,qAp,qAo,callK_def,eA,-qAy,qAw,qAv,qAx,qBa,wN_0,wN_1,wN_2,wN_3];refine qFg (qMh _) ?_;simp [qAk,qAn,qAl,qAh,qAg,qAe,qAb,qAd,qAa,qAi,qAf,qAc,qAs,qAu,resV,retV,qAm,qAj,qAr,qAq,qAp,qAo,callK_def,eA,-qAy,qAw,qAv,qAx,qBa,wN_0,wN_1,wN_2,wN_3]
  exact hk _
theorem qBl.dropB {f:FuncId} {args:List Value} {b:Bool} (k:∀ K':Value→Heap→Prop,(∀ rs,K' (vB b) (h++rs))→qBl prog f args h K') (hk:K (vB b) h):qBl prog f args h K :=
  qBl.forget (k _ fun rs=>⟨⟨rs,rfl⟩,vB b,.cell rfl,hk⟩)
def qJp (code:List Ins) (x:Ins) (i:Nat) (k:Int):Bool:=match code[k.toNat]? with | some y=>oddB x i k y | none=>false
def mayB (code:List Ins) (hd B i:Nat) (x:Ins):Bool :=
  decide (x.op=7) && decide (hd≤i) && decide (qJj (qCr code code.length) i=hd) && !qFj code hd B &&
  !((qCc B).any (qJp code x i)) && !(((code.drop hd).take (i - hd)).any fun y=>hasB (qEj y) x.a)
set_option maxHeartbeats 4000000 in
theorem lfMay_call {code:List Ins} {b hd B i:Nat} {x:Ins} (G:RgB h b code hd B) (hB:B < big) (hbl:∀ t,B.testBit t=true→t < code.length) (hh:hd≤code.length) (hl:code.length < lim) (ho:∀ c∈code,c.op≤255)
    (hx:code[i]?=some x) (hk:∀ rs,K (vB (mayB code hd B i x)) (h++rs)) :
    qBl prog 21 [ptr b,vI i] h K:=by
  refine call_lfMay (by simp) ?_
  have hlim:lim=1048576:=rfl;have hil:i < code.length:=(List.getElem?_eq_some_iff.1 hx).1;have hiI:(i:Int) < code.length:=by omega
  have G2:=fun rs=>G.ext rs
  have eI:∀ rs:List Ob,(h++[bx [Value.int IntKind.i64 i] 1,bx (vIns x) 4]++rs).cell? h.length 0 0=some (vI i):=fun rs=>by
    simp only [List.append_assoc,List.cons_append,List.nil_append];simp [qAk,qAn,qAl,qAh,qAg,qAe,qAb,qAd,qAa,qAi,qAf,qAc,qAs,qAu,resV,retV,qAm,qAj,qAr,qAq,qAp,qAo,-qAy,qAw,qAv,qAx,qBa,wN_0,wN_1,wN_2,wN_3]
  have eA:∀ rs:List Ob,(h++[bx [Value.int IntKind.i64 i] 1,bx (vIns x) 4]++rs).cell? (h.length+1) 1 0=some (vI x.a):=fun rs=>by
    simp only [List.append_assoc,List.cons_append,List.nil_append];simp [qAk,qAn,qAl,qAh,qAg,qAe,qAb,qAd,qAa,qAi,qAf,qAc,qAs,qAu,resV,retV,qAm,qAj,qAr,qAq,qAp,qAo,-qAy,qAw,qAv,qAx,qBa,wN_0,wN_1,wN_2,wN_3]
  have eB:∀ rs:List Ob,(h++[bx [Value.int IntKind.i64 i] 1,bx (vIns x) 4]++rs).cell? (h.length+1) 2 0=some (vI x.b):=fun rs=>by
    simp only [List.append_assoc,List.cons_append,List.nil_append];simp [qAk,qAn,qAl,qAh,qAg,qAe,qAb,qAd,qAa,qAi,qAf,qAc,qAs,qAu,resV,retV,qAm,qAj,qAr,qAq,qAp,qAo,-qAy,qAw,qAv,qAx,qBa,wN_0,wN_1,wN_2,wN_3]
  by_cases h7:x.op=7
  . by_cases hdi:hd≤i
    . have ndi:¬ i < hd:=by omega
      simp [qAk,qAn,qAl,qAh,qAg,qAe,qAb,qAd,qAa,qAi,qAf,qAc,qAs,qAu,resV,retV,qAm,qAj,qAr,qAq,qAp,qAo,qNp,(G2 _).c0,(G2 _).c1,hiI,hx,h7,ndi,-qAy,qAw,qAv,qAx,qBa,wN_0,wN_1,wN_2,wN_3];refine sgHead_call hl hil ho ?_
      by_cases hr:qJj (qCr code code.length) i=hd
      . simp [qAk,qAn,qAl,qAh,qAg,qAe,qAb,qAd,qAa,qAi,qAf,qAc,qAs,qAu,resV,retV,qAm,qAj,qAr,qAq,qAp,qAo,callK_def,(G2 _).c0,(G2 _).c1,hr]
        refine lfClosed_call (G2 _) hB (by omega) hl hh ?_
        cases hcl:qFj code hd B with
        | true =>
          have e:mayB code hd B i x=false:=by unfold mayB; simp [hcl]
          rw [e] at hk;simp [qAk,qAn,qAl,qAh,qAg,qAe,qAb,qAd,qAa,qAi,qAf,qAc,qAs,qAu,resV,retV,qAm,qAj,qAr,qAq,qAp,qAo,callK_def];exact hk _
        | false =>
          simp [qAk,qAn,qAl,qAh,qAg,qAe,qAb,qAd,qAa,qAi,qAf,qAc,qAs,qAu,resV,retV,qAm,qAj,qAr,qAq,qAp,qAo,callK_def];refine lfAny_call (g:=qJp code x i) (G2 _) hB hbl callMay1 (fun rs t c K' hc hb hK=>?_) fun rs=>?_
          . refine qBl.dropB (b:=oddB x i t c) (fun K2 hk2=>?_) (by simpa [qJp,hc] using hK)
            refine lfMay1_call (eA _) (eB _) (eI _) (by simp) (by simp) (ho c (List.mem_of_getElem? hc)) hk2
          . cases han:(qCc B).any (qJp code x i) with
            | true =>
              have e:mayB code hd B i x=false:=by unfold mayB; simp only [han]; simp
              rw [e] at hk;simp [qAk,qAn,qAl,qAh,qAg,qAe,qAb,qAd,qAa,qAi,qAf,qAc,qAs,qAu,resV,retV,qAm,qAj,qAr,qAq,qAp,qAo,callK_def];exact hk _
            | false =>
              have e:mayB code hd B i x=!(((code.drop hd).take (i - hd)).any fun y=>hasB (qEj y) x.a):=by unfold mayB; simp only [han]; simp [h7,hdi,hr,hcl]
              rw [e] at hk;have hile:i≤code.length:=by omega
              simp [qAk,qAn,qAl,qAh,qAg,qAe,qAb,qAd,qAa,qAi,qAf,qAc,qAs,qAu,resV,retV,qAm,qAj,qAr,qAq,qAp,qAo,callK_def,(G2 _).c0,(G2 _).c1,hile,hdi];refine ContF4_call (g:=fun y=>hasB (qEj y) x.a) callMay2 (by rw [List.length_take,List.length_drop]; omega) (fun y K' hy hK=>?_) ?_
              . refine qBl.dropB (b:=hasB (qEj y) x.a) (fun K2 hk2=>?_) hK
                exact lfMay2_call (by simpa using eA rs) (by simp) (ho y (List.mem_of_mem_drop (List.mem_of_mem_take hy))) hk2
              . simp [qAk,qAn,qAl,qAh,qAg,qAe,qAb,qAd,qAa,qAi,qAf,qAc,qAs,qAu,resV,retV,qAm,qAj,qAr,qAq,qAp,qAo,callK_def]
                exact hk _
      . have e:mayB code hd B i x=false:=by unfold mayB; simp [hr]
        rw [e] at hk;have hrI:¬ (qJj (qCr code code.length) i:Int)=hd:=by omega
        simp [qAk,qAn,qAl,qAh,qAg,qAe,qAb,qAd,qAa,qAi,qAf,qAc,qAs,qAu,resV,retV,qAm,qAj,qAr,qAq,qAp,qAo,callK_def,(G2 _).c0,(G2 _).c1,hr,hrI];exact hk _
    . have ndi:i < hd:=by omega
      have e:mayB code hd B i x=false:=by unfold mayB; simp [hdi]
      rw [e] at hk;simp [qAk,qAn,qAl,qAh,qAg,qAe,qAb,qAd,qAa,qAi,qAf,qAc,qAs,qAu,resV,retV,qAm,qAj,qAr,qAq,qAp,qAo,qNp,(G2 _).c0,(G2 _).c1,hiI,hx,h7,ndi,-qAy,qAw,qAv,qAx,qBa,wN_0,wN_1,wN_2,wN_3];exact hk _
  . have i7:¬ (x.op:Int)=7:=by omega
    have e:mayB code hd B i x=false:=by unfold mayB; simp [h7]
    rw [e] at hk;simp [qAk,qAn,qAl,qAh,qAg,qAe,qAb,qAd,qAa,qAi,qAf,qAc,qAs,qAu,resV,retV,qAm,qAj,qAr,qAq,qAp,qAo,qNp,(G2 _).c0,(G2 _).c1,hiI,hx,h7,i7,-qAy,qAw,qAv,qAx,qBa,wN_0,wN_1,wN_2,wN_3];exact hk _
end
end Pm

/- Loads qGm of loops: where one goes, when there is one more at the head, walked.
   No condition: plain lemmas. -/

namespace Pm
set_option linter.unusedSimpArgs false
set_option linter.unusedVariables false
open Go Am
open Go.Proofs.Tryz (prog)

def toI (hd B:Nat) (i t:Int):Int:=if (hd:Int) < t∨t=hd∧hasB B i=true then IntKind.i64.wrap (t+1) else t
def qFl (hd B:Nat) (i:Int) (x:Ins):Ins:=if x.op=10 then { x with a:=toI hd B i x.a } else if x.op=11 then { x with b:=toI hd B i x.b } else x
section
variable {h : Heap} {K : Value → Heap → Prop}
theorem callMoved1:qCg prog 95=true:=by kernel_rfl
theorem lfMoved1_call {code:List Ins} {b hd B rb ib:Nat} {i t:Int} (G:RgB h b code hd B) (hB:B < big) (hr:h.cell? rb 0 0=some (ptr b)) (hi:h.cell? ib 0 0=some (vI i)) (hk:K (vI (toI hd B i t)) h) :
    qBl prog 95 [vI t,ptr rb,ptr ib] h K:=by
  refine call_lfMoved1 (by simp) ?_
  unfold toI at hk
  by_cases h1:(hd:Int) < t
  . rw [if_pos (.inl h1)] at hk
    simp [qAk,qAn,qAl,qAh,qAg,qAe,qAb,qAd,qAa,qAi,qAf,qAc,qAs,qAu,resV,retV,qAm,qAj,qAr,qAq,qAp,qAo,qFv,hr,G.c1,h1];exact hk
  . by_cases h2:t=hd
    . subst h2
      cases hb:hasB B i with
      | true =>
        rw [if_pos (.inr ⟨rfl,hb⟩)] at hk;simp [qAk,qAn,qAl,qAh,qAg,qAe,qAb,qAd,qAa,qAi,qAf,qAc,qAs,qAu,resV,retV,qAm,qAj,qAr,qAq,qAp,qAo,qFv,hr,hi,G.c1,G.c2,h1];refine qFg hB ?_;simp [qAk,qAn,qAl,qAh,qAg,qAe,qAb,qAd,qAa,qAi,qAf,qAc,qAs,qAu,resV,retV,qAm,qAj,qAr,qAq,qAp,qAo,callK_def,hb];exact hk
      | false =>
        rw [if_neg (by simp [hb])] at hk
        simp [qAk,qAn,qAl,qAh,qAg,qAe,qAb,qAd,qAa,qAi,qAf,qAc,qAs,qAu,resV,retV,qAm,qAj,qAr,qAq,qAp,qAo,qFv,hr,hi,G.c1,G.c2,h1];refine qFg hB ?_;simp [qAk,qAn,qAl,qAh,qAg,qAe,qAb,qAd,qAa,qAi,qAf,qAc,qAs,qAu,resV,retV,qAm,qAj,qAr,qAq,qAp,qAo,callK_def,hb];exact hk
    . rw [if_neg (by simp [h1,h2])] at hk
      simp [qAk,qAn,qAl,qAh,qAg,qAe,qAb,qAd,qAa,qAi,qAf,qAc,qAs,qAu,resV,retV,qAm,qAj,qAr,qAq,qAp,qAo,qFv,hr,hi,G.c1,G.c2,h1,h2];exact hk
set_option maxHeartbeats 2000000 in
theorem lfMoved_call {code:List Ins} {b hd B:Nat} {i:Int} {x:Ins} (G:RgB h b code hd B) (hB:B < big) (hk:∀ rs,K (.agg (vIns (qFl hd B i x)).toArray) (h++rs)) :
    qBl prog 55 [ptr b,vI i,.agg (vIns x).toArray] h K:=by
  refine call_lfMoved (by simp) ?_
  have ex:vIns x=[v8 x.op,vI x.a,vI x.b,vI x.c]:=rfl;unfold qFl at hk
  by_cases h10:x.op=10
  . rw [if_pos h10,h10] at hk
    rw [h10] at ex;rw [ex];simp [qAk,qAn,qAl,qAh,qAg,qAe,qAb,qAd,qAa,qAi,qAf,qAc,qAs,qAu,resV,retV,qAm,qAj,qAr,qAq,qAp,qAo,qIh];rw [qDn (f:=95) (first:=#[]) (caps:=#[ptr h.length,ptr (h.length+1)]) (by simp) callMoved1]
    simp [qAk,qAn,qAl,qAh,qAg,qAe,qAb,qAd,qAa,qAi,qAf,qAc,qAs,qAu,resV,retV,qAm,qAj,qAr,qAq,qAp,qAo];refine lfMoved1_call (i:=i) (G.ext _) hB ?_ ?_ ?_
    . simp [qAk,qAn,qAl,qAh,qAg,qAe,qAb,qAd,qAa,qAi,qAf,qAc,qAs,qAu,resV,retV,qAm,qAj,qAr,qAq,qAp,qAo]
    . simp [qAk,qAn,qAl,qAh,qAg,qAe,qAb,qAd,qAa,qAi,qAf,qAc,qAs,qAu,resV,retV,qAm,qAj,qAr,qAq,qAp,qAo]
    . simp [qAk,qAn,qAl,qAh,qAg,qAe,qAb,qAd,qAa,qAi,qAf,qAc,qAs,qAu,resV,retV,qAm,qAj,qAr,qAq,qAp,qAo,callK_def]
      exact hk _
  . have i10:¬ (x.op:Int)=10:=by omega
    rw [if_neg h10] at hk
    by_cases h11:x.op=11
    . rw [if_pos h11,h11] at hk
      rw [h11] at ex;rw [ex];simp [qAk,qAn,qAl,qAh,qAg,qAe,qAb,qAd,qAa,qAi,qAf,qAc,qAs,qAu,resV,retV,qAm,qAj,qAr,qAq,qAp,qAo,qIh];rw [qDn (f:=95) (first:=#[]) (caps:=#[ptr h.length,ptr (h.length+1)]) (by simp) callMoved1]
      simp [qAk,qAn,qAl,qAh,qAg,qAe,qAb,qAd,qAa,qAi,qAf,qAc,qAs,qAu,resV,retV,qAm,qAj,qAr,qAq,qAp,qAo];refine lfMoved1_call (i:=i) (G.ext _) hB ?_ ?_ ?_
      . simp [qAk,qAn,qAl,qAh,qAg,qAe,qAb,qAd,qAa,qAi,qAf,qAc,qAs,qAu,resV,retV,qAm,qAj,qAr,qAq,qAp,qAo]
      . simp [qAk,qAn,qAl,qAh,qAg,qAe,qAb,qAd,qAa,qAi,qAf,qAc,qAs,qAu,resV,retV,qAm,qAj,qAr,qAq,qAp,qAo]
      . simp [qAk,qAn,qAl,qAh,qAg,qAe,qAb,qAd,qAa,qAi,qAf,qAc,qAs,qAu,resV,retV,qAm,qAj,qAr,qAq,qAp,qAo,callK_def]
        exact hk _
    . have i11:¬ (x.op:Int)=11:=by omega
      rw [if_neg h11] at hk;rw [ex] at hk ⊢;simp [qAk,qAn,qAl,qAh,qAg,qAe,qAb,qAd,qAa,qAi,qAf,qAc,qAs,qAu,resV,retV,qAm,qAj,qAr,qAq,qAp,qAo,qIh,h10,i10,h11,i11];exact hk _
end
end Pm
