/- What is in order, of a run: small functions.
   No condition: plain lemmas. -/

import Derived.Test.YtmdnkninbkcmkaaDoorZUPmRun14
import Derived.Test.YtmdnkninbkcmkaaDoorZUPmCfgC
import Derived.Test.YtmdnkninbkcmkaaDoorZUPmFlow1
namespace Pm
set_option linter.unusedSimpArgs false
set_option linter.unusedVariables false
open Go Am
open Go.Proofs.Tryd (prog)

def qIw (e:Ev):Bool:=(decide (e.op=21) || decide (e.op=22)) && decide (e.mode=1)
def qMt (o:Int) (e:Ev):Bool:=decide (e.op=20) && decide (e.obj=o)
def qNa (o:Int) (e:Ev):Bool:=qIw e && decide (e.obj=o)
def qOu (p:Prog) (o:Int):Int:=if 0≤o∧o < p.chans.length then gI p.chans o else 0
def qFl (e:Ev):Bool:=decide (e.op=7) || decide (e.op=8)
def qFq (a b:Ev):Bool:=(qFl a && qFl b) && decide (a.obj=b.obj) && decide (a.thread≠b.thread) && (decide (a.op=8) || decide (b.op=8))
section
variable {h : Heap} {K : Value → Heap → Prop}
theorem qKk {e:Ev} (hk:K (vB (qIw e)) h):qBn prog 71 [.agg (vEv e).toArray] h K:=by
  refine Pure.go (Pure.one (p:=vB (qIw e)) rfl fun h=>?_) hk
  refine call_r7taking (by simp) ?_
  unfold qIw
  by_cases h1:e.op=21
  . simp [qAl,qAo,qAm,qAi,qAf,qAe,qAb,qAc,qAa,qAj,qAg,qAd,qAu,qAv,resV,retV,qAn,qAh,qAs,qAr,qAq,qAp,qJz,-qAk,qAt,qBa,qAz,vE_0,vE_1,vE_2,vE_3,vE_4,vE_5,h1]
  . have h1':¬ (e.op:Int)=21:=by omega
    by_cases h2:e.op=22
    . simp [qAl,qAo,qAm,qAi,qAf,qAe,qAb,qAc,qAa,qAj,qAg,qAd,qAu,qAv,resV,retV,qAn,qAh,qAs,qAr,qAq,qAp,qJz,-qAk,qAt,qBa,qAz,vE_0,vE_1,vE_2,vE_3,vE_4,vE_5,h1,h2]
    . have h2':¬ (e.op:Int)=22:=by omega
      simp [qAl,qAo,qAm,qAi,qAf,qAe,qAb,qAc,qAa,qAj,qAg,qAd,qAu,qAv,resV,retV,qAn,qAh,qAs,qAr,qAq,qAp,qJz,-qAk,qAt,qBa,qAz,vE_0,vE_1,vE_2,vE_3,vE_4,vE_5,h1,h2,h1',h2']
theorem r7room_call {p:Prog} {o:Int} (hk:K (vI (qOu p o)) h):qBn prog 74 [.agg (qCs p).toArray,vI o] h K:=by
  refine Pure.go (Pure.one (p:=vI (qOu p o)) rfl fun h=>?_) hk
  refine call_r7room (by simp) ?_
  by_cases h0:o < 0
  . have e:qOu p o=0:=by unfold qOu; rw [if_neg (by omega)]
    rw [e];simp [qAl,qAo,qAm,qAi,qAf,qAe,qAb,qAc,qAa,qAj,qAg,qAd,qAu,qAv,resV,retV,qAn,qAh,qAs,qAr,qAq,qAp,qOe,qCs,h0]
  . by_cases h1:(p.chans.length:Int)≤o
    . have e:qOu p o=0:=by unfold qOu; rw [if_neg (by omega)]
      rw [e];simp [qAl,qAo,qAm,qAi,qAf,qAe,qAb,qAc,qAa,qAj,qAg,qAd,qAu,qAv,resV,retV,qAn,qAh,qAs,qAr,qAq,qAp,qOe,qCs,h0,h1]
    . obtain ⟨A,rfl,hA1,hA,hA2⟩:=qFo (l:=p.chans) (x:=o) (by omega) (by omega)
      have e:qOu p A=gI p.chans A:=by unfold qOu; rw [if_pos ⟨by omega,hA1⟩]
      rw [e];simp [qAl,qAo,qAm,qAi,qAf,qAe,qAb,qAc,qAa,qAj,qAg,qAd,qAu,qAv,resV,retV,qAn,qAh,qAs,qAr,qAq,qAp,qOe,qCs,h0,h1,hA1,hA2]
theorem r8Conflict_call {a b:Ev} (hk:K (vB (qFq a b)) h):qBn prog 37 [.agg (vEv a).toArray,.agg (vEv b).toArray] h K:=by
  refine Pure.go (Pure.one (p:=vB (qFq a b)) rfl fun h=>?_) hk
  refine call_r8Conflict (by simp) ?_
  have c8:∀ n:Nat,((n:Int)=8)=(n=8):=fun n=>by simp only [eq_iff_iff]; omega
  have c7:∀ n:Nat,((n:Int)=7)=(n=7):=fun n=>by simp only [eq_iff_iff]; omega
  have e1:qFl a=true∨qFl a=false:=by cases qFl a<;>simp
  by_cases a7:a.op=7<;>by_cases a8:a.op=8<;>by_cases b7:b.op=7<;>by_cases b8:b.op=8 <;>
    first
    | omega
    | (by_cases ho:a.obj=b.obj<;>by_cases ht:a.thread=b.thread<;>(unfold qFq qFl; simp [qAl,qAo,qAm,qAi,qAf,qAe,qAb,qAc,qAa,qAj,qAg,qAd,qAu,qAv,resV,retV,qAn,qAh,qAs,qAr,qAq,qAp,qLv,-qAk,qAt,qBa,qAz,vE_0,vE_1,vE_2,vE_3,vE_4,vE_5,c7,c8,a7,a8,b7,b8,ho,ht]))
end
end Pm

/- What is in order, of a run: what is counted.
   No condition: plain lemmas. -/

namespace Pm
set_option linter.unusedSimpArgs false
set_option linter.unusedVariables false
open Go Am
open Go.Proofs.Tryd (prog)

def cntE (f:Ev→Bool) (t:List Ev) (n:Nat):Nat:=(t.take n).countP f
theorem cntE_le {f:Ev→Bool} {t:List Ev} {n:Nat}:cntE f t n≤n:=by
  unfold cntE;exact Nat.le_trans List.countP_le_length (by simp; omega)
theorem cntE_next {f:Ev→Bool} {t:List Ev} {i i1:Nat} {e:Ev} (hc:t[i]?=some e) (hi:i1=i+1):cntE f t i1=cntE f t i+if f e then 1 else 0:=by
  unfold cntE;rw [take_snoc' hc hi,List.countP_append];cases h:f e<;>simp [h]
theorem sendE_op {o:Int} {e:Ev} (h:¬ e.op=20):qMt o e=false:=by simp [qMt,h]
section
variable {h : Heap} {K : Value → Heap → Prop}
theorem r7sends_call {t:List Ev} {o:Int} {n:Nat} (ht:t.length < lim) (hn:n≤t.length) (hk:K (vI (cntE (qMt o) t n)) h):qBn prog 72 [vM 6 vEv t,vI o,vI n] h K:=by
  refine call_r7sends (by simp) ?_
  have hlim:lim=1048576:=rfl;simp [-qAy,qAl,qAo,qAm,qAi,qAf,qAe,qAb,qAc,qAa,qAj,qAg,qAd,qAu,qAv,resV,retV,qAn,qAh,qAs,qAr,qAq,qAp,qRn];rw [qAy];simp [-qAy,qAl,qAo,qAm,qAi,qAf,qAe,qAb,qAc,qAa,qAj,qAg,qAd,qAu,qAv,resV,retV,qAn,qAh,qAs,qAr,qAq,qAp];refine qEa (σ:=Nat) (fun i=>[(0,vM 6 vEv t),(1,vI o),(2,vI n),(7,vI (cntE (qMt o) t i)),(8,vI i)]) (fun _=>h) (fun i=>i≤n) (fun i=>n - i) 0 (by simp [cntE]) rfl (by simp) ?_
  intro i fr hi
  by_cases hlt:i < n
  . obtain ⟨i1,hi1,wi⟩:=qBm (show i < lim by omega)
    obtain ⟨e,he⟩:∃ e,t[i]?=some e:=⟨_,List.getElem?_eq_getElem (by omega)⟩
    have hif:(i:Int) < n:=by omega
    have hx:=cntE_next (f:=qMt o) he hi1;have hml:cntE (qMt o) t i≤i:=cntE_le;obtain ⟨m,hm⟩:∃ m,m=cntE (qMt o) t i:=⟨_,rfl⟩;rw [← hm] at hx hml ⊢;obtain ⟨m1,hm1,wm⟩:=qBm (show m < lim by omega)
    have hg2:∀ hh,(vEv e)[2]'hh=v8 e.op:=fun _=>rfl
    have hg3:∀ hh,(vEv e)[3]'hh=vI e.obj:=fun _=>rfl
    rw [qAy];simp [-qAy,qAl,qAo,qAm,qAi,qAf,qAe,qAb,qAc,qAa,qAj,qAg,qAd,qAu,qAv,resV,retV,qAn,qAh,qAs,qAr,qAq,qAp,hif];rw [qAy]
    by_cases h0:e.op=20
    . have h0':(e.op:Int)=20:=by omega
      by_cases ho:e.obj=o
      . rw [if_pos (by simp [qMt,h0,ho]),← hm1] at hx
        simp [qAl,qAo,qAm,qAi,qAf,qAe,qAb,qAc,qAa,qAj,qAg,qAd,qAu,qAv,resV,retV,qAn,qAh,qAs,qAr,qAq,qAp,he,hg2,hg3,-qAk,qAt,qBa,qAz,vE_0,vE_1,vE_2,vE_3,vE_4,vE_5,h0,h0',ho,wi,wm];exact .go i1 (by omega) (by simp [hx]) rfl (by omega)
      . rw [if_neg (by simp [qMt,h0,ho])] at hx
        simp [qAl,qAo,qAm,qAi,qAf,qAe,qAb,qAc,qAa,qAj,qAg,qAd,qAu,qAv,resV,retV,qAn,qAh,qAs,qAr,qAq,qAp,he,hg2,hg3,-qAk,qAt,qBa,qAz,vE_0,vE_1,vE_2,vE_3,vE_4,vE_5,h0,h0',ho,wi,wm];exact .go i1 (by omega) (by simp [hx]) rfl (by omega)
    . have h0':¬ (e.op:Int)=20:=by omega
      rw [if_neg (by simp [sendE_op h0])] at hx
      simp [qAl,qAo,qAm,qAi,qAf,qAe,qAb,qAc,qAa,qAj,qAg,qAd,qAu,qAv,resV,retV,qAn,qAh,qAs,qAr,qAq,qAp,he,hg2,hg3,-qAk,qAt,qBa,qAz,vE_0,vE_1,vE_2,vE_3,vE_4,vE_5,h0,h0',wi,wm];exact .go i1 (by omega) (by simp [hx]) rfl (by omega)
  . obtain rfl:i=n:=by omega
    rw [qAy];simp [qAl,qAo,qAm,qAi,qAf,qAe,qAb,qAc,qAa,qAj,qAg,qAd,qAu,qAv,resV,retV,qAn,qAh,qAs,qAr,qAq,qAp];exact hk
theorem r7takings_call {t:List Ev} {o:Int} {n:Nat} (ht:t.length < lim) (hn:n≤t.length) (hk:K (vI (cntE (qNa o) t n)) h):qBn prog 73 [vM 6 vEv t,vI o,vI n] h K:=by
  refine call_r7takings (by simp) ?_
  have hlim:lim=1048576:=rfl;simp [-qAy,qAl,qAo,qAm,qAi,qAf,qAe,qAb,qAc,qAa,qAj,qAg,qAd,qAu,qAv,resV,retV,qAn,qAh,qAs,qAr,qAq,qAp,qNm];rw [qAy];simp [-qAy,qAl,qAo,qAm,qAi,qAf,qAe,qAb,qAc,qAa,qAj,qAg,qAd,qAu,qAv,resV,retV,qAn,qAh,qAs,qAr,qAq,qAp];refine qEa (σ:=Nat) (fun i=>[(0,vM 6 vEv t),(1,vI o),(2,vI n),(7,vI (cntE (qNa o) t i)),(8,vI i)]) (fun _=>h) (fun i=>i≤n) (fun i=>n - i) 0 (by simp [cntE]) rfl (by simp) ?_
  intro i fr hi
  by_cases hlt:i < n
  . obtain ⟨i1,hi1,wi⟩:=qBm (show i < lim by omega)
    obtain ⟨e,he⟩:∃ e,t[i]?=some e:=⟨_,List.getElem?_eq_getElem (by omega)⟩
    have hif:(i:Int) < n:=by omega
    have hx:=cntE_next (f:=qNa o) he hi1;have hml:cntE (qNa o) t i≤i:=cntE_le;obtain ⟨m,hm⟩:∃ m,m=cntE (qNa o) t i:=⟨_,rfl⟩;rw [← hm] at hx hml ⊢;obtain ⟨m1,hm1,wm⟩:=qBm (show m < lim by omega)
    have hg3:∀ hh,(vEv e)[3]'hh=vI e.obj:=fun _=>rfl
    rw [qAy];simp [-qAy,qAl,qAo,qAm,qAi,qAf,qAe,qAb,qAc,qAa,qAj,qAg,qAd,qAu,qAv,resV,retV,qAn,qAh,qAs,qAr,qAq,qAp,hif];rw [qAy];simp [-qAy,qAl,qAo,qAm,qAi,qAf,qAe,qAb,qAc,qAa,qAj,qAg,qAd,qAu,qAv,resV,retV,qAn,qAh,qAs,qAr,qAq,qAp,he,-qAk,qAt,qBa,qAz,vE_0,vE_1,vE_2,vE_3,vE_4,vE_5];refine qKk ?_;cases h0:qIw e with
    | true =>
      by_cases ho:e.obj=o
      . rw [if_pos (by simp [qNa,h0,ho]),← hm1] at hx
        simp [qAl,qAo,qAm,qAi,qAf,qAe,qAb,qAc,qAa,qAj,qAg,qAd,qAu,qAv,resV,retV,qAn,qAh,qAs,qAr,qAq,qAp,callK_def,he,hg3,-qAk,qAt,qBa,qAz,vE_0,vE_1,vE_2,vE_3,vE_4,vE_5,h0,ho,wi,wm];exact .go i1 (by omega) (by simp [hx]) rfl (by omega)
      . rw [if_neg (by simp [qNa,h0,ho])] at hx
        simp [qAl,qAo,qAm,qAi,qAf,qAe,qAb,qAc,qAa,qAj,qAg,qAd,qAu,qAv,resV,retV,qAn,qAh,qAs,qAr,qAq,qAp,callK_def,he,hg3,-qAk,qAt,qBa,qAz,vE_0,vE_1,vE_2,vE_3,vE_4,vE_5,h0,ho,wi,wm];exact .go i1 (by omega) (by simp [hx]) rfl (by omega)
    | false =>
      rw [if_neg (by simp [qNa,h0])] at hx
      simp [qAl,qAo,qAm,qAi,qAf,qAe,qAb,qAc,qAa,qAj,qAg,qAd,qAu,qAv,resV,retV,qAn,qAh,qAs,qAr,qAq,qAp,callK_def,he,hg3,-qAk,qAt,qBa,qAz,vE_0,vE_1,vE_2,vE_3,vE_4,vE_5,h0,wi,wm];exact .go i1 (by omega) (by simp [hx]) rfl (by omega)
  . obtain rfl:i=n:=by omega
    rw [qAy];simp [qAl,qAo,qAm,qAi,qAf,qAe,qAb,qAc,qAa,qAj,qAg,qAd,qAu,qAv,resV,retV,qAn,qAh,qAs,qAr,qAq,qAp];exact hk
end
end Pm

/- What is in order, of a run: is an atom written between two?
   No condition: plain lemmas. -/

namespace Pm
set_option linter.unusedSimpArgs false
set_option linter.unusedVariables false
open Go Am
open Go.Proofs.Tryd (prog)

def wrE (o:Int) (e:Ev):Bool:=(decide (e.op=18) || decide (e.op=19)) && decide (e.obj=o)
def qFb (o:Int) (t:List Ev) (i n:Nat):Bool:=((t.take n).drop (i+1)).any (wrE o)
theorem writesE_0 {o:Int} {t:List Ev} {i n:Nat} (h:n≤i+1):qFb o t i n=false:=by
  unfold qFb;rw [List.drop_eq_nil_of_le (by simp; omega)]
  rfl
theorem writesE_next {o:Int} {t:List Ev} {i k k1:Nat} {e:Ev} (hc:t[k]?=some e) (hi:k1=k+1) (hk:i+1≤k):qFb o t i k1=(qFb o t i k || wrE o e):=by
  have hl:k < t.length:=(List.getElem?_eq_some_iff.1 hc).1;unfold qFb;rw [take_snoc' hc hi,List.drop_append_of_le_length (by simp; omega),List.any_append]
  simp
theorem writesE_more {o:Int} {t:List Ev} {i n m:Nat} (h:qFb o t i n=true) (hm:n≤m):qFb o t i m=true:=by
  unfold qFb at *;rw [List.any_eq_true] at *;obtain ⟨x,hx,h2⟩:=h;refine ⟨x,?_,h2⟩;obtain ⟨j,hj⟩:=List.mem_iff_getElem?.1 hx;rw [List.getElem?_drop,List.getElem?_take] at hj
  split at hj
  . refine List.mem_iff_getElem?.2 ⟨j,?_⟩
    rw [List.getElem?_drop,List.getElem?_take,if_pos (by omega)]
    exact hj
  . cases hj
section
variable {h : Heap} {K : Value → Heap → Prop}
theorem r7writes_call {t:List Ev} {a:Ev} {i j:Nat} (ht:t.length < lim) (hij:i < j) (hj:j≤t.length) (ha:t[i]?=some a) (hk:K (vB (qFb a.obj t i j)) h):qBn prog 70 [vM 6 vEv t,vI i,vI j] h K:=by
  refine call_r7writes (by simp) ?_
  have hlim:lim=1048576:=rfl;obtain ⟨i0,hi0,wi0⟩:=qBm (show i < lim by omega)
  simp [-qAy,qAl,qAo,qAm,qAi,qAf,qAe,qAb,qAc,qAa,qAj,qAg,qAd,qAu,qAv,resV,retV,qAn,qAh,qAs,qAr,qAq,qAp,qPi];rw [qAy];simp [-qAy,qAl,qAo,qAm,qAi,qAf,qAe,qAb,qAc,qAa,qAj,qAg,qAd,qAu,qAv,resV,retV,qAn,qAh,qAs,qAr,qAq,qAp,wi0];refine qEa (σ:=Nat) (fun k=>[(0,vM 6 vEv t),(1,vI i),(2,vI j),(7,vI k)]) (fun _=>h) (fun k=>k≤j∧i0≤k∧qFb a.obj t i k=false) (fun k=>j - k) i0 (by simp) rfl ⟨by omega,by omega,writesE_0 (by omega)⟩ ?_
  rintro k fr ⟨hi,hik,hw⟩
  by_cases hlt:k < j
  . obtain ⟨k1,hk1,wk⟩:=qBm (show k < lim by omega)
    obtain ⟨e,he⟩:∃ e,t[k]?=some e:=⟨_,List.getElem?_eq_getElem (by omega)⟩
    have hif:(k:Int) < j:=by omega
    have hx:=writesE_next (o:=a.obj) he hk1 (by omega:i+1≤k)
    rw [hw,Bool.false_or] at hx;have hg2:∀ hh,(vEv e)[2]'hh=v8 e.op:=fun _=>rfl
    have hg3:∀ hh,(vEv e)[3]'hh=vI e.obj:=fun _=>rfl
    have hga:∀ hh,(vEv a)[3]'hh=vI a.obj:=fun _=>rfl
    rw [qAy];simp [-qAy,qAl,qAo,qAm,qAi,qAf,qAe,qAb,qAc,qAa,qAj,qAg,qAd,qAu,qAv,resV,retV,qAn,qAh,qAs,qAr,qAq,qAp,hif];rw [qAy]
    by_cases h18:e.op=18∨e.op=19
    . by_cases ho:e.obj=a.obj
      . have hr:wrE a.obj e=true:=by unfold wrE; rcases h18 with h1 | h1<;>simp [h1,ho]
        rw [hr] at hx;have hy:=writesE_more hx (show k1≤j by omega)
        rw [hy] at hk;rcases h18 with h1 | h1
        . have h1':(e.op:Int)=18:=by omega
          simp [qAl,qAo,qAm,qAi,qAf,qAe,qAb,qAc,qAa,qAj,qAg,qAd,qAu,qAv,resV,retV,qAn,qAh,qAs,qAr,qAq,qAp,he,ha,hg2,hg3,hga,-qAk,qAt,qBa,qAz,vE_0,vE_1,vE_2,vE_3,vE_4,vE_5,h1,h1',ho,wk];exact hk
        . have h1':(e.op:Int)=19:=by omega
          simp [qAl,qAo,qAm,qAi,qAf,qAe,qAb,qAc,qAa,qAj,qAg,qAd,qAu,qAv,resV,retV,qAn,qAh,qAs,qAr,qAq,qAp,he,ha,hg2,hg3,hga,-qAk,qAt,qBa,qAz,vE_0,vE_1,vE_2,vE_3,vE_4,vE_5,h1,h1',ho,wk];exact hk
      . have hr:wrE a.obj e=false:=by simp [wrE,ho]
        rw [hr] at hx;rcases h18 with h1 | h1
        . have h1':(e.op:Int)=18:=by omega
          simp [qAl,qAo,qAm,qAi,qAf,qAe,qAb,qAc,qAa,qAj,qAg,qAd,qAu,qAv,resV,retV,qAn,qAh,qAs,qAr,qAq,qAp,he,ha,hg2,hg3,hga,-qAk,qAt,qBa,qAz,vE_0,vE_1,vE_2,vE_3,vE_4,vE_5,h1,h1',ho,wk];exact .go k1 (by omega) (by simp) rfl ⟨by omega,by omega,hx⟩
        . have h1':(e.op:Int)=19:=by omega
          simp [qAl,qAo,qAm,qAi,qAf,qAe,qAb,qAc,qAa,qAj,qAg,qAd,qAu,qAv,resV,retV,qAn,qAh,qAs,qAr,qAq,qAp,he,ha,hg2,hg3,hga,-qAk,qAt,qBa,qAz,vE_0,vE_1,vE_2,vE_3,vE_4,vE_5,h1,h1',ho,wk];exact .go k1 (by omega) (by simp) rfl ⟨by omega,by omega,hx⟩
    . have h1:¬ e.op=18:=fun h=>h18 (.inl h)
      have h2:¬ e.op=19:=fun h=>h18 (.inr h)
      have h1':¬ (e.op:Int)=18:=by omega
      have h2':¬ (e.op:Int)=19:=by omega
      have hr:wrE a.obj e=false:=by simp [wrE,h1,h2]
      rw [hr] at hx;simp [qAl,qAo,qAm,qAi,qAf,qAe,qAb,qAc,qAa,qAj,qAg,qAd,qAu,qAv,resV,retV,qAn,qAh,qAs,qAr,qAq,qAp,he,ha,hg2,hg3,hga,-qAk,qAt,qBa,qAz,vE_0,vE_1,vE_2,vE_3,vE_4,vE_5,h1,h1',h2,h2',wk];exact .go k1 (by omega) (by simp) rfl ⟨by omega,by omega,hx⟩
  . obtain rfl:k=j:=by omega
    rw [qAy];simp [qAl,qAo,qAm,qAi,qAf,qAe,qAb,qAc,qAa,qAj,qAg,qAd,qAu,qAv,resV,retV,qAn,qAh,qAs,qAr,qAq,qAp];rw [hw] at hk;exact hk
end
end Pm

/- What is in order, of a run: by one of the rules.
   No condition: plain lemmas. -/

namespace Pm
set_option linter.unusedSimpArgs false
set_option linter.unusedVariables false
open Go Am
open Go.Proofs.Tryd (prog)

def qSb (a b:Ev):Bool:=decide (a.thread=b.thread) || (decide (a.op=12) && decide (a.obj=b.thread))
def qIn (p:Prog) (t:List Ev) (i j:Nat) (a b:Ev):Bool :=
  if a.op=14 then decide (b.op=13) || decide (b.op=15)
  else if a.op=16 then decide (b.op=13)
  else if a.op=18∨a.op=19 then (decide (b.op=17) || decide (b.op=19)) && !qFb a.obj t i j
  else if a.op=20 then qIw b && decide ((cntE (qMt a.obj) t i:Int)=(cntE (qNa a.obj) t j:Int))
  else if a.op=23 then (decide (b.op=21) || decide (b.op=22)) && decide (b.mode=2)
  else if a.op=24 then decide (a.value < 0) && decide (b.op=25)
  else if a.op=27 then decide (b.op=26) && decide (b.mode=0)
  else (qIw a && decide (b.op=20)) && decide (IntKind.i64.wrap ((cntE (qNa a.obj) t i:Int)+qOu p a.obj)=(cntE (qMt a.obj) t j:Int))
def qEe (p:Prog) (t:List Ev) (i j:Nat) (a b:Ev):Bool:=qSb a b || (decide (a.obj=b.obj) && qIn p t i j a b)
section
variable {h : Heap} {K : Value → Heap → Prop}
set_option maxHeartbeats 4000000 in
theorem r7Direct_call {p:Prog} {t:List Ev} {a b:Ev} {i j:Nat} (ht:t.length < lim) (hij:i < j) (hj:j < t.length) (ha:t[i]?=some a) (hb:t[j]?=some b) (hk:K (vB (qEe p t i j a b)) h):qBn prog 55 [.agg (qCs p).toArray,vM 6 vEv t,vI i,vI j] h K:=by
  refine Pure.go (Pure.one (p:=vB (qEe p t i j a b)) rfl fun h=>?_) hk
  refine call_r7Direct (by simp) ?_
  have hlim:lim=1048576:=rfl;have ha0:∀ hh,(vEv a)[0]'hh=vI a.thread:=fun _=>rfl
  have ha2:∀ hh,(vEv a)[2]'hh=v8 a.op:=fun _=>rfl
  have ha3:∀ hh,(vEv a)[3]'hh=vI a.obj:=fun _=>rfl
  have ha4:∀ hh,(vEv a)[4]'hh=vI a.value:=fun _=>rfl
  have hb0:∀ hh,(vEv b)[0]'hh=vI b.thread:=fun _=>rfl
  have hb2:∀ hh,(vEv b)[2]'hh=v8 b.op:=fun _=>rfl
  have hb3:∀ hh,(vEv b)[3]'hh=vI b.obj:=fun _=>rfl
  have hb5:∀ hh,(vEv b)[5]'hh=vI b.mode:=fun _=>rfl
  have i1:¬ (j:Int)≤i:=by omega
  have i2:¬ (t.length:Int)≤j:=by omega
  have i3:¬ (i:Int) < 0:=by omega
  have cN:∀ n m:Nat,((n:Int)=m)=(n=m):=fun n m=>by simp only [eq_iff_iff]; omega
  obtain ⟨ao,hao⟩:∃ x:Int,x=a.op:=⟨_,rfl⟩;simp [-qAy,qAl,qAo,qAm,qAi,qAf,qAe,qAb,qAc,qAa,qAj,qAg,qAd,qAu,qAv,resV,retV,qAn,qAh,qAs,qAr,qAq,qAp,qPj,-qAk,qAt,qBa,qAz,vE_0,vE_1,vE_2,vE_3,vE_4,vE_5,qAw,qBh,qBd,qBl];rw [qAy];simp [-qAy,qAl,qAo,qAm,qAi,qAf,qAe,qAb,qAc,qAa,qAj,qAg,qAd,qAu,qAv,resV,retV,qAn,qAh,qAs,qAr,qAq,qAp,i1,i2,i3,ha,hb,ha0,ha2,ha3,hb0,hb2,hb3,-qAk,qAt,qBa,qAz,vE_0,vE_1,vE_2,vE_3,vE_4,vE_5,qAw,qBh,qBd,qBl]
  by_cases hw:qSb a b=true
  . have e:qEe p t i j a b=true:=by simp [qEe,hw]
    rw [e]
    by_cases h1:a.thread=b.thread
    . simp [qAl,qAo,qAm,qAi,qAf,qAe,qAb,qAc,qAa,qAj,qAg,qAd,qAu,qAv,resV,retV,qAn,qAh,qAs,qAr,qAq,qAp,h1,ha,hb,ha0,ha2,ha3,hb0,hb2,hb3,-qAk,qAt,qBa,qAz,vE_0,vE_1,vE_2,vE_3,vE_4,vE_5,qAw,qBh,qBd,qBl]
    . simp only [qSb,h1,decide_false,Bool.false_or,Bool.and_eq_true,decide_eq_true_eq] at hw
      obtain ⟨h2,h3⟩:=hw;have h2':(a.op:Int)=12:=by omega
      simp [qAl,qAo,qAm,qAi,qAf,qAe,qAb,qAc,qAa,qAj,qAg,qAd,qAu,qAv,resV,retV,qAn,qAh,qAs,qAr,qAq,qAp,h1,h2,h2',h3,ha,hb,ha0,ha2,ha3,hb0,hb2,hb3,-qAk,qAt,qBa,qAz,vE_0,vE_1,vE_2,vE_3,vE_4,vE_5,qAw,qBh,qBd,qBl]
  . have hw':qSb a b=false:=by simpa using hw
    have h1:¬ a.thread=b.thread:=fun h=>hw (by simp [qSb,h])
    have h2:¬ (a.op=12∧a.obj=b.thread):=fun h=>hw (by simp [qSb,h])
    have c12:∀ n:Nat,((n:Int)=12)=(n=12):=fun n=>by simp only [eq_iff_iff]; omega
    have c13:∀ n:Nat,((n:Int)=13)=(n=13):=fun n=>by simp only [eq_iff_iff]; omega
    have c14:∀ n:Nat,((n:Int)=14)=(n=14):=fun n=>by simp only [eq_iff_iff]; omega
    have c15:∀ n:Nat,((n:Int)=15)=(n=15):=fun n=>by simp only [eq_iff_iff]; omega
    have c16:∀ n:Nat,((n:Int)=16)=(n=16):=fun n=>by simp only [eq_iff_iff]; omega
    have c17:∀ n:Nat,((n:Int)=17)=(n=17):=fun n=>by simp only [eq_iff_iff]; omega
    have c18:∀ n:Nat,((n:Int)=18)=(n=18):=fun n=>by simp only [eq_iff_iff]; omega
    have c19:∀ n:Nat,((n:Int)=19)=(n=19):=fun n=>by simp only [eq_iff_iff]; omega
    have c20:∀ n:Nat,((n:Int)=20)=(n=20):=fun n=>by simp only [eq_iff_iff]; omega
    have c21:∀ n:Nat,((n:Int)=21)=(n=21):=fun n=>by simp only [eq_iff_iff]; omega
    have c22:∀ n:Nat,((n:Int)=22)=(n=22):=fun n=>by simp only [eq_iff_iff]; omega
    have c23:∀ n:Nat,((n:Int)=23)=(n=23):=fun n=>by simp only [eq_iff_iff]; omega
    have c24:∀ n:Nat,((n:Int)=24)=(n=24):=fun n=>by simp only [eq_iff_iff]; omega
    have c25:∀ n:Nat,((n:Int)=25)=(n=25):=fun n=>by simp only [eq_iff_iff]; omega
    have c26:∀ n:Nat,((n:Int)=26)=(n=26):=fun n=>by simp only [eq_iff_iff]; omega
    have c27:∀ n:Nat,((n:Int)=27)=(n=27):=fun n=>by simp only [eq_iff_iff]; omega
    rw [qAy]
    by_cases h12:a.op=12
    case' pos =>
      have h3:¬ a.obj=b.thread:=fun h=>h2 ⟨h12,h⟩
      simp [-qAy,qAl,qAo,qAm,qAi,qAf,qAe,qAb,qAc,qAa,qAj,qAg,qAd,qAu,qAv,resV,retV,qAn,qAh,qAs,qAr,qAq,qAp,h1,h12,h3,ha,hb,ha0,ha2,ha3,hb0,hb2,hb3,-qAk,qAt,qBa,qAz,vE_0,vE_1,vE_2,vE_3,vE_4,vE_5,qAw,qBh,qBd,qBl]
    case' neg =>
      simp [-qAy,qAl,qAo,qAm,qAi,qAf,qAe,qAb,qAc,qAa,qAj,qAg,qAd,qAu,qAv,resV,retV,qAn,qAh,qAs,qAr,qAq,qAp,h1,h12,c12,ha,hb,ha0,ha2,ha3,hb0,hb2,hb3,-qAk,qAt,qBa,qAz,vE_0,vE_1,vE_2,vE_3,vE_4,vE_5,qAw,qBh,qBd,qBl]
    all_goals
      rw [qAy]
      by_cases ho:a.obj=b.obj
      case neg =>
        have e:qEe p t i j a b=false:=by simp [qEe,hw',ho]
        rw [e];simp [qAl,qAo,qAm,qAi,qAf,qAe,qAb,qAc,qAa,qAj,qAg,qAd,qAu,qAv,resV,retV,qAn,qAh,qAs,qAr,qAq,qAp,ho,ha3,hb3,-qAk,qAt,qBa,qAz,vE_0,vE_1,vE_2,vE_3,vE_4,vE_5,qAw,qBh,qBd,qBl]
      simp [-qAy,qAl,qAo,qAm,qAi,qAf,qAe,qAb,qAc,qAa,qAj,qAg,qAd,qAu,qAv,resV,retV,qAn,qAh,qAs,qAr,qAq,qAp,ho,ha3,hb3,-qAk,qAt,qBa,qAz,vE_0,vE_1,vE_2,vE_3,vE_4,vE_5,qAw,qBh,qBd,qBl];have e:qEe p t i j a b=qIn p t i j a b:=by simp [qEe,hw',ho]
      rw [e];have cb:(b.op=21∧b.mode=2)∨(b.op=21∧¬ b.mode=2)∨(b.op=22∧b.mode=2)∨(b.op=22∧¬ b.mode=2)∨(¬ b.op=21∧¬ b.op=22):=by omega
      rcases cb with ⟨b1,b2⟩ | ⟨b1,b2⟩ | ⟨b1,b2⟩ | ⟨b1,b2⟩ | ⟨b1,b2⟩
      all_goals
        simp [-qAy,qAl,qAo,qAm,qAi,qAf,qAe,qAb,qAc,qAa,qAj,qAg,qAd,qAu,qAv,resV,retV,qAn,qAh,qAs,qAr,qAq,qAp,b1,b2,c21,c22,hb2,hb3,hb5,-qAk,qAt,qBa,qAz,vE_0,vE_1,vE_2,vE_3,vE_4,vE_5,qAw,qBh,qBd,qBl]
        by_cases h14:a.op=14
        case pos =>
          by_cases b13:b.op=13<;>by_cases b15:b.op=15<;>first | omega | (simp [qAl,qAo,qAm,qAi,qAf,qAe,qAb,qAc,qAa,qAj,qAg,qAd,qAu,qAv,resV,retV,qAn,qAh,qAs,qAr,qAq,qAp,h14,b13,b15,b1,b2,h12,c13,c14,c15,c16,c17,c18,c19,c20,c21,c22,c23,c24,c25,c26,c27,ha2,ha3,ha4,hb2,hb3,hb5,-qAk,qAt,qBa,qAz,vE_0,vE_1,vE_2,vE_3,vE_4,vE_5,qAw,qBh,qBd,qBl,qIn]) | (simp [qAl,qAo,qAm,qAi,qAf,qAe,qAb,qAc,qAa,qAj,qAg,qAd,qAu,qAv,resV,retV,qAn,qAh,qAs,qAr,qAq,qAp,h14,b13,b15,b1,b2,h12,c13,c14,c15,c16,c17,c18,c19,c20,c21,c22,c23,c24,c25,c26,c27,ha2,ha3,ha4,hb2,hb3,hb5,-qAk,qAt,qBa,qAz,vE_0,vE_1,vE_2,vE_3,vE_4,vE_5,qAw,qBh,qBd,qBl,qIn]; omega)
        by_cases h16:a.op=16
        case pos =>
          by_cases b13:b.op=13<;>first | omega | (simp [qAl,qAo,qAm,qAi,qAf,qAe,qAb,qAc,qAa,qAj,qAg,qAd,qAu,qAv,resV,retV,qAn,qAh,qAs,qAr,qAq,qAp,h16,b13,b1,b2,h12,c13,c14,c15,c16,c17,c18,c19,c20,c21,c22,c23,c24,c25,c26,c27,ha2,ha3,ha4,hb2,hb3,hb5,-qAk,qAt,qBa,qAz,vE_0,vE_1,vE_2,vE_3,vE_4,vE_5,qAw,qBh,qBd,qBl,qIn]) | (simp [qAl,qAo,qAm,qAi,qAf,qAe,qAb,qAc,qAa,qAj,qAg,qAd,qAu,qAv,resV,retV,qAn,qAh,qAs,qAr,qAq,qAp,h16,b13,b1,b2,h12,c13,c14,c15,c16,c17,c18,c19,c20,c21,c22,c23,c24,c25,c26,c27,ha2,ha3,ha4,hb2,hb3,hb5,-qAk,qAt,qBa,qAz,vE_0,vE_1,vE_2,vE_3,vE_4,vE_5,qAw,qBh,qBd,qBl,qIn]; omega)
        by_cases h23:a.op=23
        case pos =>
          simp [qAl,qAo,qAm,qAi,qAf,qAe,qAb,qAc,qAa,qAj,qAg,qAd,qAu,qAv,resV,retV,qAn,qAh,qAs,qAr,qAq,qAp,h23,b1,b2,h12,c13,c14,c15,c16,c17,c18,c19,c20,c21,c22,c23,c24,c25,c26,c27,ha2,ha3,ha4,hb2,hb3,hb5,-qAk,qAt,qBa,qAz,vE_0,vE_1,vE_2,vE_3,vE_4,vE_5,qAw,qBh,qBd,qBl,qIn]
        by_cases h24:a.op=24
        case pos =>
          by_cases b25:b.op=25<;>by_cases v0:a.value < 0<;>first | omega | (simp [qAl,qAo,qAm,qAi,qAf,qAe,qAb,qAc,qAa,qAj,qAg,qAd,qAu,qAv,resV,retV,qAn,qAh,qAs,qAr,qAq,qAp,h24,b25,v0,b1,b2,h12,c13,c14,c15,c16,c17,c18,c19,c20,c21,c22,c23,c24,c25,c26,c27,ha2,ha3,ha4,hb2,hb3,hb5,-qAk,qAt,qBa,qAz,vE_0,vE_1,vE_2,vE_3,vE_4,vE_5,qAw,qBh,qBd,qBl,qIn]) | (simp [qAl,qAo,qAm,qAi,qAf,qAe,qAb,qAc,qAa,qAj,qAg,qAd,qAu,qAv,resV,retV,qAn,qAh,qAs,qAr,qAq,qAp,h24,b25,v0,b1,b2,h12,c13,c14,c15,c16,c17,c18,c19,c20,c21,c22,c23,c24,c25,c26,c27,ha2,ha3,ha4,hb2,hb3,hb5,-qAk,qAt,qBa,qAz,vE_0,vE_1,vE_2,vE_3,vE_4,vE_5,qAw,qBh,qBd,qBl,qIn]; omega)
        by_cases h27:a.op=27
        case pos =>
          by_cases b26:b.op=26<;>by_cases m0:b.mode=0<;>first | omega | (simp [qAl,qAo,qAm,qAi,qAf,qAe,qAb,qAc,qAa,qAj,qAg,qAd,qAu,qAv,resV,retV,qAn,qAh,qAs,qAr,qAq,qAp,h27,b26,m0,b1,b2,h12,c13,c14,c15,c16,c17,c18,c19,c20,c21,c22,c23,c24,c25,c26,c27,ha2,ha3,ha4,hb2,hb3,hb5,-qAk,qAt,qBa,qAz,vE_0,vE_1,vE_2,vE_3,vE_4,vE_5,qAw,qBh,qBd,qBl,qIn]) | (simp [qAl,qAo,qAm,qAi,qAf,qAe,qAb,qAc,qAa,qAj,qAg,qAd,qAu,qAv,resV,retV,qAn,qAh,qAs,qAr,qAq,qAp,h27,b26,m0,b1,b2,h12,c13,c14,c15,c16,c17,c18,c19,c20,c21,c22,c23,c24,c25,c26,c27,ha2,ha3,ha4,hb2,hb3,hb5,-qAk,qAt,qBa,qAz,vE_0,vE_1,vE_2,vE_3,vE_4,vE_5,qAw,qBh,qBd,qBl,qIn]; omega)
        by_cases h18:a.op=18
        case pos =>
          by_cases b17:b.op=17<;>by_cases b19:b.op=19<;>first | omega | (simp [qAl,qAo,qAm,qAi,qAf,qAe,qAb,qAc,qAa,qAj,qAg,qAd,qAu,qAv,resV,retV,qAn,qAh,qAs,qAr,qAq,qAp,h18,b17,b19,qIn,b1,b2,h12,c13,c14,c15,c16,c17,c18,c19,c20,c21,c22,c23,c24,c25,c26,c27,ha2,ha3,ha4,hb2,hb3,hb5,-qAk,qAt,qBa,qAz,vE_0,vE_1,vE_2,vE_3,vE_4,vE_5,qAw,qBh,qBd,qBl]; done) | (simp [qAl,qAo,qAm,qAi,qAf,qAe,qAb,qAc,qAa,qAj,qAg,qAd,qAu,qAv,resV,retV,qAn,qAh,qAs,qAr,qAq,qAp,h18,b17,b19,b1,b2,h12,c13,c14,c15,c16,c17,c18,c19,c20,c21,c22,c23,c24,c25,c26,c27,ha2,ha3,ha4,hb2,hb3,hb5,-qAk,qAt,qBa,qAz,vE_0,vE_1,vE_2,vE_3,vE_4,vE_5,qAw,qBh,qBd,qBl]; refine r7writes_call ht hij (by omega) ha ?_; cases hwv:qFb a.obj t i j<;>(simp [qAl,qAo,qAm,qAi,qAf,qAe,qAb,qAc,qAa,qAj,qAg,qAd,qAu,qAv,resV,retV,qAn,qAh,qAs,qAr,qAq,qAp,callK_def,hwv,h18,b17,b19,qIn,b1,b2,h12,c13,c14,c15,c16,c17,c18,c19,c20,c21,c22,c23,c24,c25,c26,c27,ha2,ha3,ha4,hb2,hb3,hb5,-qAk,qAt,qBa,qAz,vE_0,vE_1,vE_2,vE_3,vE_4,vE_5,qAw,qBh,qBd,qBl]))
        by_cases h19:a.op=19
        case pos =>
          by_cases b17:b.op=17<;>by_cases b19:b.op=19<;>first | omega | (simp [qAl,qAo,qAm,qAi,qAf,qAe,qAb,qAc,qAa,qAj,qAg,qAd,qAu,qAv,resV,retV,qAn,qAh,qAs,qAr,qAq,qAp,h19,b17,b19,qIn,b1,b2,h12,c13,c14,c15,c16,c17,c18,c19,c20,c21,c22,c23,c24,c25,c26,c27,ha2,ha3,ha4,hb2,hb3,hb5,-qAk,qAt,qBa,qAz,vE_0,vE_1,vE_2,vE_3,vE_4,vE_5,qAw,qBh,qBd,qBl]; done) | (simp [qAl,qAo,qAm,qAi,qAf,qAe,qAb,qAc,qAa,qAj,qAg,qAd,qAu,qAv,resV,retV,qAn,qAh,qAs,qAr,qAq,qAp,h19,b17,b19,b1,b2,h12,c13,c14,c15,c16,c17,c18,c19,c20,c21,c22,c23,c24,c25,c26,c27,ha2,ha3,ha4,hb2,hb3,hb5,-qAk,qAt,qBa,qAz,vE_0,vE_1,vE_2,vE_3,vE_4,vE_5,qAw,qBh,qBd,qBl]; refine r7writes_call ht hij (by omega) ha ?_; cases hwv:qFb a.obj t i j<;>(simp [qAl,qAo,qAm,qAi,qAf,qAe,qAb,qAc,qAa,qAj,qAg,qAd,qAu,qAv,resV,retV,qAn,qAh,qAs,qAr,qAq,qAp,callK_def,hwv,h19,b17,b19,qIn,b1,b2,h12,c13,c14,c15,c16,c17,c18,c19,c20,c21,c22,c23,c24,c25,c26,c27,ha2,ha3,ha4,hb2,hb3,hb5,-qAk,qAt,qBa,qAz,vE_0,vE_1,vE_2,vE_3,vE_4,vE_5,qAw,qBh,qBd,qBl]))
        by_cases h20:a.op=20
        case pos =>
          simp [qAl,qAo,qAm,qAi,qAf,qAe,qAb,qAc,qAa,qAj,qAg,qAd,qAu,qAv,resV,retV,qAn,qAh,qAs,qAr,qAq,qAp,h20,b1,b2,h12,c13,c14,c15,c16,c17,c18,c19,c20,c21,c22,c23,c24,c25,c26,c27,ha2,ha3,ha4,hb2,hb3,hb5,-qAk,qAt,qBa,qAz,vE_0,vE_1,vE_2,vE_3,vE_4,vE_5,qAw,qBh,qBd,qBl];refine qKk ?_;cases htk:qIw b
          case false=>simp [qAl,qAo,qAm,qAi,qAf,qAe,qAb,qAc,qAa,qAj,qAg,qAd,qAu,qAv,resV,retV,qAn,qAh,qAs,qAr,qAq,qAp,callK_def,htk,h20,qIn,b1,b2,h12,c13,c14,c15,c16,c17,c18,c19,c20,c21,c22,c23,c24,c25,c26,c27,ha2,ha3,ha4,hb2,hb3,hb5,-qAk,qAt,qBa,qAz,vE_0,vE_1,vE_2,vE_3,vE_4,vE_5,qAw,qBh,qBd,qBl]
          simp [qAl,qAo,qAm,qAi,qAf,qAe,qAb,qAc,qAa,qAj,qAg,qAd,qAu,qAv,resV,retV,qAn,qAh,qAs,qAr,qAq,qAp,callK_def,htk,h20,b1,b2,h12,c13,c14,c15,c16,c17,c18,c19,c20,c21,c22,c23,c24,c25,c26,c27,ha2,ha3,ha4,hb2,hb3,hb5,-qAk,qAt,qBa,qAz,vE_0,vE_1,vE_2,vE_3,vE_4,vE_5,qAw,qBh,qBd,qBl];refine qEi ?_ (qFm.lock (r7sends_call ht (by omega) ⟨rfl,?_⟩))
          . simp [qAl,qAo,qAm,qAi,qAf,qAe,qAb,qAc,qAa,qAj,qAg,qAd,qAu,qAv,resV,retV,qAn,qAh,qAs,qAr,qAq,qAp,-qAk,qAt,qBa,qAz,vE_0,vE_1,vE_2,vE_3,vE_4,vE_5,qAw,qBh,qBd,qBl]
          simp [qAl,qAo,qAm,qAi,qAf,qAe,qAb,qAc,qAa,qAj,qAg,qAd,qAu,qAv,resV,retV,qAn,qAh,qAs,qAr,qAq,qAp,callK_def,htk,h20,b1,b2,h12,c13,c14,c15,c16,c17,c18,c19,c20,c21,c22,c23,c24,c25,c26,c27,ha2,ha3,ha4,hb2,hb3,hb5,-qAk,qAt,qBa,qAz,vE_0,vE_1,vE_2,vE_3,vE_4,vE_5,qAw,qBh,qBd,qBl];refine r7takings_call ht (by omega) ?_
          by_cases hq:cntE (qMt a.obj) t i=cntE (qNa a.obj) t j<;>(simp [qAl,qAo,qAm,qAi,qAf,qAe,qAb,qAc,qAa,qAj,qAg,qAd,qAu,qAv,resV,retV,qAn,qAh,qAs,qAr,qAq,qAp,callK_def,htk,hq,h20,qIn,b1,b2,h12,c13,c14,c15,c16,c17,c18,c19,c20,c21,c22,c23,c24,c25,c26,c27,ha2,ha3,ha4,hb2,hb3,hb5,-qAk,qAt,qBa,qAz,vE_0,vE_1,vE_2,vE_3,vE_4,vE_5,qAw,qBh,qBd,qBl])
        simp [qAl,qAo,qAm,qAi,qAf,qAe,qAb,qAc,qAa,qAj,qAg,qAd,qAu,qAv,resV,retV,qAn,qAh,qAs,qAr,qAq,qAp,h14,h16,h18,h19,h20,h23,h24,h27,b1,b2,h12,c13,c14,c15,c16,c17,c18,c19,c20,c21,c22,c23,c24,c25,c26,c27,ha2,ha3,ha4,hb2,hb3,hb5,qBl,qBh,qBd,-qAk,qAt,qBa,qAz,vE_0,vE_1,vE_2,vE_3,vE_4,vE_5,qAw,qBh,qBd,qBl];refine qKk ?_;cases htk:qIw a
        case false=>simp [qAl,qAo,qAm,qAi,qAf,qAe,qAb,qAc,qAa,qAj,qAg,qAd,qAu,qAv,resV,retV,qAn,qAh,qAs,qAr,qAq,qAp,callK_def,htk,qIn,h14,h16,h18,h19,h20,h23,h24,h27,b1,b2,h12,c13,c14,c15,c16,c17,c18,c19,c20,c21,c22,c23,c24,c25,c26,c27,ha2,ha3,ha4,hb2,hb3,hb5,qBl,qBh,qBd,-qAk,qAt,qBa,qAz,vE_0,vE_1,vE_2,vE_3,vE_4,vE_5,qAw,qBh,qBd,qBl]
        by_cases b20:b.op=20
        case neg=>simp [qAl,qAo,qAm,qAi,qAf,qAe,qAb,qAc,qAa,qAj,qAg,qAd,qAu,qAv,resV,retV,qAn,qAh,qAs,qAr,qAq,qAp,callK_def,htk,b20,qIn,h14,h16,h18,h19,h20,h23,h24,h27,b1,b2,h12,c13,c14,c15,c16,c17,c18,c19,c20,c21,c22,c23,c24,c25,c26,c27,ha2,ha3,ha4,hb2,hb3,hb5,qBl,qBh,qBd,-qAk,qAt,qBa,qAz,vE_0,vE_1,vE_2,vE_3,vE_4,vE_5,qAw,qBh,qBd,qBl]
        first
        | omega
        | simp [qAl,qAo,qAm,qAi,qAf,qAe,qAb,qAc,qAa,qAj,qAg,qAd,qAu,qAv,resV,retV,qAn,qAh,qAs,qAr,qAq,qAp,callK_def,htk,b20,h14,h16,h18,h19,h20,h23,h24,h27,b1,b2,h12,c13,c14,c15,c16,c17,c18,c19,c20,c21,c22,c23,c24,c25,c26,c27,ha2,ha3,ha4,hb2,hb3,hb5,qBl,qBh,qBd,-qAk,qAt,qBa,qAz,vE_0,vE_1,vE_2,vE_3,vE_4,vE_5,qAw,qBh,qBd,qBl]
          refine qEi ?_ (qFm.lock (r7takings_call ht (by omega) ⟨rfl,?_⟩))
          . simp [qAl,qAo,qAm,qAi,qAf,qAe,qAb,qAc,qAa,qAj,qAg,qAd,qAu,qAv,resV,retV,qAn,qAh,qAs,qAr,qAq,qAp,b1,b2,h12,c13,c14,c15,c16,c17,c18,c19,c20,c21,c22,c23,c24,c25,c26,c27,ha2,ha3,ha4,hb2,hb3,hb5,qBl,qBh,qBd,-qAk,qAt,qBa,qAz,vE_0,vE_1,vE_2,vE_3,vE_4,vE_5,qAw,qBh,qBd,qBl]
          simp [qAl,qAo,qAm,qAi,qAf,qAe,qAb,qAc,qAa,qAj,qAg,qAd,qAu,qAv,resV,retV,qAn,qAh,qAs,qAr,qAq,qAp,callK_def,htk,b20,h14,h16,h18,h19,h20,h23,h24,h27,b1,b2,h12,c13,c14,c15,c16,c17,c18,c19,c20,c21,c22,c23,c24,c25,c26,c27,ha2,ha3,ha4,hb2,hb3,hb5,qBl,qBh,qBd,-qAk,qAt,qBa,qAz,vE_0,vE_1,vE_2,vE_3,vE_4,vE_5,qAw,qBh,qBd,qBl];refine qEi ?_ (qFm.lock (r7room_call ⟨rfl,?_⟩))
          . simp [qAl,qAo,qAm,qAi,qAf,qAe,qAb,qAc,qAa,qAj,qAg,qAd,qAu,qAv,resV,retV,qAn,qAh,qAs,qAr,qAq,qAp,b1,b2,h12,c13,c14,c15,c16,c17,c18,c19,c20,c21,c22,c23,c24,c25,c26,c27,ha2,ha3,ha4,hb2,hb3,hb5,qBl,qBh,qBd,-qAk,qAt,qBa,qAz,vE_0,vE_1,vE_2,vE_3,vE_4,vE_5,qAw,qBh,qBd,qBl]
          simp [qAl,qAo,qAm,qAi,qAf,qAe,qAb,qAc,qAa,qAj,qAg,qAd,qAu,qAv,resV,retV,qAn,qAh,qAs,qAr,qAq,qAp,callK_def,htk,b20,h14,h16,h18,h19,h20,h23,h24,h27,b1,b2,h12,c13,c14,c15,c16,c17,c18,c19,c20,c21,c22,c23,c24,c25,c26,c27,ha2,ha3,ha4,hb2,hb3,hb5,qBl,qBh,qBd,-qAk,qAt,qBa,qAz,vE_0,vE_1,vE_2,vE_3,vE_4,vE_5,qAw,qBh,qBd,qBl];refine r7sends_call ht (by omega) ?_
          by_cases hq:IntKind.i64.wrap ((cntE (qNa a.obj) t i:Int)+qOu p a.obj)=(cntE (qMt a.obj) t j:Int)<;>(simp [qAl,qAo,qAm,qAi,qAf,qAe,qAb,qAc,qAa,qAj,qAg,qAd,qAu,qAv,resV,retV,qAn,qAh,qAs,qAr,qAq,qAp,callK_def,htk,hq,b20,qIn,h14,h16,h18,h19,h20,h23,h24,h27,b1,b2,h12,c13,c14,c15,c16,c17,c18,c19,c20,c21,c22,c23,c24,c25,c26,c27,ha2,ha3,ha4,hb2,hb3,hb5,qBl,qBh,qBd,-qAk,qAt,qBa,qAz,vE_0,vE_1,vE_2,vE_3,vE_4,vE_5,qAw,qBh,qBd,qBl])
end
end Pm

/- What is in order, of a run: all that are ahead of one.
   No condition: plain lemmas. -/

namespace Pm
set_option linter.unusedSimpArgs false
set_option linter.unusedVariables false
open Go Am
open Go.Proofs.Tryd (prog)

def hitP (p:Prog) (t:List Ev) (i k:Nat):Prop:=∃ a b,t[i]?=some a∧t[k]?=some b∧qEe p t i k a b=true
inductive Bef (p:Prog) (t:List Ev) (j:Nat):Nat→Prop
  | dir {i:Nat}:i < j→hitP p t i j→Bef p t j i
  | step {i k:Nat}:i < k→k < j→hitP p t i k→Bef p t j k→Bef p t j i
theorem Bef.lt {p:Prog} {t:List Ev} {i j:Nat} (h:Bef p t j i):i < j:=by
  cases h with
  | dir h _=>exact h
  | step h1 h2 _ _=>omega
def qYk (p:Prog) (t:List Ev) (j s k:Nat) (x:Int):Prop:=(x=0∨x=1)∧(x=1→s≤k∧Bef p t j k)∧(s≤k→Bef p t j k→x=1)
def qVj (p:Prog) (t:List Ev) (j s:Nat) (out:List Int):Prop:=out.length=t.length∧∀ k x,out[k]?=some x→qYk p t j s k x
structure MarkI (p:Prog) (t:List Ev) (j i k:Nat) (out:List Int):Prop where
  len:out.length=t.length
  oth:∀ m x,m≠i→out[m]?=some x→qYk p t j (i+1) m x
  own:∀ y,out[i]?=some y→(y=0∨y=1)∧(y=1→Bef p t j i)∧(y=0→¬ hitP p t i j∧∀ m,i < m→m < k→hitP p t i m→¬ Bef p t j m)
variable {p : Prog} {t : List Ev} {i j k s : Nat} {out : List Int}
theorem qVj.init:qVj p t j j (List.replicate t.length 0):=by
  refine ⟨by simp,fun k x h=>?_⟩
  rw [List.getElem?_replicate] at h
  split at h
  . cases h
    exact ⟨.inl rfl,fun h=>by omega,fun h1 h2=>by have:=h2.lt; omega⟩
  . cases h
theorem qYk.mono {m:Nat} {x:Int} (h:qYk p t j (i+1) m x) (hm:m≠i):qYk p t j i m x :=
  ⟨h.1,fun e=>⟨by have:=(h.2.1 e).1; omega,(h.2.1 e).2⟩,fun h1 h2=>h.2.2 (by omega) h2⟩
theorem MarkI.start (v:qVj p t j (i+1) out) (hit:¬ hitP p t i j):MarkI p t j i (i+1) out :=
  ⟨v.1,fun m x _ h=>v.2 m x h,fun y hy=>by
    have c:=v.2 i y hy;exact ⟨c.1,fun e=>absurd (c.2.1 e).1 (by omega),fun _=>⟨hit,fun m h1 h2=>by omega⟩⟩⟩
theorem MarkI.hit (v:qVj p t j (i+1) out) (hij:i < j) (hit:hitP p t i j):MarkI p t j i (i+1) (out.set i 1):=by
  refine ⟨by simp [v.1],fun m x hm h=>?_,fun y hy=>?_⟩
  . rw [List.getElem?_set,if_neg (by omega)] at h
    exact v.2 m x h
  . rw [List.getElem?_set,if_pos rfl] at hy
    split at hy
    . cases hy
      exact ⟨.inr rfl,fun _=>.dir hij hit,fun h=>by omega⟩
    . cases hy
theorem MarkI.found (v:MarkI p t j i k out) (h1:i < k) (h2:k < j) (hit:hitP p t i k) (hb:Bef p t j k):MarkI p t j i (k+1) (out.set i 1):=by
  refine ⟨by simp [v.len],fun m x hm h=>?_,fun y hy=>?_⟩
  . rw [List.getElem?_set,if_neg (by omega)] at h
    exact v.oth m x hm h
  . rw [List.getElem?_set,if_pos rfl] at hy
    split at hy
    . cases hy
      exact ⟨.inr rfl,fun _=>.step h1 h2 hit hb,fun h=>by omega⟩
    . cases hy
theorem MarkI.next (v:MarkI p t j i k out) (hn:hitP p t i k→¬ Bef p t j k):MarkI p t j i (k+1) out :=
  ⟨v.len,v.oth,fun y hy=>by
    have c:=v.own y hy;refine ⟨c.1,c.2.1,fun e=>⟨(c.2.2 e).1,fun m h1 h2 h3=>?_⟩⟩
    by_cases hm:m=k
    . subst hm; exact hn h3
    . exact (c.2.2 e).2 m h1 (by omega) h3⟩
theorem MarkI.fin (v:MarkI p t j i k out) (hk:k=j∨out[i]?=some 1):qVj p t j i out:=by
  refine ⟨v.len,fun m x h=>?_⟩
  by_cases hm:m=i
  . subst hm
    have c:=v.own x h;refine ⟨c.1,fun e=>⟨Nat.le_refl _,c.2.1 e⟩,fun _ hb=>?_⟩
    rcases c.1 with e | e
    . exfalso
      have d:=c.2.2 e;rcases hk with hk | hk
      . cases hb with
        | dir _ h=>exact d.1 h
        | step h1 h2 h3 h4=>exact d.2 _ h1 (by omega) h3 h4
      . rw [h] at hk; cases hk; omega
    . exact e
  . exact (v.oth m x hm h).mono hm
end Pm

/- What is in order, of a run: the marks, by the program.
   No condition: plain lemmas. -/

namespace Pm
set_option linter.unusedSimpArgs false
set_option linter.unusedVariables false
open Go Am
open Go.Proofs.Tryd (prog)

theorem qTo {p:Prog} {t:List Ev} {i k:Nat} {a b:Ev} (ha:t[i]?=some a) (hb:t[k]?=some b):hitP p t i k↔qEe p t i k a b=true:=by
  constructor
  . rintro ⟨x,y,h1,h2,h3⟩
    rw [ha] at h1; rw [hb] at h2; cases h1; cases h2; exact h3
  . exact fun h=>⟨a,b,ha,hb,h⟩
section
variable {h : Heap} {K : Value → Heap → Prop}
set_option maxHeartbeats 4000000 in
theorem r7Marks_run {p:Prog} {t:List Ev} {j:Nat} (ht:t.length < lim) (hj:j < t.length):qBn prog 36 [.agg (qCs p).toArray,vM 6 vEv t,vI j] h fun v H=>∃ g,H=h++g∧∃ out,qVj p t j 0 out∧v=vL vI out:=by
  refine call_r7Marks (by simp) ?_
  have hlim:lim=1048576:=rfl;obtain ⟨b,hb⟩:∃ b,t[j]?=some b:=⟨_,List.getElem?_eq_getElem hj⟩;have i2:¬ (t.length:Int)≤j:=by omega
  have i3:¬ (j:Int) < 0:=by omega
  have w1:∀ n:Nat,n < lim→IntKind.i64.wrap ((n:Int) - 1)=(n:Int) - 1:=fun n hn=>qCp (by omega) (by omega)
  have hll:t.length≤lim:=by omega
  simp [-qAy,qAl,qAo,qAm,qAi,qAf,qAe,qAb,qAc,qAa,qAj,qAg,qAd,qAu,qAv,resV,retV,qAn,qAh,qAs,qAr,qAq,qAp,qRo,-qAk,qAt,qBa,qAz,vE_0,vE_1,vE_2,vE_3,vE_4,vE_5,qAw,qBh,qBd,qBl,make_box hll,bx_repI];rw [qAy];simp [-qAy,qAl,qAo,qAm,qAi,qAf,qAe,qAb,qAc,qAa,qAj,qAg,qAd,qAu,qAv,resV,retV,qAn,qAh,qAs,qAr,qAq,qAp,i2,i3,-qAk,qAt,qBa,qAz,vE_0,vE_1,vE_2,vE_3,vE_4,vE_5,qAw,qBh,qBd,qBl];rw [qAy];simp [-qAy,qAl,qAo,qAm,qAi,qAf,qAe,qAb,qAc,qAa,qAj,qAg,qAd,qAu,qAv,resV,retV,qAn,qAh,qAs,qAr,qAq,qAp,w1 j (by omega),-qAk,qAt,qBa,qAz,vE_0,vE_1,vE_2,vE_3,vE_4,vE_5,qAw,qBh,qBd,qBl]
  refine qEa (σ:=Nat×List Int) (fun x=>[(1,vM 6 vEv t),(2,vI j),(3,ptr h.length),(7,.slice (some ⟨h.length+1,0,none⟩) t.length 0),(8,vI ((x.1:Int) - 1))]) (fun x=>h++[bx (qCs p) 7,bxL vI x.2]) (fun x=>x.1≤j∧qVj p t j x.1 x.2) (fun x=>x.1) (j,List.replicate t.length 0) (by simp) rfl ⟨Nat.le_refl _,.init⟩ ?_
  rintro ⟨s,out⟩ fr ⟨hs,hM⟩;dsimp only at hs hM ⊢
  by_cases h0:s=0
  . subst h0
    have hfz:frzV (h++[bx (qCs p) 7,bxL vI out]) 1 (.slice (some ⟨h.length+1,0,none⟩) t.length 0)=some (vL vI out,h++[bx (qCs p) 7,.row ⟨out.map vI,1,0,false⟩]):=by
      have:=qWx (e:=1) (h:=h) (rs:=[bx (qCs p) 7,bxL vI out]) (j:=1) (off:=0) (ver:=0) (n:=t.length) (r:=⟨out.map vI,1,0,true⟩) rowO_L (by simp [hM.1]) (by simp only [seg,List.all_eq_true]; intro x hx; obtain ⟨y,_,rfl⟩:=List.mem_map.1 (List.mem_of_mem_drop (List.mem_of_mem_take hx)); rfl)
      rw [this];simp [seg,← hM.1,vL,List.take_of_length_le (l:=out.map vI) (i:=out.length) (by simp)]
    rw [qAy];simp [qAl,qAo,qAm,qAi,qAf,qAe,qAb,qAc,qAa,qAj,qAg,qAd,qAu,qAv,resV,retV,qAn,qAh,qAs,qAr,qAq,qAp,hfz,-qAk,qAt,qBa,qAz,vE_0,vE_1,vE_2,vE_3,vE_4,vE_5,qAw,qBh,qBd,qBl];exact ⟨out,hM,rfl⟩
  . obtain ⟨i,rfl⟩:∃ i,s=i+1:=⟨s - 1,by omega⟩
    obtain ⟨a,ha⟩:∃ a,t[i]?=some a:=⟨_,List.getElem?_eq_getElem (by omega)⟩
    have hi:((i+1:Nat):Int) - 1=i:=by omega
    have hge:¬ (i:Int) < 0:=by omega
    have hge':(0:Int)≤i:=by omega
    rw [hi];rw [qAy];simp [-qAy,qAl,qAo,qAm,qAi,qAf,qAe,qAb,qAc,qAa,qAj,qAg,qAd,qAu,qAv,resV,retV,qAn,qAh,qAs,qAr,qAq,qAp,hge,hge',-qAk,qAt,qBa,qAz,vE_0,vE_1,vE_2,vE_3,vE_4,vE_5,qAw,qBh,qBd,qBl];rw [qAy];simp [-qAy,qAl,qAo,qAm,qAi,qAf,qAe,qAb,qAc,qAa,qAj,qAg,qAd,qAu,qAv,resV,retV,qAn,qAh,qAs,qAr,qAq,qAp,-qAk,qAt,qBa,qAz,vE_0,vE_1,vE_2,vE_3,vE_4,vE_5,qAw,qBh,qBd,qBl];rw [qAy];simp [-qAy,qAl,qAo,qAm,qAi,qAf,qAe,qAb,qAc,qAa,qAj,qAg,qAd,qAu,qAv,resV,retV,qAn,qAh,qAs,qAr,qAq,qAp,-qAk,qAt,qBa,qAz,vE_0,vE_1,vE_2,vE_3,vE_4,vE_5,qAw,qBh,qBd,qBl]
    refine r7Direct_call (a:=a) (b:=b) ht (by omega) hj ha hb ?_
    obtain ⟨i1,hi1,wi⟩:=qBm (show i < lim by omega)
    have hcal:qEe p t i j a b=true↔hitP p t i j:=(qTo ha hb).symm;have hol:out.length=t.length:=hM.1;have hio:i < out.length:=by omega
    have hit:i < t.length:=by omega
    obtain ⟨out1,ho1⟩:∃ o:List Int,o=if qEe p t i j a b then out.set i 1 else out:=⟨_,rfl⟩
    have hI:MarkI p t j i i1 out1:=by
      rw [hi1,ho1]
      split
      . rename_i h; exact .hit hM (by omega) (hcal.1 h)
      . rename_i h; exact .start hM (fun hh=>h (hcal.2 hh))
    cases hd:qEe p t i j a b
    case' false =>
      rw [hd] at ho1;simp only [Bool.false_eq_true,if_false] at ho1;simp [-qAy,qAl,qAo,qAm,qAi,qAf,qAe,qAb,qAc,qAa,qAj,qAg,qAd,qAu,qAv,resV,retV,qAn,qAh,qAs,qAr,qAq,qAp,callK_def,hd,-qAk,qAt,qBa,qAz,vE_0,vE_1,vE_2,vE_3,vE_4,vE_5,qAw,qBh,qBd,qBl]
    case' true =>
      rw [hd] at ho1;simp only [if_true] at ho1;simp [-qAy,qAl,qAo,qAm,qAi,qAf,qAe,qAb,qAc,qAa,qAj,qAg,qAd,qAu,qAv,resV,retV,qAn,qAh,qAs,qAr,qAq,qAp,callK_def,hd,storeB_I,hio,hit,-qAk,qAt,qBa,qAz,vE_0,vE_1,vE_2,vE_3,vE_4,vE_5,qAw,qBh,qBd,qBl]
    all_goals
      rw [← ho1];simp [-qAy,qAl,qAo,qAm,qAi,qAf,qAe,qAb,qAc,qAa,qAj,qAg,qAd,qAu,qAv,resV,retV,qAn,qAh,qAs,qAr,qAq,qAp,wi,-qAk,qAt,qBa,qAz,vE_0,vE_1,vE_2,vE_3,vE_4,vE_5,qAw,qBh,qBd,qBl];refine qEa (σ:=Nat×List Int) (fun x=>[(1,vM 6 vEv t),(2,vI j),(3,ptr h.length),(7,.slice (some ⟨h.length+1,0,none⟩) t.length 0),(8,vI i),(9,vI x.1)]) (fun x=>h++[bx (qCs p) 7,bxL vI x.2]) (fun x=>i < x.1∧x.1≤j∧MarkI p t j i x.1 x.2) (fun x=>j - x.1) (i1,out1) (by simp) rfl ⟨by omega,by omega,hI⟩ ?_
      clear hI;rintro ⟨k,out2⟩ fr ⟨hik,hkj,hI⟩;dsimp only at hik hkj hI ⊢;obtain ⟨y,hy⟩:∃ y,out2[i]?=some y:=⟨_,List.getElem?_eq_getElem (by rw [hI.len]; omega)⟩
      rw [qAy]
      by_cases hk0:k=j
      . have hf:=hI.fin (.inl hk0)
        subst hk0;simp [qAl,qAo,qAm,qAi,qAf,qAe,qAb,qAc,qAa,qAj,qAg,qAd,qAu,qAv,resV,retV,qAn,qAh,qAs,qAr,qAq,qAp,w1 i (by omega),-qAk,qAt,qBa,qAz,vE_0,vE_1,vE_2,vE_3,vE_4,vE_5,qAw,qBh,qBd,qBl]
        exact .go (i,out2) (by dsimp only; omega) (by simp) rfl ⟨by omega,hf⟩
      . have hkj':(k:Int) < j:=by omega
        rcases (hI.own y hy).1 with rfl | rfl
        case' inr =>
          have hf:=hI.fin (.inr hy);simp [qAl,qAo,qAm,qAi,qAf,qAe,qAb,qAc,qAa,qAj,qAg,qAd,qAu,qAv,resV,retV,qAn,qAh,qAs,qAr,qAq,qAp,hkj',hit,qHk,hy,w1 i (by omega),-qAk,qAt,qBa,qAz,vE_0,vE_1,vE_2,vE_3,vE_4,vE_5,qAw,qBh,qBd,qBl]
          exact .go (i,out2) (by dsimp only; omega) (by simp) rfl ⟨by omega,hf⟩
        case' inl =>
          simp [-qAy,qAl,qAo,qAm,qAi,qAf,qAe,qAb,qAc,qAa,qAj,qAg,qAd,qAu,qAv,resV,retV,qAn,qAh,qAs,qAr,qAq,qAp,hkj',hit,qHk,hy,-qAk,qAt,qBa,qAz,vE_0,vE_1,vE_2,vE_3,vE_4,vE_5,qAw,qBh,qBd,qBl];obtain ⟨k1,hk1,wk⟩:=qBm (show k < lim by omega)
          have hlen:out2.length=t.length:=hI.len;obtain ⟨x,hx⟩:∃ x,out2[k]?=some x:=⟨_,List.getElem?_eq_getElem (by omega)⟩
          obtain ⟨c,hc⟩:∃ c,t[k]?=some c:=⟨_,List.getElem?_eq_getElem (by omega)⟩
          have hkt:k < t.length:=by omega
          have hio2:i < out2.length:=by omega
          have hm:=hI.oth k x (by omega) hx
          rw [qAy];rcases hm.1 with rfl | rfl
          . have hn:hitP p t i k→¬ Bef p t j k:=fun _ hb=>by
              have:=hm.2.2 (by omega) hb
              omega
            simp [qAl,qAo,qAm,qAi,qAf,qAe,qAb,qAc,qAa,qAj,qAg,qAd,qAu,qAv,resV,retV,qAn,qAh,qAs,qAr,qAq,qAp,hkt,qHk,hx,wk,-qAk,qAt,qBa,qAz,vE_0,vE_1,vE_2,vE_3,vE_4,vE_5,qAw,qBh,qBd,qBl];exact .go (k1,out2) (by dsimp only; omega) (by simp) rfl ⟨by omega,by omega,hk1 ▸ hI.next hn⟩
          . have hbk:=(hm.2.1 rfl).2
            simp [-qAy,qAl,qAo,qAm,qAi,qAf,qAe,qAb,qAc,qAa,qAj,qAg,qAd,qAu,qAv,resV,retV,qAn,qAh,qAs,qAr,qAq,qAp,hkt,qHk,hx,-qAk,qAt,qBa,qAz,vE_0,vE_1,vE_2,vE_3,vE_4,vE_5,qAw,qBh,qBd,qBl];refine r7Direct_call (a:=a) (b:=c) ht hik hkt ha hc ?_;cases hd2:qEe p t i k a c
            . have hn:hitP p t i k→¬ Bef p t j k:=fun hh=>by
                rw [qTo ha hc,hd2] at hh;cases hh
              simp [qAl,qAo,qAm,qAi,qAf,qAe,qAb,qAc,qAa,qAj,qAg,qAd,qAu,qAv,resV,retV,qAn,qAh,qAs,qAr,qAq,qAp,callK_def,wk,-qAk,qAt,qBa,qAz,vE_0,vE_1,vE_2,vE_3,vE_4,vE_5,qAw,qBh,qBd,qBl];exact .go (k1,out2) (by dsimp only; omega) (by simp) rfl ⟨by omega,by omega,hk1 ▸ hI.next hn⟩
            . have hf:=hI.found hik (by omega) ((qTo ha hc).2 hd2) hbk
              simp [qAl,qAo,qAm,qAi,qAf,qAe,qAb,qAc,qAa,qAj,qAg,qAd,qAu,qAv,resV,retV,qAn,qAh,qAs,qAr,qAq,qAp,callK_def,storeB_I,hio2,hit,wk,-qAk,qAt,qBa,qAz,vE_0,vE_1,vE_2,vE_3,vE_4,vE_5,qAw,qBh,qBd,qBl];exact .go (k1,out2.set i 1) (by dsimp only; omega) (by simp) rfl ⟨by omega,by omega,hk1 ▸ hf⟩
theorem r7Marks_call {p:Prog} {t:List Ev} {j:Nat} (ht:t.length < lim) (hj:j < t.length) (hk:∀ out,qVj p t j 0 out→K (vL vI out) h):qBn prog 36 [.agg (qCs p).toArray,vM 6 vEv t,vI j] h K:=by
  refine qBn.forget ((r7Marks_run ht hj).mono ?_);rintro v H ⟨g,e,out,hM,hv⟩;exact ⟨⟨g,e⟩,vL vI out,by rw [hv]; exact .cell rfl,hk out hM⟩
end
end Pm

/- What does not race, without the program: all that conflicts is in order.
   No condition: plain lemmas. -/

namespace Pm
set_option linter.unusedSimpArgs false
set_option linter.unusedVariables false
open Go Am

def qTx (t:List Ev) (b:Ev) (k m:Nat):Prop:=∃ a,t[m]?=some a∧a.thread=(k:Int)∧qFq a b=true
def qLz (t:List Ev) (b:Ev) (k i:Nat) (last:Int):Prop :=
  (last=-1∧∀ m,m < i→¬ qTx t b k m)∨∃ l:Nat,last=(l:Int)∧l < i∧qTx t b k l∧∀ m,l < m→m < i→¬ qTx t b k m
theorem qLz.init {t:List Ev} {b:Ev} {k:Nat}:qLz t b k 0 (-1):=.inl ⟨rfl,fun m h=>by omega⟩
theorem qLz.hit {t:List Ev} {b:Ev} {k i i1:Nat} (hi:i1=i+1) (hc:qTx t b k i):qLz t b k i1 (i:Int):=.inr ⟨i,rfl,by omega,hc,fun m h1 h2=>by omega⟩
theorem qLz.skip {t:List Ev} {b:Ev} {k i i1:Nat} {last:Int} (v:qLz t b k i last) (hi:i1=i+1) (hc:¬ qTx t b k i):qLz t b k i1 last:=by
  rcases v with ⟨h1,h2⟩ | ⟨l,h1,h2,h3,h4⟩
  . refine .inl ⟨h1,fun m hm=>?_⟩
    by_cases e:m=i
    . rw [e]; exact hc
    . exact h2 m (by omega)
  . refine .inr ⟨l,h1,by omega,h3,fun m hm1 hm2=>?_⟩
    by_cases e:m=i
    . rw [e]; exact hc
    . exact h4 m hm1 (by omega)
def qKf (p:Prog) (t:List Ev):Prop:=∀ j b,t[j]?=some b→qFl b=true→∀ k,k < 6→∀ last,qLz t b k j last→∀ l:Nat,last=(l:Int)→Bef p t j l
theorem last_ex {t:List Ev} {b:Ev} {k:Nat} (i:Nat):∃ last,qLz t b k i last:=by
  induction i with
  | zero=>exact ⟨_,.init⟩
  | succ i ih =>
    obtain ⟨x,hx⟩:=ih
    by_cases h:qTx t b k i
    . exact ⟨_,.hit rfl h⟩
    . exact ⟨_,hx.skip rfl h⟩
theorem qKf.ordered {p:Prog} {t:List Ev} (v:qKf p t) (ht:∀ e∈t,0≤e.thread∧e.thread < 6) {i j:Nat} {a b:Ev} (ha:t[i]?=some a) (hb:t[j]?=some b) (hij:i < j) (hc:qFq a b=true):Bef p t j i:=by
  have hta:=ht a (List.mem_of_getElem? ha);obtain ⟨k,hk⟩:∃ k:Nat,a.thread=(k:Int):=⟨a.thread.toNat,by omega⟩
  have htb:qFl b=true:=by
    simp only [qFq,Bool.and_eq_true] at hc;exact hc.1.1.1.2
  obtain ⟨last,hl⟩:=last_ex (t:=t) (b:=b) (k:=k) j;have hci:qTx t b k i:=⟨a,ha,hk,hc⟩;have h6:=v j b hb htb k (by omega) last hl
  rcases hl with ⟨_,h2⟩ | ⟨l,h1,h2,⟨c,hc1,hc2,hc3⟩,h4⟩
  . exact absurd hci (h2 i hij)
  . have hB:=h6 l h1
    by_cases e:i=l
    . rw [e]; exact hB
    . have hil:i < l:=by
        have:¬ l < i:=fun h=>h4 i h hij hci
        omega
      refine .step hil h2 ?_ hB;exact ⟨a,c,ha,hc1,by simp [qEe,qSb,hk,hc2]⟩
end Pm

/- Runs that do not race: who tells whom; traces that are alike; without the program.
   No condition: plain lemmas. -/

namespace Pm
set_option linter.unusedSimpArgs false
set_option linter.unusedVariables false
open Go Am

theorem qJx {p:Prog} {t:List Ev} {i j:Nat} {a b:Ev} (h:qEe p t i j a b=true) (hn:a.thread≠b.thread):qVq a.op=true∧(qKe b.op=true∨(a.op=12∧a.obj=b.thread)):=by
  have ra:∀ n,a.op=n→qVq n=true→qVq a.op=true:=fun n e h=>by rw [e]; exact h
  have rb:∀ n,b.op=n→qKe n=true→qKe b.op=true:=fun n e h=>by rw [e]; exact h
  unfold qEe qSb at h;simp only [hn,decide_false,Bool.false_or,Bool.or_eq_true,Bool.and_eq_true,decide_eq_true_eq] at h;rcases h with ⟨h1,h2⟩ | ⟨h1,h2⟩
  . exact ⟨ra 12 h1 rfl,.inr ⟨h1,h2⟩⟩
  . unfold qIn qIw at h2
    split at h2
    . rename_i e
      simp only [Bool.or_eq_true,decide_eq_true_eq] at h2;rcases h2 with h2 | h2
      . exact ⟨ra 14 e rfl,.inl (rb 13 h2 rfl)⟩
      . exact ⟨ra 14 e rfl,.inl (rb 15 h2 rfl)⟩
    . split at h2
      . rename_i e
        simp only [decide_eq_true_eq] at h2;exact ⟨ra 16 e rfl,.inl (rb 13 h2 rfl)⟩
      . split at h2
        . rename_i e
          simp only [Bool.or_eq_true,Bool.and_eq_true,decide_eq_true_eq] at h2;have r1:qVq a.op=true:=e.elim (fun e=>ra 18 e rfl) fun e=>ra 19 e rfl
          rcases h2.1 with h2 | h2
          . exact ⟨r1,.inl (rb 17 h2 rfl)⟩
          . exact ⟨r1,.inl (rb 19 h2 rfl)⟩
        . split at h2
          . rename_i e
            simp only [Bool.or_eq_true,Bool.and_eq_true,decide_eq_true_eq] at h2;rcases h2.1.1 with h2 | h2
            . exact ⟨ra 20 e rfl,.inl (rb 21 h2 rfl)⟩
            . exact ⟨ra 20 e rfl,.inl (rb 22 h2 rfl)⟩
          . split at h2
            . rename_i e
              simp only [Bool.or_eq_true,Bool.and_eq_true,decide_eq_true_eq] at h2;rcases h2.1 with h2 | h2
              . exact ⟨ra 23 e rfl,.inl (rb 21 h2 rfl)⟩
              . exact ⟨ra 23 e rfl,.inl (rb 22 h2 rfl)⟩
            . split at h2
              . rename_i e
                simp only [Bool.and_eq_true,decide_eq_true_eq] at h2;exact ⟨ra 24 e rfl,.inl (rb 25 h2.2 rfl)⟩
              . split at h2
                . rename_i e
                  simp only [Bool.and_eq_true,decide_eq_true_eq] at h2;exact ⟨ra 27 e rfl,.inl (rb 26 h2.1 rfl)⟩
                . simp only [Bool.or_eq_true,Bool.and_eq_true,decide_eq_true_eq] at h2
                  have r2:qKe b.op=true:=rb 20 h2.1.2 rfl;rcases h2.1.1.1 with h3 | h3
                  . exact ⟨ra 21 h3 rfl,.inl r2⟩
                  . exact ⟨ra 22 h3 rfl,.inl r2⟩
theorem Bef.out {p:Prog} {t:List Ev} {j i:Nat} (h:Bef p t j i):∀ {a b:Ev},t[i]?=some a→t[j]?=some b→a.thread≠b.thread→∃ (m:Nat) (c:Ev),i≤m∧m < j∧t[m]?=some c∧c.thread=a.thread∧qVq c.op=true:=by
  induction h with
  | @dir i hij hh =>
    intro a b ha hb hn;obtain ⟨a',b',h1,h2,h3⟩:=hh;rw [ha] at h1; cases h1;rw [hb] at h2; cases h2;exact ⟨i,a,Nat.le_refl _,hij,ha,rfl,(qJx h3 hn).1⟩
  | @step i k hik hkj hh hb' ih =>
    intro a b ha hb hn;obtain ⟨a',c,h1,h2,h3⟩:=hh;rw [ha] at h1; cases h1
    by_cases e:a.thread=c.thread
    . obtain ⟨m,d,m1,m2,m3,m4,m5⟩:=ih h2 hb (by rw [← e]; exact hn)
      exact ⟨m,d,by omega,m2,m3,by rw [m4,e],m5⟩
    . exact ⟨i,a,Nat.le_refl _,by omega,ha,rfl,(qJx h3 e).1⟩
theorem Bef.into {p:Prog} {t:List Ev} {j i:Nat} (h:Bef p t j i):∀ {a b:Ev},t[i]?=some a→t[j]?=some b→a.thread≠b.thread→∃ (m:Nat) (c:Ev),i < m∧m≤j∧t[m]?=some c∧c.thread=b.thread∧(qKe c.op=true∨∃ (m':Nat) (d:Ev),i≤m'∧m' < m∧t[m']?=some d∧d.op=12∧d.obj=b.thread):=by
  induction h with
  | @dir i hij hh =>
    intro a b ha hb hn;obtain ⟨a',b',h1,h2,h3⟩:=hh;rw [ha] at h1; cases h1;rw [hb] at h2; cases h2;refine ⟨j,b,hij,Nat.le_refl _,hb,rfl,?_⟩;rcases (qJx h3 hn).2 with h | h
    . exact .inl h
    . exact .inr ⟨i,a,Nat.le_refl _,hij,ha,h.1,h.2⟩
  | @step i k hik hkj hh hb' ih =>
    intro a b ha hb hn;obtain ⟨a',c,h1,h2,h3⟩:=hh;rw [ha] at h1; cases h1
    by_cases e:c.thread=b.thread
    . refine ⟨k,c,hik,by omega,h2,e,?_⟩
      rcases (qJx h3 (by rw [e]; exact hn)).2 with h | h
      . exact .inl h
      . exact .inr ⟨i,a,Nat.le_refl _,hik,ha,h.1,by rw [h.2,e]⟩
    . obtain ⟨m,d,m1,m2,m3,m4,m5⟩:=ih h2 hb e
      refine ⟨m,d,by omega,m2,m3,m4,?_⟩
      rcases m5 with h | ⟨m',d',g1,g2,g3⟩
      . exact .inl h
      . exact .inr ⟨m',d',by omega,g2,g3⟩

def qJe (a b:Ev):Prop:=a=b∨(a.thread=b.thread∧(a.op=7∨a.op=8)∧(b.op=0∨b.op=2))
structure Like (t u:List Ev):Prop where
  len:u.length=t.length
  one:∀ (i:Nat) (a b:Ev),t[i]?=some a→u[i]?=some b→qJe a b
theorem qJe.refl (a:Ev):qJe a a:=.inl rfl
theorem qJe.thread {a b:Ev} (h:qJe a b):a.thread=b.thread:=by
  rcases h with h | h
  . rw [h]
  . exact h.1
theorem qJe.rel {a b:Ev} (h:qJe a b) (hr:qVq a.op=true∨qKe a.op=true):a=b:=by
  rcases h with h | ⟨_,h | h,_⟩
  . exact h
  . rw [h] at hr; exact absurd hr (by decide)
  . rw [h] at hr; exact absurd hr (by decide)
theorem qJe.touch {a b:Ev} (h:qJe a b) (hr:qFl b=true):a=b:=by
  rcases h with h | ⟨_,_,h⟩
  . exact h
  . unfold qFl at hr
    simp at hr;omega
theorem qJe.same {f:Ev→Bool} {a b:Ev} (h:qJe a b) (hf:∀ e:Ev,e.op=0∨e.op=2∨e.op=7∨e.op=8→f e=false):f a=f b:=by
  rcases h with h | ⟨_,h1,h2⟩
  . rw [h]
  . rw [hf a (by omega),hf b (by omega)]
theorem Like.nil:Like [] []:=⟨rfl,fun i a b h=>by simp at h⟩
theorem Like.snoc {t u:List Ev} {a b:Ev} (h:Like t u) (he:qJe a b):Like (t++[a]) (u++[b]):=by
  refine ⟨by simp [h.len],fun i x y hx hy=>?_⟩
  rcases Nat.lt_or_ge i t.length with hi | hi
  . rw [List.getElem?_append_left hi] at hx
    rw [List.getElem?_append_left (by rw [h.len]; exact hi)] at hy
    exact h.one i x y hx hy
  . have:=(List.getElem?_eq_some_iff.1 hx).1
    simp at this;obtain rfl:i=t.length:=by omega
    simp at hx;rw [← h.len] at hy;simp at hy;rw [← hx,← hy]; exact he
theorem Like.map {t u:List Ev} (h:Like t u) {f:Ev→Bool} (hf:∀ e:Ev,e.op=0∨e.op=2∨e.op=7∨e.op=8→f e=false):u.map f=t.map f:=by
  apply List.ext_getElem?;intro i;rw [List.getElem?_map,List.getElem?_map]
  by_cases hi:i < t.length
  . have h1:t[i]?=some t[i]:=List.getElem?_eq_getElem hi
    have h2:u[i]?=some (u[i]'(by rw [h.len]; exact hi)):=List.getElem?_eq_getElem _
    rw [h1,h2];simp only [Option.map_some];rw [(h.one i _ _ h1 h2).same hf]
  . rw [List.getElem?_eq_none (by rw [h.len]; omega),List.getElem?_eq_none (by omega)]
theorem qQj (f:Ev→Bool) (t:List Ev) (n:Nat):cntE f t n=((t.map f).take n).countP id:=by
  unfold cntE;rw [← List.map_take,List.countP_map]
  rfl
theorem writesE_map (o:Int) (t:List Ev) (i n:Nat):qFb o t i n=(((t.map (wrE o)).take n).drop (i+1)).any id:=by
  unfold qFb;rw [← List.map_take,← List.map_drop,List.any_map]
  rfl
theorem Like.rule {p q:Prog} {t u:List Ev} (h:Like t u) (hc:q.chans=p.chans) (i j:Nat) (a b:Ev):qIn q u i j a b=qIn p t i j a b:=by
  have c1:∀ o n,cntE (qMt o) u n=cntE (qMt o) t n:=fun o n=>by
    rw [qQj,qQj,h.map];intro e he;unfold qMt;have:¬ e.op=20:=by omega
    simp [this]
  have c2:∀ o n,cntE (qNa o) u n=cntE (qNa o) t n:=fun o n=>by
    rw [qQj,qQj,h.map];intro e he;unfold qNa qIw;have h1:¬ e.op=21:=by omega
    have h2:¬ e.op=22:=by omega
    simp [h1,h2]
  have c3:∀ o,qFb o u i j=qFb o t i j:=fun o=>by
    rw [writesE_map,writesE_map,h.map];intro e he;unfold wrE;have h1:¬ e.op=18:=by omega
    have h2:¬ e.op=19:=by omega
    simp [h1,h2]
  have c4:∀ o,qOu q o=qOu p o:=fun o=>by unfold qOu; rw [hc]
  unfold qIn;simp only [c1,c2,c3,c4]
theorem Like.direct {p q:Prog} {t u:List Ev} (h:Like t u) (hc:q.chans=p.chans) {i j:Nat} {a b a' b':Ev} (ha:qJe a a') (hb:qJe b b') (hd:qEe p t i j a b=true):qEe q u i j a' b'=true:=by
  by_cases e:a.thread=b.thread
  . have:a'.thread=b'.thread:=by rw [← ha.thread,← hb.thread,e]
    simp [qEe,qSb,this]
  . obtain ⟨h1,h2⟩:=qJx hd e
    have ea:=ha.rel (.inl h1);subst ea;rcases h2 with h2 | ⟨h2,h3⟩
    . have eb:=hb.rel (.inr h2)
      subst eb;have:qEe q u i j a b=qEe p t i j a b:=by unfold qEe; rw [h.rule hc]
      rw [this]; exact hd
    . have:a.obj=b'.thread:=by rw [← hb.thread,h3]
      simp [qEe,qSb,h2,this]
theorem Like.hit {p q:Prog} {t u:List Ev} (h:Like t u) (hc:q.chans=p.chans) {i j:Nat} (hh:hitP p t i j):hitP q u i j:=by
  obtain ⟨a,b,h1,h2,h3⟩:=hh;have l1:=(List.getElem?_eq_some_iff.1 h1).1;have l2:=(List.getElem?_eq_some_iff.1 h2).1;have e1:u[i]?=some (u[i]'(by rw [h.len]; exact l1)):=List.getElem?_eq_getElem _
  have e2:u[j]?=some (u[j]'(by rw [h.len]; exact l2)):=List.getElem?_eq_getElem _
  exact ⟨_,_,e1,e2,h.direct hc (h.one _ _ _ h1 e1) (h.one _ _ _ h2 e2) h3⟩
theorem Like.bef {p q:Prog} {t u:List Ev} (h:Like t u) (hc:q.chans=p.chans) {i j:Nat} (hb:Bef p t j i):Bef q u j i:=by
  induction hb with
  | dir h1 h2=>exact .dir h1 (h.hit hc h2)
  | step h1 h2 h3 _ ih=>exact .step h1 h2 (h.hit hc h3) ih
theorem qKf.like {p q:Prog} {t u:List Ev} (v:qKf p t) (ht:∀ e∈t,0≤e.thread∧e.thread < 6) (h:Like t u) (hc:q.chans=p.chans):qKf q u:=by
  intro j b hb htb k hk last hl l hle;rcases hl with ⟨h1,_⟩ | ⟨m,h1,h2,⟨a,ha,hak,hcf⟩,_⟩
  . omega
  obtain rfl:l=m:=by omega
  have l1:=(List.getElem?_eq_some_iff.1 ha).1;have l2:=(List.getElem?_eq_some_iff.1 hb).1;rw [h.len] at l1 l2;have e1:t[l]?=some t[l]:=List.getElem?_eq_getElem l1;have e2:t[j]?=some t[j]:=List.getElem?_eq_getElem l2;have hta:qFl a=true:=by
    simp only [qFq,Bool.and_eq_true] at hcf;exact hcf.1.1.1.1
  have ea:=(h.one _ _ _ e1 ha).touch hta;have eb:=(h.one _ _ _ e2 hb).touch htb;rw [ea] at e1; rw [eb] at e2;exact h.bef hc (v.ordered ht e1 e2 h2 hcf)

/-! ### Runs: what is told of -/
theorem exec_ev {p:Prog} {n:Nat} {c:Ins} (ho:InsOk p n c) (k pc:Int) (r:List Int) (g:G):(exec k pc c r g).e.thread=k∧(exec k pc c r g).e.op=c.op:=by
  have h27:=ho.op;clear ho;obtain ⟨op,a,b,d⟩:=c;simp only at h27;rcases qLo h27 with rfl | rfl | rfl | rfl | rfl | rfl | rfl | rfl | rfl | rfl | rfl | rfl | rfl | rfl | rfl | rfl | rfl | rfl | rfl | rfl | rfl | rfl | rfl | rfl | rfl | rfl | rfl | rfl
  all_goals first
    | exact ⟨rfl,rfl⟩
    | (simp only [exec,qCn]; split<;>exact ⟨rfl,rfl⟩)
theorem exec_vars {p:Prog} {n:Nat} {c:Ins} (ho:InsOk p n c) (h7:c.op≠7) (h8:c.op≠8) (k pc:Int) (r:List Int) (g:G) (v:List Int):exec k pc c r { g with vars:=v }=⟨(exec k pc c r g).pc,(exec k pc c r g).r,{ (exec k pc c r g).g with vars:=v },(exec k pc c r g).e⟩∧(exec k pc c r g).g.vars=g.vars:=by
  have h27:=ho.op;clear ho;obtain ⟨op,a,b,d⟩:=c;simp only at h27 h7 h8;rcases qLo h27 with rfl | rfl | rfl | rfl | rfl | rfl | rfl | rfl | rfl | rfl | rfl | rfl | rfl | rfl | rfl | rfl | rfl | rfl | rfl | rfl | rfl | rfl | rfl | rfl | rfl | rfl | rfl | rfl
  all_goals first
    | exact absurd rfl h7
    | exact absurd rfl h8
    | exact ⟨rfl,rfl⟩
    | (simp only [exec,qCn]; split<;>exact ⟨rfl,rfl⟩)
theorem run_pre (p:Prog):∀ (ks:List Int) (x:RunR),∃ rest,(ks.foldl (qFz p) x).trace=x.trace++rest
  | [],x=>⟨[],by simp⟩
  | k :: ks,x=>by
    obtain ⟨rest,h⟩:=run_pre p ks (qFz p x k);rw [List.foldl_cons,h];unfold qFz
    split
    . exact ⟨(qJf p x.s k).2.1 :: rest,by simp⟩
    . exact ⟨rest,rfl⟩
theorem qKi {p:Prog} (hp:SoundP p) (ks:List Int):∀ e∈(runR p ks).trace,0≤e.thread∧e.thread < 6:=by
  suffices hh:∀ (ks:List Int) (x:RunR),Shape p x.s→(∀ e∈x.trace,0≤e.thread∧e.thread < 6)→∀ e∈(ks.foldl (qFz p) x).trace,0≤e.thread∧e.thread < 6 from
    hh ks _ (qMk hp) fun e he=>by simp at he
  intro ks
  induction ks with
  | nil=>intro x _ h; exact h
  | cons k ks ih =>
    intro x hx h;rw [List.foldl_cons];unfold qFz
    split
    . rename_i hf
      refine ih _ (qHt hp hx k).1 fun e he=>?_
      rcases List.mem_append.1 he with he | he
      . exact h e he
      . have he:=List.mem_singleton.1 he
        cases hc:canM p x.s k with
        | false=>rw [qKh hc] at hf; cases hf
        | true =>
          obtain ⟨n,t,i,c,r,rfl,A,hb,e'⟩:=hx.at' hp hc;rw [e'] at he;rw [he,(exec_ev A.ok _ _ _ _).1];have:=(List.getElem?_eq_some_iff.1 A.thr).1;have:=hp.threads.2;omega
    . exact ih _ hx h
theorem vals_of {p:Prog} (hp:SoundP p) {n:Nat} {c:Ins} (ho:InsOk p n c):(c.op=7→0≤c.b∧c.b < p.vars∧0≤c.a∧c.a < 4)∧(c.op=8→0≤c.a∧c.a < p.vars∧0≤c.b∧c.b < 4):=by
  constructor
  . intro h
    have hb:=ho.b;rw [h] at hb;have h2:=hb.2 (show ¬ (4:Nat)=0 by decide) (show ¬ (4:Nat)=1 by decide)
    have ha:=ho.reg (k:=0) (by omega) (by rw [h]; rfl) (.inl (rfl:(2:Nat)=2))
    have e:qHx c 0=c.a:=rfl;have e2:qFn p n (qCt 7 1)=p.vars:=rfl;rw [e] at ha;rw [e2] at h2;exact ⟨h2.1,h2.2.1,ha.1,ha.2⟩
  . intro h
    have hb:=ho.a;rw [h] at hb;have h2:=hb.2 (show ¬ (4:Nat)=0 by decide) (show ¬ (4:Nat)=1 by decide)
    have ha:=ho.reg (k:=1) (by omega) (by rw [h]; rfl) (.inr (rfl:(3:Nat)=3))
    have e:qHx c 1=c.b:=rfl;have e2:qFn p n (qCt 8 0)=p.vars:=rfl;rw [e] at ha;rw [e2] at h2;exact ⟨h2.1,h2.2.1,ha.1,ha.2⟩
structure Twin (p q:Prog) (s t:MS):Prop where
  thr:q.threads.length=p.threads.length
  len:∀ (k:Nat) (x y:List Ins),p.threads[k]?=some x→q.threads[k]?=some y→y.length=x.length
  at_:t.at_=s.at_
  began:t.g.began=s.g.began
  trap:t.g.trap=s.g.trap
  block:∀ (k:Nat) (x y:List Ins) (i:Nat) (c d:Ins),p.threads[k]?=some x→q.threads[k]?=some y→s.at_[k]?=some (i:Int)→x[i]?=some c→y[i]?=some d→qCz q.chans t.g d=qCz p.chans s.g c
section
variable {p q : Prog} {s t : MS}
theorem Twin.back {k:Nat} {tp:List Ins} (P:Twin p q s t) (h:p.threads[k]?=some tp):∃ tq,q.threads[k]?=some tq∧tq.length=tp.length:=by
  have hl:=(List.getElem?_eq_some_iff.1 h).1;have hq:q.threads[k]?=some (q.threads[k]'(by rw [P.thr]; exact hl)):=List.getElem?_eq_getElem _
  exact ⟨_,hq,P.len k _ _ h hq⟩
theorem Twin.can (P:Twin p q s t) (hs:Shape p s) (k:Int):canM q t k=canM p s k:=by
  unfold canM;rw [P.at_,P.began,P.trap]
  by_cases h0:0≤k∧k < s.at_.length
  . obtain ⟨n,rfl⟩:∃ n:Nat,k=n:=⟨k.toNat,by omega⟩
    have hn:n < s.at_.length:=by omega
    rw [show ((n:Int)).toNat=n by omega]
    have hnt:n < p.threads.length:=by rw [← hs.at_]; exact hn
    have e1:p.threads[n]?=some p.threads[n]:=List.getElem?_eq_getElem hnt;obtain ⟨tq,e2,el⟩:=P.back e1;have ea:s.at_[n]?=some s.at_[n]:=List.getElem?_eq_getElem hn;obtain ⟨g0,g1⟩:=hs.pc n _ _ ea e1;obtain ⟨i,hi⟩:∃ i:Nat,s.at_[n]=i:=⟨s.at_[n].toNat,by omega⟩
    rw [hi] at ea;have ip:insAt p s n=p.threads[n][i]?:=by unfold insAt; rw [e1,ea]; simp
    have iq:insAt q t n=tq[i]?:=by unfold insAt; rw [e2,P.at_,ea]; simp
    rw [ip,iq];cases hc:p.threads[n][i]? with
    | none =>
      have:tq[i]?=none:=by
        rw [List.getElem?_eq_none_iff] at hc ⊢; omega
      rw [this]
    | some c =>
      have hlt:=(List.getElem?_eq_some_iff.1 hc).1;have hc':tq[i]?=some (tq[i]'(by omega)):=List.getElem?_eq_getElem _
      rw [hc'];simp only;rw [P.block n _ _ i c _ e1 e2 ea hc hc']
  . have:(decide (0≤k) && decide (k < (s.at_.length:Int)))=false:=by
      rw [Bool.and_eq_false_iff];simp only [decide_eq_false_iff_not];omega
    rw [this];simp only [Bool.false_and]
end
end Pm
