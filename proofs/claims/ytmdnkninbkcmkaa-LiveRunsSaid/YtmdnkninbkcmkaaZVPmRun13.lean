/- The run of a program: what it comes to, walked.
   No condition: plain lemmas. -/

import Derived.KernelRfl
import Derived.Test.YtmdnkninbkcmkaaZVPmRun10
import Derived.Test.YtmdnkninbkcmkaaZVPmRun3
import Derived.Test.YtmdnkninbkcmkaaZVPm5
import Derived.Test.YtmdnkninbkcmkaaProg
namespace Pm
set_option linter.unusedSimpArgs false
set_option linter.unusedVariables false
open Go Am
open Go.Proofs.Try (prog)

section
variable {h : Heap} {K : Value → Heap → Prop}
open Classical in
set_option maxHeartbeats 4000000 in
theorem r4Status_call {p:Prog} {s:MS} (hp:SoundP p) (hs:Shape p s) (hk:K (v8 (qHe p s)) h):qBu prog 24 [.agg (vSt p s).toArray] h K:=by
  refine Pure.go (Pure.one (p:=v8 (qHe p s)) rfl fun h=>?_) hk
  refine call_r4Status (by simp) ?_
  have hlim:lim=1048576:=rfl;simp [-qAy,qAk,qAn,qAl,qAi,qAf,qAe,qAb,qAc,qAa,qAj,qAg,qAd,qAu,qAv,resV,retV,qAm,qAh,qAt,qAs,qAr,qAq,qNa,-qAo,qBa,qAw,qBe,vS_0,vS_1,vS_2,vS_3,vS_4,vS_5,vS_6,vS_7,vS_8,vS_9,qBp,qBo,qBn,qBm,qBl,qBk,qBj,qBi,qBh];rw [qAy];obtain ⟨tr,htr⟩:∃ tr,tr=s.g.trap:=⟨_,rfl⟩
  by_cases h1:tr=1
  . have e:qHe p s=3:=by unfold qHe; rw [if_pos (by rw [← htr]; exact h1)]
    rw [e];simp [qAk,qAn,qAl,qAi,qAf,qAe,qAb,qAc,qAa,qAj,qAg,qAd,qAu,qAv,resV,retV,qAm,qAh,qAt,qAs,qAr,qAq,-qAo,qBa,qAw,qBe,vS_0,vS_1,vS_2,vS_3,vS_4,vS_5,vS_6,vS_7,vS_8,vS_9,qBp,qBo,qBn,qBm,qBl,qBk,qBj,qBi,qBh,← htr,h1]
  . simp [-qAy,qAk,qAn,qAl,qAi,qAf,qAe,qAb,qAc,qAa,qAj,qAg,qAd,qAu,qAv,resV,retV,qAm,qAh,qAt,qAs,qAr,qAq,-qAo,qBa,qAw,qBe,vS_0,vS_1,vS_2,vS_3,vS_4,vS_5,vS_6,vS_7,vS_8,vS_9,qBp,qBo,qBn,qBm,qBl,qBk,qBj,qBi,qBh,← htr,h1]
    refine qTw (σ:=Bool) (fun x=>[(3,vB x)]) (fun _=>h++[bx (vSt p s) 19]) (fun x=>(∀ k:Nat,k < s.at_.length→canM p s k=false)∧(x=true↔∀ k:Nat,k < s.at_.length→qMe p s k)) ?_ ?_
    . simp [-qAy,qAk,qAn,qAl,qAi,qAf,qAe,qAb,qAc,qAa,qAj,qAg,qAd,qAu,qAv,resV,retV,qAm,qAh,qAt,qAs,qAr,qAq]
      refine qFe (σ:=Nat×Bool) (fun x=>[(1,ptr h.length),(3,vB x.2),(4,vI x.1)]) (fun _=>h++[bx (vSt p s) 19]) (fun x=>x.1≤s.at_.length∧(∀ k:Nat,k < x.1→canM p s k=false)∧(x.2=true↔∀ k:Nat,k < x.1→qMe p s k)) (fun x=>s.at_.length - x.1) (0,true) (by simp) rfl (by simp) ?_
      rintro ⟨k,b⟩ fr ⟨hk,hcan,hb⟩;simp only at hk hcan hb ⊢;have hal:=hs.at_;have hth:=hp.threads
      by_cases hlt:k < s.at_.length
      . obtain ⟨k1,hk1,wk⟩:=qCj (show k < lim by omega)
        have hkf:(k:Int) < s.at_.length:=by omega
        rw [qAy];simp [-qAy,qAk,qAn,qAl,qAi,qAf,qAe,qAb,qAc,qAa,qAj,qAg,qAd,qAu,qAv,resV,retV,qAm,qAh,qAt,qAs,qAr,qAq,-qAo,qBa,qAw,qBe,vS_0,vS_1,vS_2,vS_3,vS_4,vS_5,vS_6,vS_7,vS_8,vS_9,qBp,qBo,qBn,qBm,qBl,qBk,qBj,qBi,qBh,hkf];rw [qAy];simp [-qAy,qAk,qAn,qAl,qAi,qAf,qAe,qAb,qAc,qAa,qAj,qAg,qAd,qAu,qAv,resV,retV,qAm,qAh,qAt,qAs,qAr,qAq,-qAo,qBa,qAw,qBe,vS_0,vS_1,vS_2,vS_3,vS_4,vS_5,vS_6,vS_7,vS_8,vS_9,qBp,qBo,qBn,qBm,qBl,qBk,qBj,qBi,qBh]
        rw [qAy];simp [-qAy,qAk,qAn,qAl,qAi,qAf,qAe,qAb,qAc,qAa,qAj,qAg,qAd,qAu,qAv,resV,retV,qAm,qAh,qAt,qAs,qAr,qAq,-qAo,qBa,qAw,qBe,vS_0,vS_1,vS_2,vS_3,vS_4,vS_5,vS_6,vS_7,vS_8,vS_9,qBp,qBo,qBn,qBm,qBl,qBk,qBj,qBi,qBh];refine r4Can_call hp hs ?_;cases hc:canM p s k with
        | true =>
          have e:qHe p s=0:=by
            unfold qHe;rw [if_neg (by rw [← htr]; exact h1),if_pos ⟨k,hlt,hc⟩]
          rw [e];simp [qAk,qAn,qAl,qAi,qAf,qAe,qAb,qAc,qAa,qAj,qAg,qAd,qAu,qAv,resV,retV,qAm,qAh,qAt,qAs,qAr,qAq,callK_def]
        | false =>
          have hkt:k < p.threads.length:=by omega
          have hktI:(k:Int) < p.threads.length:=by omega
          have ht:p.threads[k]?=some p.threads[k]:=List.getElem?_eq_getElem hkt;obtain ⟨t,htt⟩:∃ t,t=p.threads[k]:=⟨_,rfl⟩;rw [← htt] at ht;obtain ⟨B,hB0,hB1,hB,hB2⟩:=qFm (l:=s.g.began) (x:=(k:Int)) (by omega) (by rw [hs.began]; omega)
          obtain rfl:k=B:=by omega
          obtain ⟨A,hA0,hA1,hA,hA2⟩:=qFm (l:=s.at_) (x:=(k:Int)) (by omega) (by omega)
          obtain rfl:k=A:=by omega
          obtain ⟨y,hy⟩:∃ y,y=gI s.g.began k:=⟨_,rfl⟩;obtain ⟨a,ha⟩:∃ a,a=gI s.at_ k:=⟨_,rfl⟩;rw [← hy] at hB2;rw [← ha] at hA2;have hend:qMe p s k↔(y=1→(t.length:Int)≤a):=by
            unfold qMe;rw [← hy,← ha];constructor
            . intro q h; exact q h t ht
            . intro q h t' ht'; rw [ht] at ht'; cases ht'; exact q h
          have next:∀ b':Bool,(b'=true↔b=true∧qMe p s k)→(k1≤s.at_.length∧(∀ m:Nat,m < k1→canM p s m=false)∧(b'=true↔∀ m:Nat,m < k1→qMe p s m)):=fun b' hb'=>by
            refine ⟨by omega,fun m hm=>?_,?_⟩
            . rcases Nat.lt_or_ge m k with h2 | h2
              . exact hcan m h2
              . obtain rfl:m=k:=by omega
                exact hc
            . rw [hb',hb]
              constructor
              . rintro ⟨q1,q2⟩ m hm
                rcases Nat.lt_or_ge m k with h2 | h2
                . exact q1 m h2
                . obtain rfl:m=k:=by omega
                  exact q2
              . intro q; exact ⟨fun m hm=>q m (by omega),q k (by omega)⟩
          simp [-qAy,qAk,qAn,qAl,qAi,qAf,qAe,qAb,qAc,qAa,qAj,qAg,qAd,qAu,qAv,resV,retV,qAm,qAh,qAt,qAs,qAr,qAq,callK_def]
          by_cases hy1:y=1
          . by_cases hl:a < t.length
            . simp [qAk,qAn,qAl,qAi,qAf,qAe,qAb,qAc,qAa,qAj,qAg,qAd,qAu,qAv,resV,retV,qAm,qAh,qAt,qAs,qAr,qAq,-qAo,qBa,qAw,qBe,vS_0,vS_1,vS_2,vS_3,vS_4,vS_5,vS_6,vS_7,vS_8,vS_9,qBp,qBo,qBn,qBm,qBl,qBk,qBj,qBi,qBh,hB1,hB2,hA1,hA2,hktI,ht,hkf,hy1,hl,wk]
              exact .go (k1,false) (by simp only []; omega) (by simp) rfl (next false (by rw [hend]; simp [hy1]; omega))
            . simp [qAk,qAn,qAl,qAi,qAf,qAe,qAb,qAc,qAa,qAj,qAg,qAd,qAu,qAv,resV,retV,qAm,qAh,qAt,qAs,qAr,qAq,-qAo,qBa,qAw,qBe,vS_0,vS_1,vS_2,vS_3,vS_4,vS_5,vS_6,vS_7,vS_8,vS_9,qBp,qBo,qBn,qBm,qBl,qBk,qBj,qBi,qBh,hB1,hB2,hA1,hA2,hktI,ht,hkf,hy1,hl,wk]
              exact .go (k1,b) (by simp only []; omega) (by simp) rfl (next b (by rw [hend]; simp [hy1]; omega))
          . simp [qAk,qAn,qAl,qAi,qAf,qAe,qAb,qAc,qAa,qAj,qAg,qAd,qAu,qAv,resV,retV,qAm,qAh,qAt,qAs,qAr,qAq,-qAo,qBa,qAw,qBe,vS_0,vS_1,vS_2,vS_3,vS_4,vS_5,vS_6,vS_7,vS_8,vS_9,qBp,qBo,qBn,qBm,qBl,qBk,qBj,qBi,qBh,hB1,hB2,hA1,hA2,hktI,ht,hkf,hy1,wk]
            exact .go (k1,b) (by simp only []; omega) (by simp) rfl (next b (by rw [hend]; simp [hy1]))
      . obtain rfl:k=s.at_.length:=by omega
        rw [qAy];simp [qAk,qAn,qAl,qAi,qAf,qAe,qAb,qAc,qAa,qAj,qAg,qAd,qAu,qAv,resV,retV,qAm,qAh,qAt,qAs,qAr,qAq,-qAo,qBa,qAw,qBe,vS_0,vS_1,vS_2,vS_3,vS_4,vS_5,vS_6,vS_7,vS_8,vS_9,qBp,qBo,qBn,qBm,qBl,qBk,qBj,qBi,qBh];exact .go b (by simp) rfl ⟨hcan,hb⟩
    . rintro b fr ⟨hno',hb⟩
      have hno:¬ ∃ k:Nat,k < s.at_.length∧canM p s k=true:=fun ⟨m,h2,h3⟩=>by rw [hno' m h2] at h3; cases h3
      cases b with
      | true =>
        have e:qHe p s=1:=by
          unfold qHe;rw [if_neg (by rw [← htr]; exact h1),if_neg hno,if_pos (hb.1 rfl)]
        rw [e];simp [qAk,qAn,qAl,qAi,qAf,qAe,qAb,qAc,qAa,qAj,qAg,qAd,qAu,qAv,resV,retV,qAm,qAh,qAt,qAs,qAr,qAq]
      | false =>
        have e:qHe p s=2:=by
          unfold qHe;rw [if_neg (by rw [← htr]; exact h1),if_neg hno,if_neg (fun q=>by have:=hb.2 q; cases this)]
        rw [e];simp [qAk,qAn,qAl,qAi,qAf,qAe,qAb,qAc,qAa,qAj,qAg,qAd,qAu,qAv,resV,retV,qAm,qAh,qAt,qAs,qAr,qAq]
end
end Pm

/- The run of a program: the whole, walked.
   No condition: plain lemmas. -/

namespace Pm
set_option linter.unusedSimpArgs false
set_option linter.unusedVariables false
open Go Am
open Go.Proofs.Try (prog)

theorem qBv {p:Prog} {s:MS} {z:List Value} (h:z.length=19):setAll z 0 (vSt p s)=vSt p s:=qHf (by rw [qBa,h])
theorem qEv {p:Prog}:cellsOf (.agg (qDo p).toArray)=some (qDo p):=rfl
theorem qDz {p:Prog}:(qDo p).length=7:=rfl
theorem qDl {p:Prog}:List.take 7 (qDo p)=qDo p:=rfl
instance : Flat vEv 6 := ⟨fun _ => rfl⟩
section
variable {h pre g : Heap}
end
structure RunR where
  s:MS
  picks:List Int
  trace:List Ev
def stepR (p:Prog) (x:RunR) (k:Int):RunR:=if (qIo p x.s k).2.2=true then ⟨(qIo p x.s k).1,x.picks++[k],x.trace++[(qIo p x.s k).2.1]⟩ else x
structure RunI (p:Prog) (x:RunR) (n:Nat):Prop where
  shape:Shape p x.s
  told:x.s.g.told.length≤n
  picks:x.picks.length≤n
  trace:x.trace.length≤n
theorem RunI.next {p:Prog} (hp:SoundP p) {x:RunR} {n:Nat} (h:RunI p x n) (k:Int):RunI p (stepR p x k) (n+1):=by
  obtain ⟨h1,h2⟩:=qHd hp h.shape k;have:=h.told; have:=h.picks; have:=h.trace;unfold stepR
  split
  . exact ⟨h1,by simp only; omega,by simp; omega,by simp; omega⟩
  . exact ⟨h.shape,by omega,by omega,by omega⟩
theorem RunI.start {p:Prog} (hp:SoundP p):RunI p ⟨newM p,[],[]⟩ 0:=⟨newM_shape hp,by simp [newM],by simp,by simp⟩
section
variable {h : Heap} {K : Value → Heap → Prop}
end
end Pm
