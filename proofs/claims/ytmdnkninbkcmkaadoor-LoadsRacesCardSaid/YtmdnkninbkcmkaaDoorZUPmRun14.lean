/- The run of a program: what it comes to, walked.
   No condition: plain lemmas. -/

import Derived.Test.YtmdnkninbkcmkaaDoorZUPmRun10
import Derived.Test.YtmdnkninbkcmkaaDoorZUPmRun3
import Derived.Test.YtmdnkninbkcmkaaDoorZUPmCfgC
import Derived.Test.YtmdnkninbkcmkaaDoorZUPmSound5
namespace Pm
set_option linter.unusedSimpArgs false
set_option linter.unusedVariables false
open Go Am
open Go.Proofs.Tryd (prog)

section
variable {h : Heap} {K : Value → Heap → Prop}
open Classical in
set_option maxHeartbeats 4000000 in
theorem r4Status_call {p:Prog} {s:MS} (hp:SoundP p) (hs:Shape p s) (hk:K (v8 (qHu p s)) h):qBn prog 18 [.agg (vSt p s).toArray] h K:=by
  refine Pure.go (Pure.one (p:=v8 (qHu p s)) rfl fun h=>?_) hk
  refine call_r4Status (by simp) ?_
  have hlim:lim=1048576:=rfl;simp [-qAy,qAl,qAo,qAm,qAi,qAf,qAe,qAb,qAc,qAa,qAj,qAg,qAd,qAu,qAv,resV,retV,qAn,qAh,qAs,qAr,qAq,qAp,qPl,-qAk,qBg,qBc,qBj,vS_0,vS_1,vS_2,vS_3,vS_4,vS_5,vS_6,vS_7,vS_8,vS_9,qBy,qBx,qBw,qBv,qBu,qBt,qBs,qBp,qBr];rw [qAy];obtain ⟨tr,htr⟩:∃ tr,tr=s.g.trap:=⟨_,rfl⟩
  by_cases h1:tr=1
  . have e:qHu p s=3:=by unfold qHu; rw [if_pos (by rw [← htr]; exact h1)]
    rw [e];simp [qAl,qAo,qAm,qAi,qAf,qAe,qAb,qAc,qAa,qAj,qAg,qAd,qAu,qAv,resV,retV,qAn,qAh,qAs,qAr,qAq,qAp,-qAk,qBg,qBc,qBj,vS_0,vS_1,vS_2,vS_3,vS_4,vS_5,vS_6,vS_7,vS_8,vS_9,qBy,qBx,qBw,qBv,qBu,qBt,qBs,qBp,qBr,← htr,h1]
  . simp [-qAy,qAl,qAo,qAm,qAi,qAf,qAe,qAb,qAc,qAa,qAj,qAg,qAd,qAu,qAv,resV,retV,qAn,qAh,qAs,qAr,qAq,qAp,-qAk,qBg,qBc,qBj,vS_0,vS_1,vS_2,vS_3,vS_4,vS_5,vS_6,vS_7,vS_8,vS_9,qBy,qBx,qBw,qBv,qBu,qBt,qBs,qBp,qBr,← htr,h1]
    refine qVo (σ:=Bool) (fun x=>[(3,vB x)]) (fun _=>h++[bx (vSt p s) 19]) (fun x=>(∀ k:Nat,k < s.at_.length→canM p s k=false)∧(x=true↔∀ k:Nat,k < s.at_.length→qRh p s k)) ?_ ?_
    . simp [-qAy,qAl,qAo,qAm,qAi,qAf,qAe,qAb,qAc,qAa,qAj,qAg,qAd,qAu,qAv,resV,retV,qAn,qAh,qAs,qAr,qAq,qAp]
      refine qEa (σ:=Nat×Bool) (fun x=>[(1,ptr h.length),(3,vB x.2),(4,vI x.1)]) (fun _=>h++[bx (vSt p s) 19]) (fun x=>x.1≤s.at_.length∧(∀ k:Nat,k < x.1→canM p s k=false)∧(x.2=true↔∀ k:Nat,k < x.1→qRh p s k)) (fun x=>s.at_.length - x.1) (0,true) (by simp) rfl (by simp) ?_
      rintro ⟨k,b⟩ fr ⟨hk,hcan,hb⟩;simp only at hk hcan hb ⊢;have hal:=hs.at_;have hth:=hp.threads
      by_cases hlt:k < s.at_.length
      . obtain ⟨k1,hk1,wk⟩:=qBm (show k < lim by omega)
        have hkf:(k:Int) < s.at_.length:=by omega
        rw [qAy];simp [-qAy,qAl,qAo,qAm,qAi,qAf,qAe,qAb,qAc,qAa,qAj,qAg,qAd,qAu,qAv,resV,retV,qAn,qAh,qAs,qAr,qAq,qAp,-qAk,qBg,qBc,qBj,vS_0,vS_1,vS_2,vS_3,vS_4,vS_5,vS_6,vS_7,vS_8,vS_9,qBy,qBx,qBw,qBv,qBu,qBt,qBs,qBp,qBr,hkf];rw [qAy];simp [-qAy,qAl,qAo,qAm,qAi,qAf,qAe,qAb,qAc,qAa,qAj,qAg,qAd,qAu,qAv,resV,retV,qAn,qAh,qAs,qAr,qAq,qAp,-qAk,qBg,qBc,qBj,vS_0,vS_1,vS_2,vS_3,vS_4,vS_5,vS_6,vS_7,vS_8,vS_9,qBy,qBx,qBw,qBv,qBu,qBt,qBs,qBp,qBr]
        rw [qAy];simp [-qAy,qAl,qAo,qAm,qAi,qAf,qAe,qAb,qAc,qAa,qAj,qAg,qAd,qAu,qAv,resV,retV,qAn,qAh,qAs,qAr,qAq,qAp,-qAk,qBg,qBc,qBj,vS_0,vS_1,vS_2,vS_3,vS_4,vS_5,vS_6,vS_7,vS_8,vS_9,qBy,qBx,qBw,qBv,qBu,qBt,qBs,qBp,qBr];refine r4Can_call hp hs ?_;cases hc:canM p s k with
        | true =>
          have e:qHu p s=0:=by
            unfold qHu;rw [if_neg (by rw [← htr]; exact h1),if_pos ⟨k,hlt,hc⟩]
          rw [e];simp [qAl,qAo,qAm,qAi,qAf,qAe,qAb,qAc,qAa,qAj,qAg,qAd,qAu,qAv,resV,retV,qAn,qAh,qAs,qAr,qAq,qAp,callK_def]
        | false =>
          have hkt:k < p.threads.length:=by omega
          have hktI:(k:Int) < p.threads.length:=by omega
          have ht:p.threads[k]?=some p.threads[k]:=List.getElem?_eq_getElem hkt;obtain ⟨t,htt⟩:∃ t,t=p.threads[k]:=⟨_,rfl⟩;rw [← htt] at ht;obtain ⟨B,hB0,hB1,hB,hB2⟩:=qFo (l:=s.g.began) (x:=(k:Int)) (by omega) (by rw [hs.began]; omega)
          obtain rfl:k=B:=by omega
          obtain ⟨A,hA0,hA1,hA,hA2⟩:=qFo (l:=s.at_) (x:=(k:Int)) (by omega) (by omega)
          obtain rfl:k=A:=by omega
          obtain ⟨y,hy⟩:∃ y,y=gI s.g.began k:=⟨_,rfl⟩;obtain ⟨a,ha⟩:∃ a,a=gI s.at_ k:=⟨_,rfl⟩;rw [← hy] at hB2;rw [← ha] at hA2;have hend:qRh p s k↔(y=1→(t.length:Int)≤a):=by
            unfold qRh;rw [← hy,← ha];constructor
            . intro q h; exact q h t ht
            . intro q h t' ht'; rw [ht] at ht'; cases ht'; exact q h
          have next:∀ b':Bool,(b'=true↔b=true∧qRh p s k)→(k1≤s.at_.length∧(∀ m:Nat,m < k1→canM p s m=false)∧(b'=true↔∀ m:Nat,m < k1→qRh p s m)):=fun b' hb'=>by
            refine ⟨by omega,fun m hm=>?_,?_⟩
            . rcases Nat.lt_or_ge m k with h2 | h2
              . exact hcan m h2
              . obtain rfl:m=k:=by omega
                exact hc
            . rw [hb',hb]
              constructor
              . rintro ⟨q1,q2⟩ m hm
                rcases Nat.lt_or_ge m k with h2 | h2
                . exact q1 m h2
                . obtain rfl:m=k:=by omega
                  exact q2
              . intro q; exact ⟨fun m hm=>q m (by omega),q k (by omega)⟩
          simp [-qAy,qAl,qAo,qAm,qAi,qAf,qAe,qAb,qAc,qAa,qAj,qAg,qAd,qAu,qAv,resV,retV,qAn,qAh,qAs,qAr,qAq,qAp,callK_def]
          by_cases hy1:y=1
          . by_cases hl:a < t.length
            . simp [qAl,qAo,qAm,qAi,qAf,qAe,qAb,qAc,qAa,qAj,qAg,qAd,qAu,qAv,resV,retV,qAn,qAh,qAs,qAr,qAq,qAp,-qAk,qBg,qBc,qBj,vS_0,vS_1,vS_2,vS_3,vS_4,vS_5,vS_6,vS_7,vS_8,vS_9,qBy,qBx,qBw,qBv,qBu,qBt,qBs,qBp,qBr,hB1,hB2,hA1,hA2,hktI,ht,hkf,hy1,hl,wk]
              exact .go (k1,false) (by simp only []; omega) (by simp) rfl (next false (by rw [hend]; simp [hy1]; omega))
            . simp [qAl,qAo,qAm,qAi,qAf,qAe,qAb,qAc,qAa,qAj,qAg,qAd,qAu,qAv,resV,retV,qAn,qAh,qAs,qAr,qAq,qAp,-qAk,qBg,qBc,qBj,vS_0,vS_1,vS_2,vS_3,vS_4,vS_5,vS_6,vS_7,vS_8,vS_9,qBy,qBx,qBw,qBv,qBu,qBt,qBs,qBp,qBr,hB1,hB2,hA1,hA2,hktI,ht,hkf,hy1,hl,wk]
              exact .go (k1,b) (by simp only []; omega) (by simp) rfl (next b (by rw [hend]; simp [hy1]; omega))
          . simp [qAl,qAo,qAm,qAi,qAf,qAe,qAb,qAc,qAa,qAj,qAg,qAd,qAu,qAv,resV,retV,qAn,qAh,qAs,qAr,qAq,qAp,-qAk,qBg,qBc,qBj,vS_0,vS_1,vS_2,vS_3,vS_4,vS_5,vS_6,vS_7,vS_8,vS_9,qBy,qBx,qBw,qBv,qBu,qBt,qBs,qBp,qBr,hB1,hB2,hA1,hA2,hktI,ht,hkf,hy1,wk]
            exact .go (k1,b) (by simp only []; omega) (by simp) rfl (next b (by rw [hend]; simp [hy1]))
      . obtain rfl:k=s.at_.length:=by omega
        rw [qAy];simp [qAl,qAo,qAm,qAi,qAf,qAe,qAb,qAc,qAa,qAj,qAg,qAd,qAu,qAv,resV,retV,qAn,qAh,qAs,qAr,qAq,qAp,-qAk,qBg,qBc,qBj,vS_0,vS_1,vS_2,vS_3,vS_4,vS_5,vS_6,vS_7,vS_8,vS_9,qBy,qBx,qBw,qBv,qBu,qBt,qBs,qBp,qBr];exact .go b (by simp) rfl ⟨hcan,hb⟩
    . rintro b fr ⟨hno',hb⟩
      have hno:¬ ∃ k:Nat,k < s.at_.length∧canM p s k=true:=fun ⟨m,h2,h3⟩=>by rw [hno' m h2] at h3; cases h3
      cases b with
      | true =>
        have e:qHu p s=1:=by
          unfold qHu;rw [if_neg (by rw [← htr]; exact h1),if_neg hno,if_pos (hb.1 rfl)]
        rw [e];simp [qAl,qAo,qAm,qAi,qAf,qAe,qAb,qAc,qAa,qAj,qAg,qAd,qAu,qAv,resV,retV,qAn,qAh,qAs,qAr,qAq,qAp]
      | false =>
        have e:qHu p s=2:=by
          unfold qHu;rw [if_neg (by rw [← htr]; exact h1),if_neg hno,if_neg (fun q=>by have:=hb.2 q; cases this)]
        rw [e];simp [qAl,qAo,qAm,qAi,qAf,qAe,qAb,qAc,qAa,qAj,qAg,qAd,qAu,qAv,resV,retV,qAn,qAh,qAs,qAr,qAq,qAp]
end
end Pm

/- The run of a program: the whole, walked.
   No condition: plain lemmas. -/

namespace Pm
set_option linter.unusedSimpArgs false
set_option linter.unusedVariables false
open Go Am
open Go.Proofs.Tryd (prog)

theorem setAll_vSt2 {p:Prog} {s:MS} {z:List Value} (h:z.length=19):setAll z 0 (vSt p s)=vSt p s:=qFw (by rw [qBg,h])
theorem qBl {p:Prog}:cellsOf (.agg (qCs p).toArray)=some (qCs p):=rfl
theorem qBh {p:Prog}:(qCs p).length=7:=rfl
theorem qBd {p:Prog}:List.take 7 (qCs p)=qCs p:=rfl
instance : Flat vEv 6 := ⟨fun _ => rfl⟩
section
variable {h pre g : Heap}
theorem qRy {e:Nat} {P:Program} {K:Fr→Heap→Prop} {is:List AIns} {d:Option Nat} {fr:Fr} {H0 G:Heap} {k n:Nat} {w:Value} {cs new:List Value} (ha:Acc e (h.length+pre.length) (h++(pre++g)) w n cs) (hG:G=g++[bx new e]) (hne:new.length=e) (hk:k=h.length+(pre.length+g.length)) (hl:n+1≤lim)
    (hn:∀ w' g2,Acc e (h.length+pre.length) (h++(pre++g2)) w' (n+1) (cs++new)→cellsOf w'=some [w']→(∀ (e' n':Nat) (cs':List Value) (u:Value),Acc e' (h.length+pre.length) (h++(pre++g)) u n' cs'→qMw w u→Acc e' (h.length+pre.length) (h++(pre++g2)) u n' cs'∧qMw w' u)→(∀ i,i < (h++(pre++g)).length→rid w≠some i→(h++(pre++g2))[i]?=(h++(pre++g))[i]?)→pOps P K is (updO fr d w') (h++(pre++g2))):eK P K is d [] fr H0 (pApp (h++(pre++G)) e w (.slice (some ⟨k,0,none⟩) 1 0)):=by
  subst hG;have e0:h++(pre++(g++[bx new e]))=(h++(pre++g))++[bx new e]:=by simp
  have hp:qDt (h++(pre++(g++[bx new e]))) e (.slice (some ⟨k,0,none⟩) 1 0)=some (1,new):=by
    rw [e0,show k=(h++(pre++g)).length+0 by simp [hk]]
    exact qPa rfl (by omega)
  have kx:qCq (h++(pre++g)).length (h++(pre++g)) (h++(pre++(g++[bx new e]))):=by
    rw [e0]; exact .app
  obtain ⟨w',h2,q1,q2,q3,q4,q5⟩:=ha.app (by simp) kx hp (by omega) hl
  rw [q1,eK_some];have k':qCq (h++pre).length (h++pre) h2:=by
    refine ⟨Nat.le_trans (by simp) q3.1,fun i hi=>?_⟩
    rw [List.length_append] at hi;rw [q3.2 i hi,← List.append_assoc,List.getElem?_append_left (by rw [List.length_append]; omega)]
  obtain ⟨g2,eg⟩:=k'.ext;rw [List.append_assoc] at eg;subst eg;refine ⟨trivial,hn w' g2 q2 (qEo q2) (fun e' n' cs' u hu hap=>⟨hu.keep fun i hi=>q4 i (hu.lt hi) fun hw=>hap i hw hi,fun i h1 h2=>?_⟩) q4⟩
  rcases q5 i h1 with h3 | h3
  . exact hap i h3 h2
  . have:=hu.lt h2
    omega
theorem acc_stay {e b n:Nat} {H:Heap} {w:Value} {cs:List Value} (c1:Acc e b H w n cs):qNq w=true:=by rcases c1 with ⟨q,_⟩ | ⟨_,_,q,_⟩<;>rw [q]<;>rfl
theorem qQl {pre':Heap} {e:Nat} {w:Value} {n:Nat} {cs:List Value} (hl:pre'.length=pre.length) (ha:Acc e (h.length+pre.length) (h++(pre++g)) w n cs):Acc e (h.length+pre'.length) (h++(pre'++g)) w n cs:=by
  rcases ha with h1 | ⟨id,ver,h1,h2,h3,h4⟩
  . exact Or.inl h1
  . exact Or.inr ⟨id,ver,h1,by omega,by rw [at_pre hl h2]; exact h3,h4⟩
theorem qOj {e:Nat} {w:Value} {n:Nat} {cs:List Value} {g':Heap} {b:Nat} (ha:Acc e b (h++(pre++g)) w n cs):Acc e b (h++(pre++(g++g'))) w n cs:=by
  refine ha.ext ?_;have:h++(pre++(g++g'))=(h++(pre++g))++g':=by simp
  rw [this]; exact .app
end
structure RunR where
  s:MS
  picks:List Int
  trace:List Ev
def qFz (p:Prog) (x:RunR) (k:Int):RunR:=if (qJf p x.s k).2.2=true then ⟨(qJf p x.s k).1,x.picks++[k],x.trace++[(qJf p x.s k).2.1]⟩ else x
def runR (p:Prog) (ks:List Int):RunR:=ks.foldl (qFz p) ⟨newM p,[],[]⟩
theorem runR_next {p:Prog} {ks:List Int} {i i1:Nat} {k:Int} (hx:ks[i]?=some k) (hi:i1=i+1):runR p (ks.take i1)=qFz p (runR p (ks.take i)) k:=by
  rw [take_snoc' hx hi];unfold runR;rw [List.foldl_append]
  rfl
structure RunI (p:Prog) (x:RunR) (n:Nat):Prop where
  shape:Shape p x.s
  told:x.s.g.told.length≤n
  picks:x.picks.length≤n
  trace:x.trace.length≤n
theorem RunI.next {p:Prog} (hp:SoundP p) {x:RunR} {n:Nat} (h:RunI p x n) (k:Int):RunI p (qFz p x k) (n+1):=by
  obtain ⟨h1,h2⟩:=qHt hp h.shape k;have:=h.told; have:=h.picks; have:=h.trace;unfold qFz
  split
  . exact ⟨h1,by simp only; omega,by simp; omega,by simp; omega⟩
  . exact ⟨h.shape,by omega,by omega,by omega⟩
theorem RunI.start {p:Prog} (hp:SoundP p):RunI p ⟨newM p,[],[]⟩ 0:=⟨qMk hp,by simp [newM],by simp,by simp⟩
theorem runI {p:Prog} (hp:SoundP p) (ks:List Int):RunI p (runR p ks) ks.length:=by
  suffices hh:∀ (ks:List Int) (x:RunR) (n:Nat),RunI p x n→RunI p (ks.foldl (qFz p) x) (n+ks.length) by
    have:=hh ks _ 0 (RunI.start hp);rw [Nat.zero_add] at this;exact this
  intro ks
  induction ks with
  | nil=>intro x n h; exact h
  | cons k ks ih =>
    intro x n h;have:=ih _ _ (h.next hp k);rw [List.foldl_cons,List.length_cons,show n+(ks.length+1)=n+1+ks.length by omega]
    exact this
noncomputable def vRun (p:Prog) (x:RunR):List Value:=[vL vI x.s.g.told,v8 (qHu p x.s),vL vI x.picks,vM 6 vEv x.trace]
section
variable {h : Heap} {K : Value → Heap → Prop}
set_option maxHeartbeats 8000000 in
theorem r5Run_call {p:Prog} {ks:List Int} (hp:SoundP p) (hks:ks.length≤2000) (hk:K (.tuple #[.agg (vRun p (runR p ks)).toArray,vI 0]) h):qBn prog 8 [.agg (qCs p).toArray,vL vI ks] h K:=by
  refine qBn.forget ?_;refine call_r5Run (by simp) ?_
  have hlim:lim=1048576:=rfl;have hz4:cellsOf (.agg #[.slice none 0 0,.int .u8 0,.slice none 0 0,.slice none 0 0])=some [.slice none 0 0,.int .u8 0,.slice none 0 0,.slice none 0 0]:=rfl;simp [-qAy,qAl,qAo,qAm,qAi,qAf,qAe,qAb,qAc,qAa,qAj,qAg,qAd,qAu,qAv,resV,retV,qAn,qAh,qAs,qAr,qAq,qAp,qWd,-qAk,qBg,qBc,qBj,qBp,qBl,qBh,qBd,qAt,qBa,qAz,qAw,hz4];refine r4New_call hp ?_;have hsv:∀ z:List Value,z.length=19→∀ s,setAll z 0 (vSt p s)=vSt p s:=fun z h s=>setAll_vSt2 h
  simp [-qAy,qAl,qAo,qAm,qAi,qAf,qAe,qAb,qAc,qAa,qAj,qAg,qAd,qAu,qAv,resV,retV,qAn,qAh,qAs,qAr,qAq,qAp,callK_def,-qAk,qBg,qBc,qBj,qBp,qBl,qBh,qBd,qAt,qBa,qAz,qAw,hsv];rw [qAy];have hk2:¬ (2000:Int) < ks.length:=by omega
  have hk2n:¬ 2000 < ks.length:=by omega
  simp [-qAy,qAl,qAo,qAm,qAi,qAf,qAe,qAb,qAc,qAa,qAj,qAg,qAd,qAu,qAv,resV,retV,qAn,qAh,qAs,qAr,qAq,qAp];rw [qAy];simp [-qAy,qAl,qAo,qAm,qAi,qAf,qAe,qAb,qAc,qAa,qAj,qAg,qAd,qAu,qAv,resV,retV,qAn,qAh,qAs,qAr,qAq,qAp,hk2,hk2n,hz4]
  let pre:MS→Value→Value→Heap:=fun s w u=>[bx (qCs p) 7,bx [.slice none 0 0,.int .u8 0,.slice none 0 0,.slice none 0 0] 4,bx (vSt p s) 19,bx [.slice none 0 0,.int .u8 0,w,u] 4]
  refine qVo (σ:=RunR×Value×Value×Heap) (fun x=>[(4,ptr (h.length+1)),(6,ptr (h.length+2)),(8,ptr (h.length+3))]) (fun x=>h++(pre x.1.s x.2.1 x.2.2.1++x.2.2.2)) (fun x=>x.1=runR p ks∧∀ q:Heap,q.length=4→Acc 1 (h.length+q.length) (h++(q++x.2.2.2)) x.2.1 x.1.picks.length (x.1.picks.map vI)∧Acc 6 (h.length+q.length) (h++(q++x.2.2.2)) x.2.2.1 x.1.trace.length (x.1.trace.flatMap vEv)) ?_ ?_
  . simp [-qAy,qAl,qAo,qAm,qAi,qAf,qAe,qAb,qAc,qAa,qAj,qAg,qAd,qAu,qAv,resV,retV,qAn,qAh,qAs,qAr,qAq,qAp,hz4]
    refine qEa (σ:=Nat×RunR×Value×Value×Heap) (fun x=>[(1,vL vI ks),(4,ptr (h.length+1)),(6,ptr (h.length+2)),(8,ptr (h.length+3)),(9,vI x.1)]) (fun x=>h++(pre x.2.1.s x.2.2.1 x.2.2.2.1++x.2.2.2.2)) (fun x=>x.1≤ks.length∧x.2.1=runR p (ks.take x.1)∧∀ q:Heap,q.length=4→(Acc 1 (h.length+q.length) (h++(q++x.2.2.2.2)) x.2.2.1 x.2.1.picks.length (x.2.1.picks.map vI)∧Acc 6 (h.length+q.length) (h++(q++x.2.2.2.2)) x.2.2.2.1 x.2.1.trace.length (x.2.1.trace.flatMap vEv))∧qMw x.2.2.1 x.2.2.2.1) (fun x=>ks.length - x.1) (0,⟨newM p,[],[]⟩,nilS,nilS,[]) (by simp) (by simp [pre]) ⟨by simp,by simp [runR],fun q hq=>⟨⟨by simpa using Acc.nil,by simpa using Acc.nil⟩,qMw.nil⟩⟩ ?_
    rintro ⟨i,x,w,u,g⟩ fr ⟨hi,hxr,hac⟩;simp only at hi hxr hac ⊢;have I:=runI hp (ks.take i);rw [← hxr] at I;have hIl:(ks.take i).length=i:=by simp; omega
    rw [hIl] at I
    by_cases hlt:i < ks.length
    . obtain ⟨i1,hi1,wi⟩:=qBm (show i < lim by omega)
      have hif:(i:Int) < ks.length:=by omega
      have hy:ks[i]?=some ks[i]:=List.getElem?_eq_getElem hlt;obtain ⟨y,hyy⟩:∃ y,y=ks[i]:=⟨_,rfl⟩;rw [← hyy] at hy;have hnx:=runR_next (p:=p) hy hi1;rw [← hxr] at hnx;simp only [pre];rw [qAy];simp [-qAy,qAl,qAo,qAm,qAi,qAf,qAe,qAb,qAc,qAa,qAj,qAg,qAd,qAu,qAv,resV,retV,qAn,qAh,qAs,qAr,qAq,qAp,hif];rw [qAy];simp [-qAy,qAl,qAo,qAm,qAi,qAf,qAe,qAb,qAc,qAa,qAj,qAg,qAd,qAu,qAv,resV,retV,qAn,qAh,qAs,qAr,qAq,qAp,-qAk,qBg,qBc,qBj,qBp,qBl,qBh,qBd,qAt,qBa,qAz,qAw,hy,hif]
      refine r4Step_call hp I.shape (by have:=I.told; omega) ?_
      obtain ⟨S,hS⟩:∃ S,S=(qJf p x.s y).1:=⟨_,rfl⟩;obtain ⟨E,hE⟩:∃ E,E=(qJf p x.s y).2.1:=⟨_,rfl⟩;rw [← hS,← hE];have hsa:∀ a b:MS,setAll (vSt p a) 0 (vSt p b)=vSt p b:=fun a b=>setAll_vSt2 qBg
      obtain ⟨ha1,ha2⟩:=(hac (pre S w u) rfl).1;have hap:=(hac (pre S w u) rfl).2;have swu:=acc_stay ha1;cases hfl:(qJf p x.s y).2.2 with
      | false =>
        have hnx2:qFz p x y=x:=by unfold qFz; rw [hfl]; rfl
        rw [hnx2] at hnx;simp [qAl,qAo,qAm,qAi,qAf,qAe,qAb,qAc,qAa,qAj,qAg,qAd,qAu,qAv,resV,retV,qAn,qAh,qAs,qAr,qAq,qAp,callK_def,-qAk,qBg,qBc,qBj,qBp,qBl,qBh,qBd,qAt,qBa,qAz,qAw,hsv,wi];exact .go (i1,x,w,u,_) (by simp only []; omega) (by simp) rfl ⟨by simp only []; omega,hnx.symm,fun q hq=>⟨⟨qOj (hac q hq).1.1,qOj (hac q hq).1.2⟩,(hac q hq).2⟩⟩
      | true =>
        have hnx2:qFz p x y=⟨S,x.picks++[y],x.trace++[E]⟩:=by unfold qFz; rw [hfl,hS,hE]; rfl
        rw [hnx2] at hnx;simp [-qAy,qAl,qAo,qAm,qAi,qAf,qAe,qAb,qAc,qAa,qAj,qAg,qAd,qAu,qAv,resV,retV,qAn,qAh,qAs,qAr,qAq,qAp,callK_def,-qAk,qBg,qBc,qBj,qBp,qBl,qBh,qBd,qAt,qBa,qAz,qAw,hsv,hsa,hy,hif];have hl1:∀ j,rid w=some j→j < h.length+(4+g.length):=fun j hj=>by
          have:=ha1.lt hj;have e4:(pre S w u).length=4:=rfl;rw [List.length_append,List.length_append,e4] at this;exact this
        refine qRy (pre:=pre S w u) (g:=g++[bx (vSt p S) 19,bx (vEv E) 6]) (new:=[vI y]) (qOj ha1) (by simp) rfl (by simp [pre]; omega) (by have:=I.picks; omega) fun w1 g1 c1 kw keep old=>?_
        have hg1:g1[g.length+1]?=some (bx (vEv E) 6):=by
          have:=old (h.length+(4+(g.length+1))) (by simp [pre]; omega) (fun hw=>by have:=hl1 _ hw; omega)
          rw [qPp (n:=h.length+4) rfl (by omega),qPp (n:=h.length+4) rfl (by omega),show h.length+(4+(g.length+1)) - (h.length+4)=g.length+1 by omega] at this
          rw [this,List.getElem?_append_right (by omega),show g.length+1 - g.length=1 by omega]
          rfl
        obtain ⟨c2,ap1⟩:=keep 6 _ _ u (qOj ha2) hap;have su:=acc_stay c2;simp only [pre];simp [-qAy,qAl,qAo,qAm,qAi,qAf,qAe,qAb,qAc,qAa,qAj,qAg,qAd,qAu,qAv,resV,retV,qAn,qAh,qAs,qAr,qAq,qAp,-qAk,qBg,qBc,qBj,qBp,qBl,qBh,qBd,qAt,qBa,qAz,qAw,kw,hg1,su];refine qRy (pre:=pre S w1 u) (g:=g1) (new:=vEv E) (qQl (pre:=pre S w u) rfl c2) rfl rfl (by simp [pre]; omega) (by have:=I.trace; omega) fun u1 g2 d1 ku keep2 _=>?_
        obtain ⟨d2,ap2⟩:=keep2 1 _ _ w1 (qQl (pre:=pre S w u) rfl c1) ap1.symm;simp only [pre];simp [qAl,qAo,qAm,qAi,qAf,qAe,qAb,qAc,qAa,qAj,qAg,qAd,qAu,qAv,resV,retV,qAn,qAh,qAs,qAr,qAq,qAp,-qAk,qBg,qBc,qBj,qBp,qBl,qBh,qBd,qAt,qBa,qAz,qAw,ku,wi];refine .go (i1,⟨S,x.picks++[y],x.trace++[E]⟩,w1,u1,g2) (by simp only []; omega) (by simp) rfl ⟨by simp only []; omega,hnx.symm,fun q hq=>⟨⟨?_,?_⟩,ap2.symm⟩⟩
        . have:=qQl (pre':=q) (pre:=pre S w1 u) hq d2
          simpa using this
        . have:=qQl (pre':=q) (pre:=pre S w1 u) hq d1
          simpa using this
    . obtain rfl:i=ks.length:=by omega
      simp only [pre];rw [qAy];simp [qAl,qAo,qAm,qAi,qAf,qAe,qAb,qAc,qAa,qAj,qAg,qAd,qAu,qAv,resV,retV,qAn,qAh,qAs,qAr,qAq,qAp];exact .go (x,w,u,g) (by simp) (by simp [pre]) ⟨by rw [hxr,List.take_length],fun q hq=>(hac q hq).1⟩
  . rintro ⟨x,w,u,g⟩ fr ⟨hxr,hac⟩
    simp only at hxr hac ⊢;have I:=runI hp ks;rw [← hxr] at I hk;obtain ⟨ha1,ha2⟩:=hac (pre x.s w u) rfl;have cw:=qEo ha1;have cu:=qEo ha2;have lw:cellLike w=true:=by rcases ha1 with ⟨q,_⟩ | ⟨_,_,q,_⟩<;>rw [q]<;>rfl
    have lu:cellLike u=true:=by rcases ha2 with ⟨q,_⟩ | ⟨_,_,q,_⟩<;>rw [q]<;>rfl
    simp only [pre];simp [-qAy,qAl,qAo,qAm,qAi,qAf,qAe,qAb,qAc,qAa,qAj,qAg,qAd,qAu,qAv,resV,retV,qAn,qAh,qAs,qAr,qAq,qAp,-qAk,qBg,qBc,qBj,qBp,qBl,qBh,qBd,qAt,qBa,qAz,qAw];refine r4Status_call hp I.shape ?_;obtain ⟨sta,hsta⟩:∃ sta,sta=qHu p x.s:=⟨_,rfl⟩;rw [← hsta];have hz:cellsOf (.agg #[vL vI x.s.g.told,v8 sta,w,u])=some [vL vI x.s.g.told,v8 sta,w,u]:=by
      rw [qAk,if_pos (by simp [lw,lu])]
    simp [qAl,qAo,qAm,qAi,qAf,qAe,qAb,qAc,qAa,qAj,qAg,qAd,qAu,qAv,resV,retV,qAn,qAh,qAs,qAr,qAq,qAp,callK_def,-qAk,qBg,qBc,qBj,qBp,qBl,qBh,qBd,qAt,qBa,qAz,qAw,hz];have hvr:vRun p x=[vL vI x.s.g.told,v8 sta,vL vI x.picks,vM 6 vEv x.trace]:=by rw [hsta]; rfl
    refine ⟨_,?_,hk⟩;rw [hvr];exact Inls.tup (xs:=[_,_]) (ys:=[_,_]) ⟨Inls.agg (xs:=[_,_,_,_]) (ys:=[_,_,_,_]) ⟨.cell rfl,.cell rfl,(AccL.inl (f:=vI) (hac [_,_,_,_] rfl).1 (fun _=>rfl)).weak (Nat.le_add_right _ _),(AccM.inl (F:=vEv) (hac [_,_,_,_] rfl).2 (fun _=>qMc)).weak (Nat.le_add_right _ _),trivial⟩,.cell rfl,trivial⟩
end
end Pm

/- What is folded tells the same, by any script.
   No condition: plain lemmas. -/

namespace Pm
set_option linter.unusedSimpArgs false
set_option linter.unusedVariables false
open Go Am
open Go.Proofs.Tryd (prog)

theorem qEh {p:Prog} {z:List Value} (h:z.length=7):setAll z 0 (qCs p)=qCs p:=qFw (by rw [qBh,h])
section
variable {p : Prog} {x : RunR}
theorem qJn:cellsOf (.agg (vRun p x).toArray)=some (vRun p x):=rfl
theorem qGd:(vRun p x).length=4:=rfl
theorem qFg:List.take 4 (vRun p x)=vRun p x:=rfl
theorem qEg {z:List Value} (h:z.length=4):setAll z 0 (vRun p x)=vRun p x:=qFw (by rw [qGd,h])
theorem qOn:(vRun p x)[0]?=some (vL vI x.s.g.told):=Eq.trans rfl rfl
theorem qOm:(vRun p x)[1]?=some (v8 (qHu p x.s)):=Eq.trans rfl rfl
theorem qOl:(vRun p x)[2]?=some (vL vI x.picks):=Eq.trans rfl rfl
end
theorem Picks_still {h:Heap} {K:Value→Heap→Prop} {c:List Nat} (hn:NoU h) (hb:∀ x∈c,x≤255) (hk:K (vL vI (qOz c)) h):qFm prog 9 [vL v8 c] h K :=
  qFm.lend (args':=[vL v8 c]) ⟨.cell rfl,trivial⟩ hn (Picks_call hb ⟨⟨_,_,rfl,by simp [qDx]⟩,hk⟩)
end Pm
