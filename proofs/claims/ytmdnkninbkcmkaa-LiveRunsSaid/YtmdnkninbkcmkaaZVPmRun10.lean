/- The run of a program: picks, and where a run begins, walked.
   No condition: plain lemmas. -/

import Derived.Test.YtmdnkninbkcmkaaZVPmRun9
import Derived.Test.YtmdnkninbkcmkaaZVPmSound4
namespace Pm
set_option linter.unusedSimpArgs false
set_option linter.unusedVariables false
open Go Am
open Go.Proofs.Try (prog)

section
variable {h pre pre' g : Heap}
theorem at_pre {i:Nat} (hl:pre'.length=pre.length) (hi:h.length+pre.length≤i):(h++(pre'++g))[i]?=(h++(pre++g))[i]?:=by
  rw [List.getElem?_append_right (by omega),List.getElem?_append_right (by omega),List.getElem?_append_right (by omega),List.getElem?_append_right (by omega),hl]
theorem acc_pre {w:Value} {n:Nat} {cs:List Value} (hl:pre'.length=pre.length) (ha:Acc 1 (h.length+pre.length) (h++(pre++g)) w n cs):Acc 1 (h.length+pre'.length) (h++(pre'++g)) w n cs:=by
  rcases ha with h1 | ⟨id,ver,h1,h2,h3,h4⟩
  . exact Or.inl h1
  . exact Or.inr ⟨id,ver,h1,by omega,by rw [at_pre hl h2]; exact h3,h4⟩
theorem acc_inl {w y:Value} {n:Nat} {cs:List Value} (ha:Acc 1 (h.length+pre.length) (h++(pre++g)) w n cs) (hl:pre'.length=pre.length) (hc:cs.all qCk=true) (he:lst 1 n cs=y):Inl h.length (h++(pre'++g)) w y:=by
  rw [← he];exact ((acc_pre hl ha).inl hc).weak (by omega)
theorem inl_ints {b k n:Nat} {HH:Heap} {l:List Int} (hk:HH[k]?=some (bx (l.map vI) 1)) (hb:b≤k) (hn:n=l.length):Inl b HH (.slice (some ⟨k,0,none⟩) n 0) (vL vI l):=by
  subst hn;exact .row (r:=⟨l.map vI,1,0,true⟩) hb (by simp [Heap.row?,hk,bx]) (by simp) (by simp) fun j x z h5 h6=>by
    simp only [Nat.zero_add] at h5;rw [h5] at h6; cases h6;rw [List.getElem?_map] at h5;obtain ⟨t,_,rfl⟩:=Option.map_eq_some_iff.1 h5;exact .cell rfl
theorem qIb {b k n:Nat} {HH:Heap} (hk:HH[k]?=some (bx (List.replicate n (vI 0)) 1)) (hb:b≤k):Inl b HH (.slice (some ⟨k,0,none⟩) n 0) (vL vI (List.replicate n 0)) :=
  inl_ints (by rw [hk,List.map_replicate]) hb (by simp)
theorem inl_nils {b k n:Nat} {HH:Heap} (hk:HH[k]?=some (bx (List.replicate n nilS) 1)) (hb:b≤k):Inl b HH (.slice (some ⟨k,0,none⟩) n 0) (vL (vL vI) (List.replicate n [])):=by
  unfold vL;rw [List.length_replicate];refine .row (r:=⟨List.replicate n nilS,1,0,true⟩) hb (by simp [Heap.row?,hk,bx]) (by simp) (by simp) fun j x z h5 h6=>?_
  simp only [Nat.zero_add] at h5;have hx:=(List.mem_replicate.1 (List.mem_of_getElem? h5)).2;rw [List.getElem?_map] at h6;obtain ⟨t,ht,rfl⟩:=Option.map_eq_some_iff.1 h6;have ht':=(List.mem_replicate.1 (List.mem_of_getElem? ht)).2;rw [hx,ht'];exact .nil
theorem acc_more {w:Value} {n:Nat} {cs:List Value} {g':Heap} {b:Nat} (ha:Acc 1 b (h++(pre++g)) w n cs):Acc 1 b (h++(pre++(g++g'))) w n cs:=by
  refine ha.ext ?_;have:h++(pre++(g++g'))=(h++(pre++g))++g':=by simp
  rw [this]; exact .app
theorem acc_push {P:Program} {K:Fr→Heap→Prop} {is:List AIns} {d:Option Nat} {fr:Fr} {H0 G:Heap} {k n:Nat} {x w:Value} {cs:List Value} (ha:Acc 1 (h.length+pre.length) (h++(pre++g)) w n cs) (hG:G=g++[bx [x] 1]) (hk:k=h.length+(pre.length+g.length)) (hl:n+1≤lim)
    (hn:∀ w' g2,Acc 1 (h.length+pre.length) (h++(pre++g2)) w' (n+1) (cs++[x])→cellsOf w'=some [w']→pOps P K is (updO fr d w') (h++(pre++g2))):eK P K is d [] fr H0 (pApp (h++(pre++G)) 1 w (.slice (some ⟨k,0,none⟩) 1 0)):=by
  subst hG;have hp:qDu (h++(pre++(g++[bx [x] 1]))) 1 (.slice (some ⟨k,0,none⟩) 1 0)=some (1,[x]):=by
    have:=pElems_last (G:=h++(pre++g)) (x:=x) (k:=k) (by simp [hk])
    simpa using this
  have kx:qCx (h++(pre++g)).length (h++(pre++g)) (h++(pre++(g++[bx [x] 1]))):=by
    have:h++(pre++(g++[bx [x] 1]))=(h++(pre++g))++[bx [x] 1]:=by simp
    rw [this]; exact .app
  obtain ⟨w',h2,q1,q2,q3,q4,q5⟩:=ha.app (by simp) kx hp rfl hl
  rw [q1,eK_some];have k':qCx (h++pre).length (h++pre) h2:=by
    refine ⟨Nat.le_trans (by simp) q3.1,fun i hi=>?_⟩
    rw [List.length_append] at hi;rw [q3.2 i hi,← List.append_assoc,List.getElem?_append_left (by rw [List.length_append]; omega)]
  obtain ⟨g2,e⟩:=k'.ext;rw [List.append_assoc] at e;subst e;exact ⟨trivial,hn w' g2 q2 (qEt q2)⟩
theorem frz_last {P:Program} {K:Fr→Heap→Prop} {is:List AIns} {t:Nat} {fr:Fr} {G:Heap} {k n:Nat} {cs:List Value} (hG:G=g++[bx cs 1]) (hk:k=h.length+(pre.length+g.length)) (hl:cs.length=n) (hc:cs.all qCk=true)
    (hn:pOps P K is (upd fr t (lst 1 n cs)) (h++(pre++(g++[.row ⟨cs,1,0,false⟩])))):zK P K is t fr (frzV (h++(pre++G)) 1 (.slice (some ⟨k,0,none⟩) n 0)):=by
  subst hG; subst hk; subst hl;have e:h++(pre++(g++[bx cs 1]))=(h++(pre++g))++[bx cs 1]:=by simp
  have e2:h.length+(pre.length+g.length)=(h++(pre++g)).length:=by simp
  have:frzV ((h++(pre++g))++[bx cs 1]) 1 (.slice (some ⟨(h++(pre++g)).length,0,none⟩) cs.length 0)=some (lst 1 cs.length cs,(h++(pre++g))++[.row ⟨cs,1,0,false⟩]):=by
    simp [frzV,frzC,Heap.row?,bx,seg,hc]
  rw [e,e2,this,zK_optK]
  simpa [optK] using hn
end
def qPh (x:Nat):Int:=((x % 13 / 4:Nat):Int)
def qLi (c:List Nat):List Int:=(c.take 60).map qPh
section
variable {h : Heap} {K : Value → Heap → Prop}
theorem Picks_call {c:List Nat} (hb:∀ x∈c,x≤255) (hk:K (vL vI (qLi c)) h):qBu prog 15 [vL v8 c] h K:=by
  obtain ⟨l,hl⟩:∃ l,l=c.map qPh:=⟨_,rfl⟩;have hll:l.length=c.length:=by rw [hl,List.length_map]
  have hlp:qLi c=l.take 60:=by rw [hl]; unfold qLi; rw [List.map_take]
  rw [hlp] at hk;refine Pure.go (Pure.of fun h=>?_) hk
  refine call_Picks (by simp) ?_
  simp [-qAy,qAk,qAn,qAl,qAi,qAf,qAe,qAb,qAc,qAa,qAj,qAg,qAd,qAu,qAv,resV,retV,qAm,qAh,qAt,qAs,qAr,qAq,qSs];rw [qAy];simp [-qAy,qAk,qAn,qAl,qAi,qAf,qAe,qAb,qAc,qAa,qAj,qAg,qAd,qAu,qAv,resV,retV,qAm,qAh,qAt,qAs,qAr,qAq];refine qFe (σ:=Nat×Value×Heap) (fun x=>[(0,vL v8 c),(3,x.2.1),(4,vI x.1)]) (fun x=>x.2.2) (fun x=>x.1≤c.length∧x.1≤60∧AccL vI h.length x.2.2 x.2.1 (l.take x.1)∧qCx h.length h x.2.2) (fun x=>60 - x.1) (0,nilS,h) (by simp) rfl ⟨by simp,by simp,by simpa using AccL.nil,.refl _ _⟩ ?_
  rintro ⟨k,v,H⟩ fr ⟨hk0,hk60,ha,hkp⟩;simp only at hk0 hk60 ha hkp ⊢;have hlim:lim=1048576:=rfl;have fin:¬ (k < c.length∧k < 60)→l.take k=l.take 60:=fun hn=>by
    rcases Nat.lt_or_ge k c.length with h1 | h1
    . obtain rfl:k=60:=by omega
      rfl
    . rw [List.take_of_length_le (by omega),List.take_of_length_le (by omega)]
  by_cases hlt:k < c.length
  . have hkf:(k:Int) < c.length:=by omega
    by_cases h60:k < 60
    . obtain ⟨k1,hk1,wk⟩:=qCj (show k < lim by omega)
      have hkf6:(k:Int) < 60:=by omega
      have hx:c[k]?=some c[k]:=List.getElem?_eq_getElem hlt;obtain ⟨x,hxx⟩:∃ x,x=c[k]:=⟨_,rfl⟩;rw [← hxx] at hx;have hx255:=hb x (List.mem_of_getElem? hx);obtain ⟨q,hq⟩:∃ q,q=x % 13:=⟨_,rfl⟩;have e1:(x:Int).tmod 13=(q:Int):=by rw [Int.tmod_eq_emod_of_nonneg (by omega)]; omega
      have w1:IntKind.u8.wrap (q:Int)=q:=qOb (by omega) (by omega)
      have w2:IntKind.i64.wrap (q:Int)=q:=qCo (by omega) (by omega)
      have e2:(q:Int).tdiv 4=qPh x:=by rw [Int.tdiv_eq_ediv_of_nonneg (by omega)]; unfold qPh; omega
      have w3:IntKind.i64.wrap (qPh x)=qPh x:=qCo (by unfold qPh; omega) (by unfold qPh; omega)
      rw [qAy];simp [-qAy,qAk,qAn,qAl,qAi,qAf,qAe,qAb,qAc,qAa,qAj,qAg,qAd,qAu,qAv,resV,retV,qAm,qAh,qAt,qAs,qAr,qAq,hkf,hkf6];rw [qAy];simp [-qAy,qAk,qAn,qAl,qAi,qAf,qAe,qAb,qAc,qAa,qAj,qAg,qAd,qAu,qAv,resV,retV,qAm,qAh,qAt,qAs,qAr,qAq,hkf,hx,e1,e2,w1,w2,w3];refine AccL.push ha hkp.1 (by simp; omega) (x:=qPh x) fun v1 H1 a1 a2 _ _=>?_
      rw [← take_snoc' (l:=l) (x:=qPh x) (by rw [hl,List.getElem?_map,hx]; rfl) hk1] at a1
      simp [qAk,qAn,qAl,qAi,qAf,qAe,qAb,qAc,qAa,qAj,qAg,qAd,qAu,qAv,resV,retV,qAm,qAh,qAt,qAs,qAr,qAq,wk];exact .go (k1,v1,H1) (by simp only []; omega) (by simp) rfl ⟨by simp only []; omega,by simp only []; omega,a1,hkp.trans a2⟩
    . have hkf6:¬ (k:Int) < 60:=by omega
      rw [qAy];simp [qAk,qAn,qAl,qAi,qAf,qAe,qAb,qAc,qAa,qAj,qAg,qAd,qAu,qAv,resV,retV,qAm,qAh,qAt,qAs,qAr,qAq,hkf,hkf6];exact ⟨hkp.ext,by rw [← fin (by omega)]; exact ha.inl fun _=>rfl⟩
  . have hkf:¬ (k:Int) < c.length:=by omega
    rw [qAy];simp [qAk,qAn,qAl,qAi,qAf,qAe,qAb,qAc,qAa,qAj,qAg,qAd,qAu,qAv,resV,retV,qAm,qAh,qAt,qAs,qAr,qAq,hkf];exact ⟨hkp.ext,by rw [← fin (by omega)]; exact ha.inl fun _=>rfl⟩
set_option maxHeartbeats 8000000 in
theorem r4New_call {p:Prog} (hp:SoundP p) (hk:K (.tuple #[.agg (vSt p (newM p)).toArray,.bool true]) h):qBu prog 14 [.agg (qDo p).toArray] h K:=by
  refine qBu.forget ?_;refine call_r4New (by simp) ?_
  have hlim:lim=1048576:=rfl;have h1:=hp.vars; have h2:=hp.atoms; have h3:=hp.locks; have h4:=hp.groups; have h5:=hp.onces; have h6:=hp.threads; have h7:=hp.chans;unfold In4 at h2 h3 h4 h5;obtain ⟨a1,e1⟩:∃ a:Nat,p.vars=a:=⟨p.vars.toNat,by omega⟩
  obtain ⟨a2,e2⟩:∃ a:Nat,p.atoms=a:=⟨p.atoms.toNat,by omega⟩
  obtain ⟨a3,e3⟩:∃ a:Nat,p.locks=a:=⟨p.locks.toNat,by omega⟩
  obtain ⟨a4,e4⟩:∃ a:Nat,p.groups=a:=⟨p.groups.toNat,by omega⟩
  obtain ⟨a5,e5⟩:∃ a:Nat,p.onces=a:=⟨p.onces.toNat,by omega⟩
  obtain ⟨n,en⟩:∃ n,n=p.threads.length:=⟨_,rfl⟩;obtain ⟨m,em⟩:∃ m,m=p.chans.length:=⟨_,rfl⟩;have mk:∀ (a:Nat),a≤lim→∀ H:Heap,qLl H [.int .i64 0] 1 (vI a) (vI a)=some (.slice (some ⟨H.length,0,none⟩) a 0,H++[bx (List.replicate a (vI 0)) 1]):=fun a ha H=>by
    have:(0:Int)≤a∧(a:Int)≤a∧(a:Int)≤(lim:Nat):=by omega
    simp only [qLl];rw [if_pos this,qQa]
    rfl
  have k1:=mk a1 (by omega); have k2:=mk a2 (by omega); have k3:=mk a3 (by omega); have k4:=mk a4 (by omega); have k5:=mk a5 (by omega); have kn:=mk n (by omega); have km:=mk m (by omega); have k44:=mk 4 (by omega)
  have kq:∀ H:Heap,qLl H [.slice none 0 0] 1 (vI m) (vI m)=some (.slice (some ⟨H.length,0,none⟩) m 0,H++[bx (List.replicate m nilS) 1]):=fun H=>by
    have:(0:Int)≤m∧(m:Int)≤m∧(m:Int)≤(lim:Nat):=by omega
    simp only [qLl];rw [if_pos this,qQa]
    rfl
  rw [show ((4:Nat):Int)=4 from rfl] at k44;simp [-qAy,qAk,qAn,qAl,qAi,qAf,qAe,qAb,qAc,qAa,qAj,qAg,qAd,qAu,qAv,resV,retV,qAm,qAh,qAt,qAs,qAr,qAq,qSo,qDo];rw [qAy];simp [-qAy,qAk,qAn,qAl,qAi,qAf,qAe,qAb,qAc,qAa,qAj,qAg,qAd,qAu,qAv,resV,retV,qAm,qAh,qAt,qAs,qAr,qAq];refine R2Sound_call hp ?_;simp [-qAy,qAk,qAn,qAl,qAi,qAf,qAe,qAb,qAc,qAa,qAj,qAg,qAd,qAu,qAv,resV,retV,qAm,qAh,qAt,qAs,qAr,qAq,callK_def,qDo,e1,e2,e3,e4,e5,← en,← em,k1,k2,k3,k4,k5,kn,km,kq]
  rw [qAy];simp [-qAy,qAk,qAn,qAl,qAi,qAf,qAe,qAb,qAc,qAa,qAj,qAg,qAd,qAu,qAv,resV,retV,qAm,qAh,qAt,qAs,qAr,qAq]
  let pre:Value→Heap:=fun w=>[bx [vI a1,vI a2,vI a3,vL vI p.chans,vI a4,vI a5,vL (vM 4 vIns) p.threads] 7,bx [.int .i64 0,.int .i64 0,.int .i64 0,.slice none 0 0,.int .i64 0,.int .i64 0,.slice none 0 0,.slice none 0 0,.slice none 0 0,.slice none 0 0,.slice none 0 0,.slice none 0 0,.slice none 0 0,.slice none 0 0,.slice none 0 0,.slice none 0 0,.slice none 0 0,.slice none 0 0,.int .i64 0] 19,bx (List.replicate n (vI 0)) 1,bx (List.replicate n (vI 0)) 1,bx (List.replicate a1 (vI 0)) 1,bx (List.replicate a2 (vI 0)) 1,bx (List.replicate a3 (vI 0)) 1,bx (List.replicate m nilS) 1,bx (List.replicate m (vI 0)) 1,bx (List.replicate a4 (vI 0)) 1,bx (List.replicate a5 (vI 0)) 1,
    bx [vI a1,vI a2,vI a3,vL vI p.chans,vI a4,vI a5,vL (vM 4 vIns) p.threads,.slice (some ⟨h.length+2,0,none⟩) n 0,.slice (some ⟨h.length+3,0,none⟩) n 0,w,.slice (some ⟨h.length+4,0,none⟩) a1 0,.slice (some ⟨h.length+5,0,none⟩) a2 0,.slice (some ⟨h.length+6,0,none⟩) a3 0,.slice (some ⟨h.length+7,0,none⟩) m 0,.slice (some ⟨h.length+8,0,none⟩) m 0,.slice (some ⟨h.length+9,0,none⟩) a4 0,.slice (some ⟨h.length+10,0,none⟩) a5 0,.slice none 0 0,.int .i64 0] 19]
  refine qFe (σ:=Nat×Value×Heap) (fun x=>[(2,ptr (h.length+1)),(4,vI n),(5,ptr (h.length+11)),(6,vI x.1)]) (fun x=>h++(pre x.2.1++x.2.2)) (fun x=>x.1≤n∧qMk x.2.1=true∧∀ w0,Acc 1 (h.length+(pre w0).length) (h++(pre w0++x.2.2)) x.2.1 x.1 (List.replicate x.1 (vL vI [0,0,0,0]))) (fun x=>n - x.1) (0,nilS,[]) (by simp) (by simp [pre]) ⟨by simp,rfl,fun _=>.nil⟩ ?_
  rintro ⟨i,w,g⟩ fr ⟨hi,hst,ha⟩;simp only at hi hst ha ⊢
  by_cases hlt:i < n
  . obtain ⟨i1,hi1,wi⟩:=qCj (show i < lim by omega)
    have hif:(i:Int) < n:=by omega
    have hrep:List.replicate i (vL vI [0,0,0,0])++[vL vI [0,0,0,0]]=List.replicate i1 (vL vI [0,0,0,0]):=by rw [hi1,List.replicate_succ']
    simp only [pre];rw [qAy];simp [-qAy,qAk,qAn,qAl,qAi,qAf,qAe,qAb,qAc,qAa,qAj,qAg,qAd,qAu,qAv,resV,retV,qAm,qAh,qAt,qAs,qAr,qAq,hif];rw [qAy];simp [-qAy,qAk,qAn,qAl,qAi,qAf,qAe,qAb,qAc,qAa,qAj,qAg,qAd,qAu,qAv,resV,retV,qAm,qAh,qAt,qAs,qAr,qAq,k44,hst];refine frz_last (pre:=pre w) (g:=g) (cs:=[vI 0,vI 0,vI 0,vI 0]) rfl (by simp [pre]; omega) rfl rfl ?_
    have e4:lst 1 4 [vI 0,vI 0,vI 0,vI 0]=vL vI [0,0,0,0]:=rfl;rw [e4];simp only [pre];simp [-qAy,qAk,qAn,qAl,qAi,qAf,qAe,qAb,qAc,qAa,qAj,qAg,qAd,qAu,qAv,resV,retV,qAm,qAh,qAt,qAs,qAr,qAq,hst];refine acc_push (pre:=pre w) (g:=g++[.row ⟨[vI 0,vI 0,vI 0,vI 0],1,0,false⟩]) (x:=vL vI [0,0,0,0]) (acc_more (ha w)) (by simp) (by simp [pre]; omega) (by omega) fun w1 g1 c1 kw=>?_
    rw [hrep,← hi1] at c1;have hst1:qMk w1=true:=by rcases c1 with ⟨q,_⟩ | ⟨_,_,q,_⟩<;>rw [q]<;>rfl
    simp only [pre];simp [qAk,qAn,qAl,qAi,qAf,qAe,qAb,qAc,qAa,qAj,qAg,qAd,qAu,qAv,resV,retV,qAm,qAh,qAt,qAs,qAr,qAq,kw,wi];exact .go (i1,w1,g1) (by simp only []; omega) (by simp) (by simp [pre]) ⟨by simp only []; omega,hst1,fun w0=>by have:=acc_pre (pre':=pre w0) (pre:=pre w) rfl c1; simpa [pre] using this⟩
  . obtain rfl:i=n:=by omega
    simp only [pre];rw [qAy];have h0n:0 < i:=by omega
    have hw:=qEt (ha w);have h1n:1≤i:=h0n;have hcl:cellLike w=true:=by rcases ha w with ⟨q,_⟩ | ⟨_,_,q,_⟩<;>rw [q]<;>rfl
    simp [qAk,qAn,qAl,qAi,qAf,qAe,qAb,qAc,qAa,qAj,qAg,qAd,qAu,qAv,resV,retV,qAm,qAh,qAt,qAs,qAr,qAq,h0n,h1n,hw,hcl];refine ⟨.tuple #[.agg (vSt p (newM p)).toArray,.bool true],?_,hk⟩;have z1:p.vars.toNat=a1:=by omega
    have z2:p.atoms.toNat=a2:=by omega
    have z3:p.locks.toNat=a3:=by omega
    have z4:p.groups.toNat=a4:=by omega
    have z5:p.onces.toNat=a5:=by omega
    have hnew:newM p=⟨List.replicate i 0,List.replicate i [0,0,0,0],⟨(List.replicate i 0).set 0 1,List.replicate a1 0,List.replicate a2 0,List.replicate a3 0,List.replicate m [],List.replicate m 0,List.replicate a4 0,List.replicate a5 0,[],0⟩⟩:=by
      unfold newM;rw [← en,← em,z1,z2,z3,z4,z5]
    have hvs:vSt p (newM p)=[vI a1,vI a2,vI a3,vL vI p.chans,vI a4,vI a5,vL (vM 4 vIns) p.threads,vL vI (List.replicate i 0),vL vI ((List.replicate i 0).set 0 1),vL (vL vI) (List.replicate i [0,0,0,0]),vL vI (List.replicate a1 0),vL vI (List.replicate a2 0),vL vI (List.replicate a3 0),vL (vL vI) (List.replicate m []),vL vI (List.replicate m 0),vL vI (List.replicate a4 0),vL vI (List.replicate a5 0),vL vI [],vI 0]:=by
      rw [hnew]; unfold vSt qDo; rw [e1,e2,e3,e4,e5]; rfl
    rw [hvs];have hset:(List.replicate i (vI 0)).set 0 (.int .i64 1)=((List.replicate i 0).set 0 1).map vI:=by rw [List.map_set,List.map_replicate]
    refine Inls.tup (xs:=[_,_]) (ys:=[.agg (List.toArray _),.bool true]) ⟨Inls.agg (xs:=[_,_,_,_,_,_,_,_,_,_,_,_,_,_,_,_,_,_,_]) ⟨.cell rfl,.cell rfl,.cell rfl,.cell rfl,.cell rfl,.cell rfl,.cell rfl,qIb (k:=h.length+2) (by rw [List.getElem?_append_right (by omega),Nat.add_sub_cancel_left]; rfl) (by omega),inl_ints (k:=h.length+3) (by rw [List.getElem?_append_right (by omega),Nat.add_sub_cancel_left]; show some (bx _ 1)=_; rw [hset]) (by omega) (by simp),acc_inl (pre:=pre w) (pre':=[_,_,_,_,_,_,_,_,_,_,_,_]) (ha w) rfl (by rw [List.all_eq_true]; intro x hx; rw [(List.mem_replicate.1 hx).2]; rfl) (by unfold vL; rw [List.length_replicate,List.map_replicate]),qIb (k:=h.length+4) (by rw [List.getElem?_append_right (by omega),Nat.add_sub_cancel_left]; rfl) (by omega),qIb (k:=h.length+5) (by rw [List.getElem?_append_right (by omega),Nat.add_sub_cancel_left]; rfl) (by omega),qIb (k:=h.length+6) (by rw [List.getElem?_append_right (by omega),Nat.add_sub_cancel_left]; rfl) (by omega),inl_nils (k:=h.length+7) (by rw [List.getElem?_append_right (by omega),Nat.add_sub_cancel_left]; rfl) (by omega),qIb (k:=h.length+8) (by rw [List.getElem?_append_right (by omega),Nat.add_sub_cancel_left]; rfl) (by omega),qIb (k:=h.length+9) (by rw [List.getElem?_append_right (by omega),Nat.add_sub_cancel_left]; rfl) (by omega),qIb (k:=h.length+10) (by rw [List.getElem?_append_right (by omega),Nat.add_sub_cancel_left]; rfl) (by omega),.nil,.cell rfl,trivial⟩,.cell rfl,trivial⟩
end
end Pm
