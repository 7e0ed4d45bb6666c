/- What may be: programs that are sound, without the program.
   No condition: plain lemmas. -/

import Derived.Test.YtmdnkninbkcmkaaDoorZUPmMake2
import Derived.Test.YtmdnkninbkcmkaaDoorZUPmFold6
import Derived.Test.YtmdnkninbkcmkaaDoorZUPmCfgC
import Derived.Test.YtmdnkninbkcmkaaDoorZUPmLend3
import Derived.Test.YtmdnkninbkcmkaaDoorZUPmFlow1
namespace Pm
set_option linter.unusedSimpArgs false
set_option linter.unusedVariables false
open Go Am

def qFn (p:Prog) (n:Nat) (w:Nat):Int :=
  if w=2∨w=3 then 4 else if w=4 then p.vars else if w=5 then (n:Int)+1 else if w=6 then p.threads.length else if w=7 then p.locks else if w=8 then p.atoms
  else if w=9 then p.chans.length else if w=10 then p.groups else p.onces
def qHx (i:Ins) (k:Nat):Int:=[i.a,i.b,i.c][k]?.getD 0
def qUt (p:Prog) (n w:Nat) (x:Int):Prop:=(w=0→x=0)∧(w≠0→w≠1→0≤x∧x < qFn p n w∧(w=6→x≠0))
structure InsOk (p:Prog) (n:Nat) (i:Ins):Prop where
  op:i.op≤27
  a:qUt p n (qCt i.op 0) i.a
  b:qUt p n (qCt i.op 1) i.b
  c:qUt p n (qCt i.op 2) i.c
def In4 (x:Int):Prop:=0≤x∧x≤4
structure SoundP (p:Prog):Prop where
  vars:0≤p.vars∧p.vars≤8
  chans:p.chans.length≤4
  chan:∀ c∈p.chans,1≤c∧c≤3
  threads:1≤p.threads.length∧p.threads.length≤6
  atoms:In4 p.atoms
  locks:In4 p.locks
  groups:In4 p.groups
  onces:In4 p.onces
  code:∀ t∈p.threads,t.length≤60∧∀ i∈t,InsOk p t.length i
theorem qXy (p:Prog) (n:Nat):InsOk p n nopI:=⟨by decide,⟨fun _=>rfl,fun h=>absurd rfl h⟩,⟨fun _=>rfl,fun h=>absurd rfl h⟩,⟨fun _=>rfl,fun h=>absurd rfl h⟩⟩
theorem fold_ok {p:Prog} {n:Nat} {i:Ins} {l:V4} (h:InsOk p n i):InsOk p n (qJb i l):=by
  unfold qJb
  split
  . split
    . rename_i h0 h1
      refine ⟨by show (1:Nat)≤27; decide,⟨fun h=>absurd h (show ¬ (2:Nat)=0 by decide),fun _ _=>⟨h0.1,h0.2,fun h=>absurd h (show ¬ (2:Nat)=6 by decide)⟩⟩,⟨fun h=>absurd h (show ¬ (1:Nat)=0 by decide),fun _ h=>absurd rfl h⟩,⟨fun _=>rfl,fun h=>absurd rfl h⟩⟩
    . split
      . rename_i h0 h1 h2
        split
        . have hb:=h.b
          rw [h2.1] at hb;have:=hb.2 (show ¬ (5:Nat)=0 by decide) (show ¬ (5:Nat)=1 by decide)
          refine ⟨by show (10:Nat)≤27; decide,⟨fun h=>absurd h (show ¬ (5:Nat)=0 by decide),fun _ _=>⟨this.1,this.2.1,fun h=>absurd h (show ¬ (5:Nat)=6 by decide)⟩⟩,⟨fun _=>rfl,fun h=>absurd rfl h⟩,⟨fun _=>rfl,fun h=>absurd rfl h⟩⟩
        . exact qXy p n
      . exact h
  . exact h
theorem idle_ok {p:Prog} {n:Nat} {i:Ins} {s:Nat} (h:InsOk p n i):InsOk p n (qKz i s):=by
  unfold qKz
  split
  . exact qXy p n
  . exact h
theorem qIj.ok {p:Prog} {n:Nat} {code out:List Ins} (h:qIj code out) (ho:∀ i∈code,InsOk p n i):∀ i∈out,InsOk p n i:=by
  intro c hc;obtain ⟨i,hi⟩:=List.mem_iff_getElem?.1 hc;have hlt:=(List.getElem?_eq_some_iff.1 hi).1;rw [h.len] at hlt;have hx:code[i]?=some code[i]:=List.getElem?_eq_getElem hlt;have hxo:=ho _ (List.getElem_mem hlt);obtain ⟨y,l,s,hy,he⟩:=h.at hx;rw [hi] at he
  injection he with he
  rw [he];refine idle_ok ?_;rcases hy with rfl | rfl
  . exact hxo
  . exact fold_ok hxo
theorem SoundP.other {p q:Prog} (h:SoundP p) (h1:q.vars=p.vars) (h2:q.atoms=p.atoms) (h3:q.locks=p.locks) (h4:q.chans=p.chans) (h5:q.groups=p.groups) (h6:q.onces=p.onces) (hl:q.threads.length=p.threads.length)
    (hc:∀ (k:Nat) (s t:List Ins),p.threads[k]?=some s→q.threads[k]?=some t→t.length=s.length∧((∀ i∈s,InsOk p s.length i)→∀ i∈t,InsOk p s.length i)):SoundP q:=by
  have hm:∀ n w,qFn q n w=qFn p n w:=fun n w=>by unfold qFn; rw [h1,h2,h3,h4,h5,h6,hl]
  have hi:∀ n i,InsOk p n i→InsOk q n i:=fun n i k=>by
    refine ⟨k.op,?_,?_,?_⟩
    . have:=k.a; unfold qUt at this ⊢; rw [hm]; exact this
    . have:=k.b; unfold qUt at this ⊢; rw [hm]; exact this
    . have:=k.c; unfold qUt at this ⊢; rw [hm]; exact this
  refine ⟨by rw [h1]; exact h.vars,by rw [h4]; exact h.chans,by rw [h4]; exact h.chan,by rw [hl]; exact h.threads,by rw [h2]; exact h.atoms,by rw [h3]; exact h.locks,by rw [h5]; exact h.groups,by rw [h6]; exact h.onces,fun t ht=>?_⟩
  obtain ⟨k,hk⟩:=List.mem_iff_getElem?.1 ht;have hlt:=(List.getElem?_eq_some_iff.1 hk).1;rw [hl] at hlt;have hs:p.threads[k]?=some p.threads[k]:=List.getElem?_eq_getElem hlt;obtain ⟨e1,e2⟩:=hc k _ t hs hk;obtain ⟨g1,g2⟩:=h.code _ (List.getElem_mem hlt);refine ⟨by omega,fun i hi2=>?_⟩
  rw [e1];exact hi _ _ (e2 g2 i hi2)
theorem qLo {o:Nat} (h:o≤27):o=0∨o=1∨o=2∨o=3∨o=4∨o=5∨o=6∨o=7∨o=8∨o=9∨o=10∨o=11∨o=12∨o=13∨o=14∨o=15∨o=16∨o=17∨o=18∨o=19∨o=20∨o=21∨o=22∨o=23∨o=24∨o=25∨o=26∨o=27:=by omega
theorem opsL_12 (k:Nat):opsL[k]?.getD 0≤27∧opsL[k]?.getD 0≠12:=by
  have h:∀ x∈opsL,x≤27∧x≠12:=by decide
  cases e:opsL[k]? with
  | none=>simp
  | some x=>simpa using h x (List.mem_of_getElem? e)
theorem mkIns_ok {l:List (List Nat)} {a b:Nat} {at_ n:Int} {m:Nat} (h0:0≤at_) (h1:at_≤n) (hm:n=m):InsOk (qGa l) m (qQx a b at_ n):=by
  obtain ⟨o,ho⟩:∃ o,o=opsL[a % 36]?.getD 0:=⟨_,rfl⟩;obtain ⟨h27,h12⟩:=opsL_12 (a % 36);rw [← ho] at h27 h12;unfold qQx;simp only [← ho];rcases qLo h27 with rfl | rfl | rfl | rfl | rfl | rfl | rfl | rfl | rfl | rfl | rfl | rfl | rfl | rfl | rfl | rfl | rfl | rfl | rfl | rfl | rfl | rfl | rfl | rfl | rfl | rfl | rfl | rfl
  all_goals first
    | exact absurd rfl h12
    | (simp only [Nat.reduceEqDiff,if_true,if_false,or_true,true_or,or_false,false_or]
       repeat' split
       all_goals first
         | omega
         | (refine ⟨?_,?_,?_,?_⟩<;>simp [qUt,qCt,qIu,qFn,qGa]<;>omega))
theorem make_sound (l:List (List Nat)):SoundP (qGa l):=by
  have hn:=qVv l;refine ⟨by simp [qGa],by simp [qGa],by simp [qGa],by simp [qGa]; omega,by simp [qGa,In4],by simp [qGa,In4],by simp [qGa,In4],by simp [qGa,In4],fun t ht=>?_⟩
  obtain ⟨k,hk,rfl⟩:∃ k,k < nThr l∧qPv l k=t:=by
    simp only [qGa] at ht;obtain ⟨k,hk,e⟩:=List.mem_map.1 ht;exact ⟨k,List.mem_range.1 hk,e⟩
  refine ⟨by have:=codeOf_len l k; omega,fun i hi=>?_⟩
  unfold qPv at hi;rcases List.mem_append.1 hi with hi | hi
  . unfold qRb at hi
    split at hi
    . obtain ⟨j,hj,rfl⟩:=List.mem_map.1 hi
      have hj2:=List.mem_range'.1 hj;obtain ⟨q,hq1,hq2⟩:=hj2;refine ⟨by show (12:Nat)≤27; decide,?_,⟨fun _=>rfl,fun h=>absurd rfl h⟩,⟨fun _=>rfl,fun h=>absurd rfl h⟩⟩
      refine ⟨fun h=>absurd h (show ¬ (6:Nat)=0 by decide),fun _ _=>?_⟩
      show (0:Int)≤(j:Int)∧(j:Int) < qFn (qGa l) _ 6∧((6:Nat)=6→(j:Int)≠0);have e:qFn (qGa l) (qPv l k).length 6=(nThr l:Int):=by simp [qFn,qGa]
      rw [e];refine ⟨by omega,by omega,fun _=>by omega⟩
    . simp at hi
  . unfold qKb at hi
    obtain ⟨j,hj,rfl⟩:=List.mem_map.1 hi;have hj2:=List.mem_range.1 hj;refine mkIns_ok (by omega) (by omega) ?_
    rw [qPv,List.length_append,qPn]
end Pm

/- What may be: how many things there are, walked.
   No condition: plain lemmas. -/

namespace Pm
set_option linter.unusedSimpArgs false
set_option linter.unusedVariables false
open Go Am
open Go.Proofs.Tryd (prog)

section
variable {h : Heap} {K : Value → Heap → Prop}
set_option maxHeartbeats 4000000 in
theorem R2many_call {p:Prog} {n w:Nat} (hn:n < lim) (hk:K (vI (qFn p n w)) h):qBn prog 28 [.agg (qCs p).toArray,vI w,vI n] h K:=by
  refine Pure.go (Pure.one (p:=vI (qFn p n w)) rfl fun h=>?_) hk
  refine call_R2many (by simp) ?_
  obtain ⟨n1,hn1,wn⟩:=qBm hn
  by_cases h2:w=2
  . subst h2; simp [qAl,qAo,qAm,qAi,qAf,qAe,qAb,qAc,qAa,qAj,qAg,qAd,qAu,qAv,resV,retV,qAn,qAh,qAs,qAr,qAq,qAp,qFr,qCs]; simp [qFn]
  . by_cases h3:w=3
    . subst h3; simp [qAl,qAo,qAm,qAi,qAf,qAe,qAb,qAc,qAa,qAj,qAg,qAd,qAu,qAv,resV,retV,qAn,qAh,qAs,qAr,qAq,qAp,qFr,qCs]; simp [qFn]
    . by_cases h4:w=4
      . subst h4; simp [qAl,qAo,qAm,qAi,qAf,qAe,qAb,qAc,qAa,qAj,qAg,qAd,qAu,qAv,resV,retV,qAn,qAh,qAs,qAr,qAq,qAp,qFr,qCs]; simp [qFn]
      . by_cases h5:w=5
        . subst h5; simp [qAl,qAo,qAm,qAi,qAf,qAe,qAb,qAc,qAa,qAj,qAg,qAd,qAu,qAv,resV,retV,qAn,qAh,qAs,qAr,qAq,qAp,qFr,qCs,wn]; simp [qFn]; omega
        . by_cases h6:w=6
          . subst h6; simp [qAl,qAo,qAm,qAi,qAf,qAe,qAb,qAc,qAa,qAj,qAg,qAd,qAu,qAv,resV,retV,qAn,qAh,qAs,qAr,qAq,qAp,qFr,qCs]; simp [qFn]
          . by_cases h7:w=7
            . subst h7; simp [qAl,qAo,qAm,qAi,qAf,qAe,qAb,qAc,qAa,qAj,qAg,qAd,qAu,qAv,resV,retV,qAn,qAh,qAs,qAr,qAq,qAp,qFr,qCs]; simp [qFn]
            . by_cases h8:w=8
              . subst h8; simp [qAl,qAo,qAm,qAi,qAf,qAe,qAb,qAc,qAa,qAj,qAg,qAd,qAu,qAv,resV,retV,qAn,qAh,qAs,qAr,qAq,qAp,qFr,qCs]; simp [qFn]
              . by_cases h9:w=9
                . subst h9; simp [qAl,qAo,qAm,qAi,qAf,qAe,qAb,qAc,qAa,qAj,qAg,qAd,qAu,qAv,resV,retV,qAn,qAh,qAs,qAr,qAq,qAp,qFr,qCs]; simp [qFn]
                . by_cases h10:w=10
                  . subst h10; simp [qAl,qAo,qAm,qAi,qAf,qAe,qAb,qAc,qAa,qAj,qAg,qAd,qAu,qAv,resV,retV,qAn,qAh,qAs,qAr,qAq,qAp,qFr,qCs]; simp [qFn]
                  . have e:qFn p n w=p.onces:=by simp [qFn,h2,h3,h4,h5,h6,h7,h8,h9,h10]
                    have n2:¬ (w:Int)=2:=by omega
                    have n3:¬ (w:Int)=3:=by omega
                    have n4:¬ (w:Int)=4:=by omega
                    have n5:¬ (w:Int)=5:=by omega
                    have n6:¬ (w:Int)=6:=by omega
                    have n7:¬ (w:Int)=7:=by omega
                    have n8:¬ (w:Int)=8:=by omega
                    have n9:¬ (w:Int)=9:=by omega
                    have n10:¬ (w:Int)=10:=by omega
                    rw [e];simp [qAl,qAo,qAm,qAi,qAf,qAe,qAb,qAc,qAa,qAj,qAg,qAd,qAu,qAv,resV,retV,qAn,qAh,qAs,qAr,qAq,qAp,qFr,qCs,n2,n3,n4,n5,n6,n7,n8,n9,n10]
end
end Pm

/- What may be: one instruction, walked.
   No condition: plain lemmas. -/

namespace Pm
set_option linter.unusedSimpArgs false
set_option linter.unusedVariables false
open Go Am
open Go.Proofs.Tryd (prog)

theorem InsOk.num {p:Prog} {n:Nat} {i:Ins} (h:InsOk p n i) {k:Nat} (hk:k < 3):qUt p n (qCt i.op k) (qHx i k):=by
  have:k=0∨k=1∨k=2:=by omega
  rcases this with rfl | rfl | rfl
  . exact h.a
  . exact h.b
  . exact h.c
theorem numAt_at {i:Ins} {k:Nat} (hk:k < 3):[i.a,i.b,i.c][k]?=some (qHx i k):=by
  have:k=0∨k=1∨k=2:=by omega
  rcases this with rfl | rfl | rfl<;>rfl
section
variable {h : Heap} {K : Value → Heap → Prop}
set_option maxHeartbeats 4000000 in
theorem R2ins_call {p:Prog} {n:Nat} {i:Ins} (hn:n < lim) (hi:InsOk p n i) (hk:K (vI 0) h):qBn prog 15 [.agg (qCs p).toArray,.agg (vIns i).toArray,vI n] h K:=by
  refine Pure.go (Pure.one (p:=vI 0) rfl fun h=>?_) hk
  refine call_R2ins (by simp) ?_
  have hlim:lim=1048576:=rfl;obtain ⟨ws,hws⟩:∃ ws,ws=rowL i.op:=⟨_,rfl⟩;obtain ⟨ns,hns⟩:∃ ns,ns=[i.a,i.b,i.c]:=⟨_,rfl⟩;have hwl:ws.length=3:=by rw [hws]; unfold rowL; rw [List.length_map]; unfold qIu; split<;>rfl
  have hnl:ns.length=3:=by rw [hns]; rfl
  simp [-qAy,qAl,qAo,qAm,qAi,qAf,qAe,qAb,qAc,qAa,qAj,qAg,qAd,qAu,qAv,resV,retV,qAn,qAh,qAs,qAr,qAq,qAp,qWj,qCs,vIns];refine (R2row_pure i.op).go ?_;rw [← hws];simp [-qAy,qAl,qAo,qAm,qAi,qAf,qAe,qAb,qAc,qAa,qAj,qAg,qAd,qAu,qAv,resV,retV,qAn,qAh,qAs,qAr,qAq,qAp,callK_def];refine (R2num_pure i).go ?_;rw [← hns];simp [-qAy,qAl,qAo,qAm,qAi,qAf,qAe,qAb,qAc,qAa,qAj,qAg,qAd,qAu,qAv,resV,retV,qAn,qAh,qAs,qAr,qAq,qAp,callK_def]
  rw [qAy];simp [-qAy,qAl,qAo,qAm,qAi,qAf,qAe,qAb,qAc,qAa,qAj,qAg,qAd,qAu,qAv,resV,retV,qAn,qAh,qAs,qAr,qAq,qAp];have hR:(fun x:Nat=>h++[bx (qCs p) 7,bx (vIns i) 4])=fun _=>h++[bx (qCs p) 7,bx (vIns i) 4]:=rfl
  refine qEa (σ:=Nat) (fun k=>[(2,vI n),(3,ptr h.length),(4,ptr (h.length+1)),(7,vL vI ws),(8,vL vI ns),(9,vI k)]) (fun _=>h++[bx (qCs p) 7,bx (vIns i) 4]) (fun k=>k≤3) (fun k=>3 - k) 0 (by simp) rfl (by simp) ?_
  intro k fr hk3;have ho:=hi.op;have ho':¬ (27:Int) < i.op:=by omega
  have ho2:¬ 27 < i.op:=by omega
  by_cases hlt:k < 3
  . obtain ⟨k1,hk1,wk⟩:=qBm (show k < lim by omega)
    have hkf:(k:Int) < 3:=by omega
    have hkw:k < ws.length:=by omega
    have hkn:k < ns.length:=by omega
    have e1:ws[k]?=some (qCt i.op k:Int):=by rw [hws]; exact rowL_at hlt
    have e2:ns[k]?=some (qHx i k):=by rw [hns]; exact numAt_at hlt
    have hnum:=hi.num hlt;rw [qAy];simp [-qAy,qAl,qAo,qAm,qAi,qAf,qAe,qAb,qAc,qAa,qAj,qAg,qAd,qAu,qAv,resV,retV,qAn,qAh,qAs,qAr,qAq,qAp,hkf];rw [qAy]
    by_cases h0:qCt i.op k=0
    . have h0':(qCt i.op k:Int)=0:=by omega
      have hx:=hnum.1 h0;simp [qAl,qAo,qAm,qAi,qAf,qAe,qAb,qAc,qAa,qAj,qAg,qAd,qAu,qAv,resV,retV,qAn,qAh,qAs,qAr,qAq,qAp,qCs,vIns,ho',ho2,e1,e2,h0,h0',hx,wk];exact .go k1 (by omega) (by simp) rfl (by omega)
    . have h0':¬ (qCt i.op k:Int)=0:=by omega
      simp [qAl,qAo,qAm,qAi,qAf,qAe,qAb,qAc,qAa,qAj,qAg,qAd,qAu,qAv,resV,retV,qAn,qAh,qAs,qAr,qAq,qAp,qCs,vIns,ho',ho2,e1,e2,h0,h0',wk];exact .go k1 (by omega) (by simp) rfl (by omega)
  . obtain rfl:k=3:=by omega
    rw [qAy];simp [-qAy,qAl,qAo,qAm,qAi,qAf,qAe,qAb,qAc,qAa,qAj,qAg,qAd,qAu,qAv,resV,retV,qAn,qAh,qAs,qAr,qAq,qAp];rw [qAy];simp [-qAy,qAl,qAo,qAm,qAi,qAf,qAe,qAb,qAc,qAa,qAj,qAg,qAd,qAu,qAv,resV,retV,qAn,qAh,qAs,qAr,qAq,qAp];refine qEa (σ:=Nat) (fun k=>[(2,vI n),(3,ptr h.length),(7,vL vI ws),(8,vL vI ns),(10,vI k)]) (fun _=>h++[bx (qCs p) 7,bx (vIns i) 4]) (fun k=>k≤3) (fun k=>3 - k) 0 (by simp) rfl (by simp) ?_
    clear hk3 hlt;intro k fr hk3
    by_cases hlt:k < 3
    . obtain ⟨k1,hk1,wk⟩:=qBm (show k < lim by omega)
      have hkf:(k:Int) < 3:=by omega
      have hkw:k < ws.length:=by omega
      have hkn:k < ns.length:=by omega
      have e1:ws[k]?=some (qCt i.op k:Int):=by rw [hws]; exact rowL_at hlt
      have e2:ns[k]?=some (qHx i k):=by rw [hns]; exact numAt_at hlt
      have hnum:=hi.num hlt;obtain ⟨w,hw⟩:∃ w,w=qCt i.op k:=⟨_,rfl⟩;obtain ⟨x,hx⟩:∃ x,x=qHx i k:=⟨_,rfl⟩;rw [← hw] at e1 hnum;rw [← hx] at e2 hnum;rw [qAy];simp [-qAy,qAl,qAo,qAm,qAi,qAf,qAe,qAb,qAc,qAa,qAj,qAg,qAd,qAu,qAv,resV,retV,qAn,qAh,qAs,qAr,qAq,qAp,hkf];rw [qAy]
      by_cases h0:w=0
      . have h0':(w:Int)=0:=by omega
        simp [qAl,qAo,qAm,qAi,qAf,qAe,qAb,qAc,qAa,qAj,qAg,qAd,qAu,qAv,resV,retV,qAn,qAh,qAs,qAr,qAq,qAp,e1,h0,h0',wk];exact .go k1 (by omega) (by simp) rfl (by omega)
      . have h0':¬ (w:Int)=0:=by omega
        by_cases h1:w=1
        . have h1':(w:Int)=1:=by omega
          simp [qAl,qAo,qAm,qAi,qAf,qAe,qAb,qAc,qAa,qAj,qAg,qAd,qAu,qAv,resV,retV,qAn,qAh,qAs,qAr,qAq,qAp,e1,h0,h0',h1,h1',wk];exact .go k1 (by omega) (by simp) rfl (by omega)
        . have h1':¬ (w:Int)=1:=by omega
          obtain ⟨x0,x1,x6⟩:=hnum.2 h0 h1;have x0':¬ x < 0:=by omega
          have x1':¬ qFn p n w≤x:=by omega
          simp [qAl,qAo,qAm,qAi,qAf,qAe,qAb,qAc,qAa,qAj,qAg,qAd,qAu,qAv,resV,retV,qAn,qAh,qAs,qAr,qAq,qAp,qCs,e1,e2,h0,h0',h1,h1',x0'];refine qEi ?_ (qFm.lock (R2many_call (p:=p) hn ⟨rfl,?_⟩))
          . simp [qAl,qAo,qAm,qAi,qAf,qAe,qAb,qAc,qAa,qAj,qAg,qAd,qAu,qAv,resV,retV,qAn,qAh,qAs,qAr,qAq,qAp,e2]
          by_cases h6:w=6
          . have h6':(w:Int)=6:=by omega
            have hx6:=x6 h6;simp [qAl,qAo,qAm,qAi,qAf,qAe,qAb,qAc,qAa,qAj,qAg,qAd,qAu,qAv,resV,retV,qAn,qAh,qAs,qAr,qAq,qAp,e1,e2,x1',h6',hx6,wk];exact .go k1 (by omega) (by simp) rfl (by omega)
          . have h6':¬ (w:Int)=6:=by omega
            simp [qAl,qAo,qAm,qAi,qAf,qAe,qAb,qAc,qAa,qAj,qAg,qAd,qAu,qAv,resV,retV,qAn,qAh,qAs,qAr,qAq,qAp,e1,e2,x1',h6',h6,wk];exact .go k1 (by omega) (by simp) rfl (by omega)
    . obtain rfl:k=3:=by omega
      rw [qAy];simp [qAl,qAo,qAm,qAi,qAf,qAe,qAb,qAc,qAa,qAj,qAg,qAd,qAu,qAv,resV,retV,qAn,qAh,qAs,qAr,qAq,qAp]
end
end Pm

/- What may be: a program, walked.
   No condition: plain lemmas. -/

namespace Pm
set_option linter.unusedSimpArgs false
set_option linter.unusedVariables false
open Go Am
open Go.Proofs.Tryd (prog)

section
variable {h : Heap} {K : Value → Heap → Prop}
set_option maxHeartbeats 4000000 in
theorem R2Sound_call {p:Prog} (hp:SoundP p) (hk:K (vI 0) h):qBn prog 7 [.agg (qCs p).toArray] h K:=by
  refine Pure.go (Pure.one (p:=vI 0) rfl fun h=>?_) hk
  refine call_R2Sound (by simp) ?_
  have hlim:lim=1048576:=rfl;obtain ⟨v0,v8'⟩:=hp.vars;obtain ⟨t1,t6⟩:=hp.threads;obtain ⟨a0,a4⟩:=hp.atoms;obtain ⟨l0,l4⟩:=hp.locks;obtain ⟨g0,g4⟩:=hp.groups;obtain ⟨o0,o4⟩:=hp.onces;have c4:=hp.chans;have b1:¬ p.vars < 0:=by omega
  have b2:¬ (8:Int) < p.vars:=by omega
  have b3:¬ (4:Int) < p.chans.length:=by omega
  have b4:¬ (p.threads.length:Int) < 1:=by omega
  have b5:¬ (6:Int) < p.threads.length:=by omega
  have b3':¬ 4 < p.chans.length:=by omega
  have b4':¬ p.threads.length < 1:=by omega
  have b5':¬ 6 < p.threads.length:=by omega
  have b4'':¬ p.threads.length=0:=by omega
  have d1:¬ p.atoms < 0:=by omega
  have d2:¬ (4:Int) < p.atoms:=by omega
  have d3:¬ p.locks < 0:=by omega
  have d4:¬ (4:Int) < p.locks:=by omega
  have d5:¬ p.groups < 0:=by omega
  have d6:¬ (4:Int) < p.groups:=by omega
  have d7:¬ p.onces < 0:=by omega
  have d8:¬ (4:Int) < p.onces:=by omega
  simp [-qAy,qAl,qAo,qAm,qAi,qAf,qAe,qAb,qAc,qAa,qAj,qAg,qAd,qAu,qAv,resV,retV,qAn,qAh,qAs,qAr,qAq,qAp,qRs,qCs,b1,b2,b3,b4,b5,b3',b4',b5',b4''];rw [qAy];simp [-qAy,qAl,qAo,qAm,qAi,qAf,qAe,qAb,qAc,qAa,qAj,qAg,qAd,qAu,qAv,resV,retV,qAn,qAh,qAs,qAr,qAq,qAp];refine qXz 5 ?_;rw [qHv];simp [qAl,qAo,qAm,qAi,qAf,qAe,qAb,qAc,qAa,qAj,qAg,qAd,qAu,qAv,resV,retV,qAn,qAh,qAs,qAr,qAq,qAp,d1,d2];rw [qHv];simp [qAl,qAo,qAm,qAi,qAf,qAe,qAb,qAc,qAa,qAj,qAg,qAd,qAu,qAv,resV,retV,qAn,qAh,qAs,qAr,qAq,qAp,d3,d4]
  rw [qHv];simp [qAl,qAo,qAm,qAi,qAf,qAe,qAb,qAc,qAa,qAj,qAg,qAd,qAu,qAv,resV,retV,qAn,qAh,qAs,qAr,qAq,qAp,d5,d6];rw [qHv];simp [qAl,qAo,qAm,qAi,qAf,qAe,qAb,qAc,qAa,qAj,qAg,qAd,qAu,qAv,resV,retV,qAn,qAh,qAs,qAr,qAq,qAp,d7,d8];rw [qHv];simp [qAl,qAo,qAm,qAi,qAf,qAe,qAb,qAc,qAa,qAj,qAg,qAd,qAu,qAv,resV,retV,qAn,qAh,qAs,qAr,qAq,qAp];obtain ⟨rs,hrs⟩:∃ rs,rs=[bx (qCs p) 7,bx [vI p.atoms,vI p.locks,vI p.groups,vI p.onces] 1]:=⟨_,rfl⟩
  refine qEa (σ:=Nat) (fun k=>[(1,ptr h.length),(3,vB false),(6,vI k)]) (fun _=>h++rs) (fun k=>k≤p.threads.length) (fun k=>p.threads.length - k) 0 (by simp) (by rw [hrs]; rfl) (by simp) ?_
  . intro k fr hk0
    subst hrs
    by_cases hlt:k < p.threads.length
    . obtain ⟨k1,hk1,wk⟩:=qBm (show k < lim by omega)
      have hkf:(k:Int) < p.threads.length:=by omega
      obtain ⟨t,ht⟩:∃ t,p.threads[k]?=some t:=⟨_,List.getElem?_eq_getElem hlt⟩;have htl:=(hp.code t (List.mem_of_getElem? ht)).1;have h60:¬ 60 < t.length:=by omega
      have h60':¬ (60:Int) < t.length:=by omega
      simp [qAl,qAo,qAm,qAi,qAf,qAe,qAb,qAc,qAa,qAj,qAg,qAd,qAu,qAv,resV,retV,qAn,qAh,qAs,qAr,qAq,qAp,qCs,hkf,ht,h60,h60',wk];exact .go k1 (by omega) (by simp) rfl (by omega)
    . obtain rfl:k=p.threads.length:=by omega
      have hkf:¬ (p.threads.length:Int) < p.threads.length:=by omega
      simp [qAl,qAo,qAm,qAi,qAf,qAe,qAb,qAc,qAa,qAj,qAg,qAd,qAu,qAv,resV,retV,qAn,qAh,qAs,qAr,qAq,qAp,qCs,hkf];refine qEa (σ:=Nat) (fun k=>[(1,ptr h.length),(7,vI k)]) (fun _=>h++[bx (qCs p) 7,bx [vI p.atoms,vI p.locks,vI p.groups,vI p.onces] 1]) (fun k=>k≤p.chans.length) (fun k=>p.chans.length - k) 0 (by simp) rfl (by simp) ?_
      clear hkf;intro k fr hk0
      by_cases hlt:k < p.chans.length
      . obtain ⟨k1,hk1,wk⟩:=qBm (show k < lim by omega)
        have hkf:(k:Int) < p.chans.length:=by omega
        obtain ⟨c,hc⟩:∃ c,p.chans[k]?=some c:=⟨_,List.getElem?_eq_getElem hlt⟩;obtain ⟨c1,c3⟩:=hp.chan c (List.mem_of_getElem? hc);have f1:¬ c < 1:=by omega
        have f2:¬ 3 < c:=by omega
        simp [qAl,qAo,qAm,qAi,qAf,qAe,qAb,qAc,qAa,qAj,qAg,qAd,qAu,qAv,resV,retV,qAn,qAh,qAs,qAr,qAq,qAp,qCs,hkf,hc,f1,f2,wk];exact .go k1 (by omega) (by simp) rfl (by omega)
      . obtain rfl:k=p.chans.length:=by omega
        have hkf:¬ (p.chans.length:Int) < p.chans.length:=by omega
        simp [qAl,qAo,qAm,qAi,qAf,qAe,qAb,qAc,qAa,qAj,qAg,qAd,qAu,qAv,resV,retV,qAn,qAh,qAs,qAr,qAq,qAp,qCs,hkf];refine qEa (σ:=Nat) (fun k=>[(1,ptr h.length),(8,vI k)]) (fun _=>h++[bx (qCs p) 7,bx [vI p.atoms,vI p.locks,vI p.groups,vI p.onces] 1]) (fun k=>k≤p.threads.length) (fun k=>p.threads.length - k) 0 (by simp) rfl (by simp) ?_
        clear hkf hlt hk0;intro k fr hk0
        by_cases hlt:k < p.threads.length
        . obtain ⟨k1,hk1,wk⟩:=qBm (show k < lim by omega)
          have hkf:(k:Int) < p.threads.length:=by omega
          obtain ⟨t,ht⟩:∃ t,p.threads[k]?=some t:=⟨_,List.getElem?_eq_getElem hlt⟩;obtain ⟨htl,hto⟩:=hp.code t (List.mem_of_getElem? ht);simp [qAl,qAo,qAm,qAi,qAf,qAe,qAb,qAc,qAa,qAj,qAg,qAd,qAu,qAv,resV,retV,qAn,qAh,qAs,qAr,qAq,qAp,qCs,hkf];refine qEa (σ:=Nat) (fun j=>[(1,ptr h.length),(8,vI k),(9,vI j)]) (fun _=>h++[bx (qCs p) 7,bx [vI p.atoms,vI p.locks,vI p.groups,vI p.onces] 1]) (fun j=>j≤t.length) (fun j=>t.length - j) 0 (by simp) rfl (by simp) ?_
          intro j fr hj0
          by_cases hjt:j < t.length
          . obtain ⟨j1,hj1,wj⟩:=qBm (show j < lim by omega)
            have hjf:(j:Int) < t.length:=by omega
            obtain ⟨i,hi⟩:∃ i,t[j]?=some i:=⟨_,List.getElem?_eq_getElem hjt⟩;simp [qAl,qAo,qAm,qAi,qAf,qAe,qAb,qAc,qAa,qAj,qAg,qAd,qAu,qAv,resV,retV,qAn,qAh,qAs,qAr,qAq,qAp,qCs,ht,hi,hjf,-qAk,qBf,qBb,qAx,qCv];refine R2ins_call (p:=p) (n:=t.length) (i:=i) (by omega) (hto i (List.mem_of_getElem? hi)) ?_
            simp [qAl,qAo,qAm,qAi,qAf,qAe,qAb,qAc,qAa,qAj,qAg,qAd,qAu,qAv,resV,retV,qAn,qAh,qAs,qAr,qAq,qAp,callK_def,wj];exact .go j1 (by omega) (by simp) rfl (by omega)
          . obtain rfl:j=t.length:=by omega
            have hjf:¬ (t.length:Int) < t.length:=by omega
            simp [qAl,qAo,qAm,qAi,qAf,qAe,qAb,qAc,qAa,qAj,qAg,qAd,qAu,qAv,resV,retV,qAn,qAh,qAs,qAr,qAq,qAp,qCs,ht,hjf,wk];exact .go k1 (by omega) (by simp) rfl (by omega)
        . obtain rfl:k=p.threads.length:=by omega
          have hkf:¬ (p.threads.length:Int) < p.threads.length:=by omega
          simp [qAl,qAo,qAm,qAi,qAf,qAe,qAb,qAc,qAa,qAj,qAg,qAd,qAu,qAv,resV,retV,qAn,qAh,qAs,qAr,qAq,qAp,qCs,hkf]
end
end Pm

/- What may be: a program folded thread by thread; what is folded may be, walked.
   No condition: plain lemmas. -/

namespace Pm
set_option linter.unusedSimpArgs false
set_option linter.unusedVariables false
open Go Am
open Go.Proofs.Tryd (prog)

section
variable {P : Program} {K : Fr → Heap → Prop} {is : List AIns} {d : Option Nat} {fr : Fr} {H0 H : Heap} {b : Nat} {lit : Value} {rs : List Ob}
theorem box_push4 {α:Type} {f:α→Value} {m j:Nat} {Z:List Value} {v:Value} {l:List α} {x:α} (hr:RowV H b 0 m Z) (hm:m≠4) (ha:AccL f (b+1) H v l) (hj:j < Z.length) (hp:qDt (H++rs) 1 lit=some (1,[f x])) (hl:l.length+1≤lim) (hU:No4 (H++rs))
    (hk:∀ v1 H1 H2,qBz H1 1 (.pointer (some ⟨b,j,some 0⟩)) v1=some H2→RowV H2 b 0 m (Z.set j v1)→AccL f (b+1) H2 v1 (l++[x])→(∀ j o,rs[j]?=some o→H2[H.length+j]?=some o)→H.length+rs.length≤H2.length→qCq b H H2→No4 H2→pOps P K is (updO fr d v1) H1) :
    eK P K is d [] fr H0 (pApp (H++rs) 1 v lit):=by
  have hb:=hr.lt;obtain ⟨v1,H1,p1,a1,a2,a3,a4⟩:=Acc.app (AccL.ext ha qCq.app:AccL f (b+1) (H++rs) v l) (by simp; omega) (.refl _ _) hp rfl hl
  have a1:AccL f (b+1) H1 v1 (l++[x]):=by simpa [AccL] using a1
  rw [p1,eK_some];refine ⟨trivial,?_⟩;have hgl:∀ i,rid v=some i→i < H.length:=fun i hi=>ha.lt hi
  have hr1:RowV H1 b 0 m Z:=hr.keep (by rw [a2.2 _ (by omega),List.getElem?_append_left hb])
  have hH1:H.length+rs.length≤H1.length:=by have:=a2.1; simpa using this
  obtain ⟨H2,t1,t2,t3⟩:=hr1.set hj a1.cell;have u1:No4 H1:=hU.push p1;have u2:No4 H2:=u1.same t3 fun r h1 h2 h3=>by
    have e:H2[b]?=some (.row ⟨Z.set j v1,m,0,true⟩):=t2;rw [e] at h1; cases h1; exact absurd h3 hm
  refine hk v1 H1 H2 t1 t2 (a1.keep fun i hi=>t3.1 i (fun e=>by have:=a1.low i hi; omega)) (fun j o ho=>?_) (by rw [t3.2]; exact hH1) ⟨by rw [t3.2]; omega,fun i hi=>?_⟩ u2
  . have hj:=(List.getElem?_eq_some_iff.1 ho).1
    rw [t3.1 _ (by omega),a3 _ (by simp; omega) (fun e=>by have:=hgl _ e; omega),List.getElem?_append_right (by omega),Nat.add_sub_cancel_left,ho]
  . rw [t3.1 i (by omega),a2.2 i (by omega),List.getElem?_append_left (by omega)]
end
theorem NoU.lock {h:Heap}:NoU (lockAll h):=fun id r h1 h2=>by
  rw [qMn] at h1;cases ho:h[id]? with
  | none=>rw [ho] at h1; cases h1
  | some o =>
    rw [ho] at h1;cases o<;>simp at h1;subst h1; cases h2
def thrP (p:Prog) (t:List (List Ins)):Prog:={ p with threads:=t }
structure FoldT (s t:List (List Ins)):Prop where
  le:t.length≤s.length
  one:∀ (k:Nat) (x y:List Ins),s[k]?=some x→t[k]?=some y→qIj x y
theorem FoldT.snoc {s t:List (List Ins)} {x y:List Ins} (h:FoldT s t) (hx:s[t.length]?=some x) (hf:qIj x y):FoldT s (t++[y]):=by
  refine ⟨by have:=(List.getElem?_eq_some_iff.1 hx).1; simp; omega,fun k a b ha hb=>?_⟩
  rcases Nat.lt_or_ge k t.length with h1 | h1
  . rw [List.getElem?_append_left h1] at hb; exact h.one k a b ha hb
  . have h2:=(List.getElem?_eq_some_iff.1 hb).1
    simp at h2;obtain rfl:k=t.length:=by omega
    rw [hx] at ha; cases ha;rw [List.getElem?_append_right (Nat.le_refl _)] at hb;simp at hb;subst hb; exact hf
theorem FoldT.sound {p:Prog} {t:List (List Ins)} (h:FoldT p.threads t) (hl:t.length=p.threads.length) (hp:SoundP p):SoundP (thrP p t) :=
  hp.other rfl rfl rfl rfl rfl rfl hl fun k x y hx hy=>⟨(h.one k x y hx hy).len,fun hx'=>(h.one k x y hx hy).ok hx'⟩
section
variable {h : Heap} {K : Value → Heap → Prop}
def z7 (p:Prog) (tv:Value):List Value:=[vI p.vars,vI p.atoms,vI p.locks,vL vI p.chans,vI p.groups,vI p.onces,tv]
def zero7:List Value:=[.int .i64 0,.int .i64 0,.int .i64 0,.slice none 0 0,.int .i64 0,.int .i64 0,.slice none 0 0]
end
end Pm
