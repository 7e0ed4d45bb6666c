/- What may be: programs that are sound, without the program.
   No condition: plain lemmas. -/

import Derived.Test.YtmdnkninbkcmkaaZVPmMake2
import Derived.Test.YtmdnkninbkcmkaaZVPmFold1
import Derived.Test.YtmdnkninbkcmkaaZVPmCfgC
namespace Pm
set_option linter.unusedSimpArgs false
set_option linter.unusedVariables false
open Go Am

def qFp (p:Prog) (n:Nat) (w:Nat):Int :=
  if w=2∨w=3 then 4 else if w=4 then p.vars else if w=5 then (n:Int)+1 else if w=6 then p.threads.length else if w=7 then p.locks else if w=8 then p.atoms
  else if w=9 then p.chans.length else if w=10 then p.groups else p.onces
def qHs (i:Ins) (k:Nat):Int:=[i.a,i.b,i.c][k]?.getD 0
def qRp (p:Prog) (n w:Nat) (x:Int):Prop:=(w=0→x=0)∧(w≠0→w≠1→0≤x∧x < qFp p n w∧(w=6→x≠0))
structure InsOk (p:Prog) (n:Nat) (i:Ins):Prop where
  op:i.op≤27
  a:qRp p n (qCp i.op 0) i.a
  b:qRp p n (qCp i.op 1) i.b
  c:qRp p n (qCp i.op 2) i.c
def In4 (x:Int):Prop:=0≤x∧x≤4
structure SoundP (p:Prog):Prop where
  vars:0≤p.vars∧p.vars≤8
  chans:p.chans.length≤4
  chan:∀ c∈p.chans,1≤c∧c≤3
  threads:1≤p.threads.length∧p.threads.length≤6
  atoms:In4 p.atoms
  locks:In4 p.locks
  groups:In4 p.groups
  onces:In4 p.onces
  code:∀ t∈p.threads,t.length≤60∧∀ i∈t,InsOk p t.length i
theorem nop_ok (p:Prog) (n:Nat):InsOk p n nopI:=⟨by decide,⟨fun _=>rfl,fun h=>absurd rfl h⟩,⟨fun _=>rfl,fun h=>absurd rfl h⟩,⟨fun _=>rfl,fun h=>absurd rfl h⟩⟩
theorem fold_ok {p:Prog} {n:Nat} {i:Ins} {l:V4} (h:InsOk p n i):InsOk p n (qKg i l):=by
  unfold qKg
  split
  . split
    . rename_i h0 h1
      refine ⟨by show (1:Nat)≤27; decide,⟨fun h=>absurd h (show ¬ (2:Nat)=0 by decide),fun _ _=>⟨h0.1,h0.2,fun h=>absurd h (show ¬ (2:Nat)=6 by decide)⟩⟩,⟨fun h=>absurd h (show ¬ (1:Nat)=0 by decide),fun _ h=>absurd rfl h⟩,⟨fun _=>rfl,fun h=>absurd rfl h⟩⟩
    . split
      . rename_i h0 h1 h2
        split
        . have hb:=h.b
          rw [h2.1] at hb;have:=hb.2 (show ¬ (5:Nat)=0 by decide) (show ¬ (5:Nat)=1 by decide)
          refine ⟨by show (10:Nat)≤27; decide,⟨fun h=>absurd h (show ¬ (5:Nat)=0 by decide),fun _ _=>⟨this.1,this.2.1,fun h=>absurd h (show ¬ (5:Nat)=6 by decide)⟩⟩,⟨fun _=>rfl,fun h=>absurd rfl h⟩,⟨fun _=>rfl,fun h=>absurd rfl h⟩⟩
        . exact nop_ok p n
      . exact h
  . exact h
theorem idle_ok {p:Prog} {n:Nat} {i:Ins} {s:Nat} (h:InsOk p n i):InsOk p n (qMv i s):=by
  unfold qMv
  split
  . exact nop_ok p n
  . exact h
theorem qIn.ok {p:Prog} {n:Nat} {code out:List Ins} (h:qIn code out) (ho:∀ i∈code,InsOk p n i):∀ i∈out,InsOk p n i:=by
  intro c hc;obtain ⟨i,hi⟩:=List.mem_iff_getElem?.1 hc;have hlt:=(List.getElem?_eq_some_iff.1 hi).1;rw [h.len] at hlt;have hx:code[i]?=some code[i]:=List.getElem?_eq_getElem hlt;have hxo:=ho _ (List.getElem_mem hlt);obtain ⟨y,l,s,hy,he⟩:=h.at hx;rw [hi] at he
  injection he with he
  rw [he];refine idle_ok ?_;rcases hy with rfl | rfl
  . exact hxo
  . exact fold_ok hxo
theorem SoundP.other {p q:Prog} (h:SoundP p) (h1:q.vars=p.vars) (h2:q.atoms=p.atoms) (h3:q.locks=p.locks) (h4:q.chans=p.chans) (h5:q.groups=p.groups) (h6:q.onces=p.onces) (hl:q.threads.length=p.threads.length)
    (hc:∀ (k:Nat) (s t:List Ins),p.threads[k]?=some s→q.threads[k]?=some t→t.length=s.length∧((∀ i∈s,InsOk p s.length i)→∀ i∈t,InsOk p s.length i)):SoundP q:=by
  have hm:∀ n w,qFp q n w=qFp p n w:=fun n w=>by unfold qFp; rw [h1,h2,h3,h4,h5,h6,hl]
  have hi:∀ n i,InsOk p n i→InsOk q n i:=fun n i k=>by
    refine ⟨k.op,?_,?_,?_⟩
    . have:=k.a; unfold qRp at this ⊢; rw [hm]; exact this
    . have:=k.b; unfold qRp at this ⊢; rw [hm]; exact this
    . have:=k.c; unfold qRp at this ⊢; rw [hm]; exact this
  refine ⟨by rw [h1]; exact h.vars,by rw [h4]; exact h.chans,by rw [h4]; exact h.chan,by rw [hl]; exact h.threads,by rw [h2]; exact h.atoms,by rw [h3]; exact h.locks,by rw [h5]; exact h.groups,by rw [h6]; exact h.onces,fun t ht=>?_⟩
  obtain ⟨k,hk⟩:=List.mem_iff_getElem?.1 ht;have hlt:=(List.getElem?_eq_some_iff.1 hk).1;rw [hl] at hlt;have hs:p.threads[k]?=some p.threads[k]:=List.getElem?_eq_getElem hlt;obtain ⟨e1,e2⟩:=hc k _ t hs hk;obtain ⟨g1,g2⟩:=h.code _ (List.getElem_mem hlt);refine ⟨by omega,fun i hi2=>?_⟩
  rw [e1];exact hi _ _ (e2 g2 i hi2)
theorem qOg {o:Nat} (h:o≤27):o=0∨o=1∨o=2∨o=3∨o=4∨o=5∨o=6∨o=7∨o=8∨o=9∨o=10∨o=11∨o=12∨o=13∨o=14∨o=15∨o=16∨o=17∨o=18∨o=19∨o=20∨o=21∨o=22∨o=23∨o=24∨o=25∨o=26∨o=27:=by omega
theorem opsL_12 (k:Nat):opsL[k]?.getD 0≤27∧opsL[k]?.getD 0≠12:=by
  have h:∀ x∈opsL,x≤27∧x≠12:=by decide
  cases e:opsL[k]? with
  | none=>simp
  | some x=>simpa using h x (List.mem_of_getElem? e)
theorem mkIns_ok {l:List (List Nat)} {a b:Nat} {at_ n:Int} {m:Nat} (h0:0≤at_) (h1:at_≤n) (hm:n=m):InsOk (qFf l) m (qOi a b at_ n):=by
  obtain ⟨o,ho⟩:∃ o,o=opsL[a % 36]?.getD 0:=⟨_,rfl⟩;obtain ⟨h27,h12⟩:=opsL_12 (a % 36);rw [← ho] at h27 h12;unfold qOi;simp only [← ho];rcases qOg h27 with rfl | rfl | rfl | rfl | rfl | rfl | rfl | rfl | rfl | rfl | rfl | rfl | rfl | rfl | rfl | rfl | rfl | rfl | rfl | rfl | rfl | rfl | rfl | rfl | rfl | rfl | rfl | rfl
  all_goals first
    | exact absurd rfl h12
    | (simp only [Nat.reduceEqDiff,if_true,if_false,or_true,true_or,or_false,false_or]
       repeat' split
       all_goals first
         | omega
         | (refine ⟨?_,?_,?_,?_⟩<;>simp [qRp,qCp,qHx,qFp,qFf]<;>omega))
theorem make_sound (l:List (List Nat)):SoundP (qFf l):=by
  have hn:=qQh l;refine ⟨by simp [qFf],by simp [qFf],by simp [qFf],by simp [qFf]; omega,by simp [qFf,In4],by simp [qFf,In4],by simp [qFf,In4],by simp [qFf,In4],fun t ht=>?_⟩
  obtain ⟨k,hk,rfl⟩:∃ k,k < nThr l∧qNj l k=t:=by
    simp only [qFf] at ht;obtain ⟨k,hk,e⟩:=List.mem_map.1 ht;exact ⟨k,List.mem_range.1 hk,e⟩
  refine ⟨by have:=codeOf_len l k; omega,fun i hi=>?_⟩
  unfold qNj at hi;rcases List.mem_append.1 hi with hi | hi
  . unfold qOl at hi
    split at hi
    . obtain ⟨j,hj,rfl⟩:=List.mem_map.1 hi
      have hj2:=List.mem_range'.1 hj;obtain ⟨q,hq1,hq2⟩:=hj2;refine ⟨by show (12:Nat)≤27; decide,?_,⟨fun _=>rfl,fun h=>absurd rfl h⟩,⟨fun _=>rfl,fun h=>absurd rfl h⟩⟩
      refine ⟨fun h=>absurd h (show ¬ (6:Nat)=0 by decide),fun _ _=>?_⟩
      show (0:Int)≤(j:Int)∧(j:Int) < qFp (qFf l) _ 6∧((6:Nat)=6→(j:Int)≠0);have e:qFp (qFf l) (qNj l k).length 6=(nThr l:Int):=by simp [qFp,qFf]
      rw [e];refine ⟨by omega,by omega,fun _=>by omega⟩
    . simp at hi
  . unfold qJd at hi
    obtain ⟨j,hj,rfl⟩:=List.mem_map.1 hi;have hj2:=List.mem_range.1 hj;refine mkIns_ok (by omega) (by omega) ?_
    rw [qNj,List.length_append,qNd]
end Pm

/- What may be: how many things there are, walked.
   No condition: plain lemmas. -/

namespace Pm
set_option linter.unusedSimpArgs false
set_option linter.unusedVariables false
open Go Am
open Go.Proofs.Try (prog)

section
variable {h : Heap} {K : Value → Heap → Prop}
set_option maxHeartbeats 4000000 in
theorem R2many_call {p:Prog} {n w:Nat} (hn:n < lim) (hk:K (vI (qFp p n w)) h):qBu prog 78 [.agg (qDo p).toArray,vI w,vI n] h K:=by
  refine Pure.go (Pure.one (p:=vI (qFp p n w)) rfl fun h=>?_) hk
  refine call_R2many (by simp) ?_
  obtain ⟨n1,hn1,wn⟩:=qCj hn
  by_cases h2:w=2
  . subst h2; simp [qAk,qAn,qAl,qAi,qAf,qAe,qAb,qAc,qAa,qAj,qAg,qAd,qAu,qAv,resV,retV,qAm,qAh,qAt,qAs,qAr,qAq,qFi,qDo]; simp [qFp]
  . by_cases h3:w=3
    . subst h3; simp [qAk,qAn,qAl,qAi,qAf,qAe,qAb,qAc,qAa,qAj,qAg,qAd,qAu,qAv,resV,retV,qAm,qAh,qAt,qAs,qAr,qAq,qFi,qDo]; simp [qFp]
    . by_cases h4:w=4
      . subst h4; simp [qAk,qAn,qAl,qAi,qAf,qAe,qAb,qAc,qAa,qAj,qAg,qAd,qAu,qAv,resV,retV,qAm,qAh,qAt,qAs,qAr,qAq,qFi,qDo]; simp [qFp]
      . by_cases h5:w=5
        . subst h5; simp [qAk,qAn,qAl,qAi,qAf,qAe,qAb,qAc,qAa,qAj,qAg,qAd,qAu,qAv,resV,retV,qAm,qAh,qAt,qAs,qAr,qAq,qFi,qDo,wn]; simp [qFp]; omega
        . by_cases h6:w=6
          . subst h6; simp [qAk,qAn,qAl,qAi,qAf,qAe,qAb,qAc,qAa,qAj,qAg,qAd,qAu,qAv,resV,retV,qAm,qAh,qAt,qAs,qAr,qAq,qFi,qDo]; simp [qFp]
          . by_cases h7:w=7
            . subst h7; simp [qAk,qAn,qAl,qAi,qAf,qAe,qAb,qAc,qAa,qAj,qAg,qAd,qAu,qAv,resV,retV,qAm,qAh,qAt,qAs,qAr,qAq,qFi,qDo]; simp [qFp]
            . by_cases h8:w=8
              . subst h8; simp [qAk,qAn,qAl,qAi,qAf,qAe,qAb,qAc,qAa,qAj,qAg,qAd,qAu,qAv,resV,retV,qAm,qAh,qAt,qAs,qAr,qAq,qFi,qDo]; simp [qFp]
              . by_cases h9:w=9
                . subst h9; simp [qAk,qAn,qAl,qAi,qAf,qAe,qAb,qAc,qAa,qAj,qAg,qAd,qAu,qAv,resV,retV,qAm,qAh,qAt,qAs,qAr,qAq,qFi,qDo]; simp [qFp]
                . by_cases h10:w=10
                  . subst h10; simp [qAk,qAn,qAl,qAi,qAf,qAe,qAb,qAc,qAa,qAj,qAg,qAd,qAu,qAv,resV,retV,qAm,qAh,qAt,qAs,qAr,qAq,qFi,qDo]; simp [qFp]
                  . have e:qFp p n w=p.onces:=by simp [qFp,h2,h3,h4,h5,h6,h7,h8,h9,h10]
                    have n2:¬ (w:Int)=2:=by omega
                    have n3:¬ (w:Int)=3:=by omega
                    have n4:¬ (w:Int)=4:=by omega
                    have n5:¬ (w:Int)=5:=by omega
                    have n6:¬ (w:Int)=6:=by omega
                    have n7:¬ (w:Int)=7:=by omega
                    have n8:¬ (w:Int)=8:=by omega
                    have n9:¬ (w:Int)=9:=by omega
                    have n10:¬ (w:Int)=10:=by omega
                    rw [e];simp [qAk,qAn,qAl,qAi,qAf,qAe,qAb,qAc,qAa,qAj,qAg,qAd,qAu,qAv,resV,retV,qAm,qAh,qAt,qAs,qAr,qAq,qFi,qDo,n2,n3,n4,n5,n6,n7,n8,n9,n10]
end
end Pm

/- What may be: one instruction, walked.
   No condition: plain lemmas. -/

namespace Pm
set_option linter.unusedSimpArgs false
set_option linter.unusedVariables false
open Go Am
open Go.Proofs.Try (prog)

theorem InsOk.num {p:Prog} {n:Nat} {i:Ins} (h:InsOk p n i) {k:Nat} (hk:k < 3):qRp p n (qCp i.op k) (qHs i k):=by
  have:k=0∨k=1∨k=2:=by omega
  rcases this with rfl | rfl | rfl
  . exact h.a
  . exact h.b
  . exact h.c
theorem numAt_at {i:Ins} {k:Nat} (hk:k < 3):[i.a,i.b,i.c][k]?=some (qHs i k):=by
  have:k=0∨k=1∨k=2:=by omega
  rcases this with rfl | rfl | rfl<;>rfl
section
variable {h : Heap} {K : Value → Heap → Prop}
set_option maxHeartbeats 4000000 in
theorem R2ins_call {p:Prog} {n:Nat} {i:Ins} (hn:n < lim) (hi:InsOk p n i) (hk:K (vI 0) h):qBu prog 56 [.agg (qDo p).toArray,.agg (vIns i).toArray,vI n] h K:=by
  refine Pure.go (Pure.one (p:=vI 0) rfl fun h=>?_) hk
  refine call_R2ins (by simp) ?_
  have hlim:lim=1048576:=rfl;obtain ⟨ws,hws⟩:∃ ws,ws=rowL i.op:=⟨_,rfl⟩;obtain ⟨ns,hns⟩:∃ ns,ns=[i.a,i.b,i.c]:=⟨_,rfl⟩;have hwl:ws.length=3:=by rw [hws]; unfold rowL; rw [List.length_map]; unfold qHx; split<;>rfl
  have hnl:ns.length=3:=by rw [hns]; rfl
  simp [-qAy,qAk,qAn,qAl,qAi,qAf,qAe,qAb,qAc,qAa,qAj,qAg,qAd,qAu,qAv,resV,retV,qAm,qAh,qAt,qAs,qAr,qAq,qSr,qDo,vIns];refine (R2row_pure i.op).go ?_;rw [← hws];simp [-qAy,qAk,qAn,qAl,qAi,qAf,qAe,qAb,qAc,qAa,qAj,qAg,qAd,qAu,qAv,resV,retV,qAm,qAh,qAt,qAs,qAr,qAq,callK_def];refine (R2num_pure i).go ?_;rw [← hns];simp [-qAy,qAk,qAn,qAl,qAi,qAf,qAe,qAb,qAc,qAa,qAj,qAg,qAd,qAu,qAv,resV,retV,qAm,qAh,qAt,qAs,qAr,qAq,callK_def]
  rw [qAy];simp [-qAy,qAk,qAn,qAl,qAi,qAf,qAe,qAb,qAc,qAa,qAj,qAg,qAd,qAu,qAv,resV,retV,qAm,qAh,qAt,qAs,qAr,qAq];have hR:(fun x:Nat=>h++[bx (qDo p) 7,bx (vIns i) 4])=fun _=>h++[bx (qDo p) 7,bx (vIns i) 4]:=rfl
  refine qFe (σ:=Nat) (fun k=>[(2,vI n),(3,ptr h.length),(4,ptr (h.length+1)),(7,vL vI ws),(8,vL vI ns),(9,vI k)]) (fun _=>h++[bx (qDo p) 7,bx (vIns i) 4]) (fun k=>k≤3) (fun k=>3 - k) 0 (by simp) rfl (by simp) ?_
  intro k fr hk3;have ho:=hi.op;have ho':¬ (27:Int) < i.op:=by omega
  have ho2:¬ 27 < i.op:=by omega
  by_cases hlt:k < 3
  . obtain ⟨k1,hk1,wk⟩:=qCj (show k < lim by omega)
    have hkf:(k:Int) < 3:=by omega
    have hkw:k < ws.length:=by omega
    have hkn:k < ns.length:=by omega
    have e1:ws[k]?=some (qCp i.op k:Int):=by rw [hws]; exact rowL_at hlt
    have e2:ns[k]?=some (qHs i k):=by rw [hns]; exact numAt_at hlt
    have hnum:=hi.num hlt;rw [qAy];simp [-qAy,qAk,qAn,qAl,qAi,qAf,qAe,qAb,qAc,qAa,qAj,qAg,qAd,qAu,qAv,resV,retV,qAm,qAh,qAt,qAs,qAr,qAq,hkf];rw [qAy]
    by_cases h0:qCp i.op k=0
    . have h0':(qCp i.op k:Int)=0:=by omega
      have hx:=hnum.1 h0;simp [qAk,qAn,qAl,qAi,qAf,qAe,qAb,qAc,qAa,qAj,qAg,qAd,qAu,qAv,resV,retV,qAm,qAh,qAt,qAs,qAr,qAq,qDo,vIns,ho',ho2,e1,e2,h0,h0',hx,wk];exact .go k1 (by omega) (by simp) rfl (by omega)
    . have h0':¬ (qCp i.op k:Int)=0:=by omega
      simp [qAk,qAn,qAl,qAi,qAf,qAe,qAb,qAc,qAa,qAj,qAg,qAd,qAu,qAv,resV,retV,qAm,qAh,qAt,qAs,qAr,qAq,qDo,vIns,ho',ho2,e1,e2,h0,h0',wk];exact .go k1 (by omega) (by simp) rfl (by omega)
  . obtain rfl:k=3:=by omega
    rw [qAy];simp [-qAy,qAk,qAn,qAl,qAi,qAf,qAe,qAb,qAc,qAa,qAj,qAg,qAd,qAu,qAv,resV,retV,qAm,qAh,qAt,qAs,qAr,qAq];rw [qAy];simp [-qAy,qAk,qAn,qAl,qAi,qAf,qAe,qAb,qAc,qAa,qAj,qAg,qAd,qAu,qAv,resV,retV,qAm,qAh,qAt,qAs,qAr,qAq];refine qFe (σ:=Nat) (fun k=>[(2,vI n),(3,ptr h.length),(7,vL vI ws),(8,vL vI ns),(10,vI k)]) (fun _=>h++[bx (qDo p) 7,bx (vIns i) 4]) (fun k=>k≤3) (fun k=>3 - k) 0 (by simp) rfl (by simp) ?_
    clear hk3 hlt;intro k fr hk3
    by_cases hlt:k < 3
    . obtain ⟨k1,hk1,wk⟩:=qCj (show k < lim by omega)
      have hkf:(k:Int) < 3:=by omega
      have hkw:k < ws.length:=by omega
      have hkn:k < ns.length:=by omega
      have e1:ws[k]?=some (qCp i.op k:Int):=by rw [hws]; exact rowL_at hlt
      have e2:ns[k]?=some (qHs i k):=by rw [hns]; exact numAt_at hlt
      have hnum:=hi.num hlt;obtain ⟨w,hw⟩:∃ w,w=qCp i.op k:=⟨_,rfl⟩;obtain ⟨x,hx⟩:∃ x,x=qHs i k:=⟨_,rfl⟩;rw [← hw] at e1 hnum;rw [← hx] at e2 hnum;rw [qAy];simp [-qAy,qAk,qAn,qAl,qAi,qAf,qAe,qAb,qAc,qAa,qAj,qAg,qAd,qAu,qAv,resV,retV,qAm,qAh,qAt,qAs,qAr,qAq,hkf];rw [qAy]
      by_cases h0:w=0
      . have h0':(w:Int)=0:=by omega
        simp [qAk,qAn,qAl,qAi,qAf,qAe,qAb,qAc,qAa,qAj,qAg,qAd,qAu,qAv,resV,retV,qAm,qAh,qAt,qAs,qAr,qAq,e1,h0,h0',wk];exact .go k1 (by omega) (by simp) rfl (by omega)
      . have h0':¬ (w:Int)=0:=by omega
        by_cases h1:w=1
        . have h1':(w:Int)=1:=by omega
          simp [qAk,qAn,qAl,qAi,qAf,qAe,qAb,qAc,qAa,qAj,qAg,qAd,qAu,qAv,resV,retV,qAm,qAh,qAt,qAs,qAr,qAq,e1,h0,h0',h1,h1',wk];exact .go k1 (by omega) (by simp) rfl (by omega)
        . have h1':¬ (w:Int)=1:=by omega
          obtain ⟨x0,x1,x6⟩:=hnum.2 h0 h1;have x0':¬ x < 0:=by omega
          have x1':¬ qFp p n w≤x:=by omega
          simp [qAk,qAn,qAl,qAi,qAf,qAe,qAb,qAc,qAa,qAj,qAg,qAd,qAu,qAv,resV,retV,qAm,qAh,qAt,qAs,qAr,qAq,qDo,e1,e2,h0,h0',h1,h1',x0'];refine qHg ?_ (qKn.lock (R2many_call (p:=p) hn ⟨rfl,?_⟩))
          . simp [qAk,qAn,qAl,qAi,qAf,qAe,qAb,qAc,qAa,qAj,qAg,qAd,qAu,qAv,resV,retV,qAm,qAh,qAt,qAs,qAr,qAq,e2]
          by_cases h6:w=6
          . have h6':(w:Int)=6:=by omega
            have hx6:=x6 h6;simp [qAk,qAn,qAl,qAi,qAf,qAe,qAb,qAc,qAa,qAj,qAg,qAd,qAu,qAv,resV,retV,qAm,qAh,qAt,qAs,qAr,qAq,e1,e2,x1',h6',hx6,wk];exact .go k1 (by omega) (by simp) rfl (by omega)
          . have h6':¬ (w:Int)=6:=by omega
            simp [qAk,qAn,qAl,qAi,qAf,qAe,qAb,qAc,qAa,qAj,qAg,qAd,qAu,qAv,resV,retV,qAm,qAh,qAt,qAs,qAr,qAq,e1,e2,x1',h6',h6,wk];exact .go k1 (by omega) (by simp) rfl (by omega)
    . obtain rfl:k=3:=by omega
      rw [qAy];simp [qAk,qAn,qAl,qAi,qAf,qAe,qAb,qAc,qAa,qAj,qAg,qAd,qAu,qAv,resV,retV,qAm,qAh,qAt,qAs,qAr,qAq]
end
end Pm

/- What may be: a program, walked.
   No condition: plain lemmas. -/

namespace Pm
set_option linter.unusedSimpArgs false
set_option linter.unusedVariables false
open Go Am
open Go.Proofs.Try (prog)

section
variable {h : Heap} {K : Value → Heap → Prop}
set_option maxHeartbeats 4000000 in
theorem R2Sound_call {p:Prog} (hp:SoundP p) (hk:K (vI 0) h):qBu prog 26 [.agg (qDo p).toArray] h K:=by
  refine Pure.go (Pure.one (p:=vI 0) rfl fun h=>?_) hk
  refine call_R2Sound (by simp) ?_
  have hlim:lim=1048576:=rfl;obtain ⟨v0,v8'⟩:=hp.vars;obtain ⟨t1,t6⟩:=hp.threads;obtain ⟨a0,a4⟩:=hp.atoms;obtain ⟨l0,l4⟩:=hp.locks;obtain ⟨g0,g4⟩:=hp.groups;obtain ⟨o0,o4⟩:=hp.onces;have c4:=hp.chans;have b1:¬ p.vars < 0:=by omega
  have b2:¬ (8:Int) < p.vars:=by omega
  have b3:¬ (4:Int) < p.chans.length:=by omega
  have b4:¬ (p.threads.length:Int) < 1:=by omega
  have b5:¬ (6:Int) < p.threads.length:=by omega
  have b3':¬ 4 < p.chans.length:=by omega
  have b4':¬ p.threads.length < 1:=by omega
  have b5':¬ 6 < p.threads.length:=by omega
  have b4'':¬ p.threads.length=0:=by omega
  have d1:¬ p.atoms < 0:=by omega
  have d2:¬ (4:Int) < p.atoms:=by omega
  have d3:¬ p.locks < 0:=by omega
  have d4:¬ (4:Int) < p.locks:=by omega
  have d5:¬ p.groups < 0:=by omega
  have d6:¬ (4:Int) < p.groups:=by omega
  have d7:¬ p.onces < 0:=by omega
  have d8:¬ (4:Int) < p.onces:=by omega
  simp [-qAy,qAk,qAn,qAl,qAi,qAf,qAe,qAb,qAc,qAa,qAj,qAg,qAd,qAu,qAv,resV,retV,qAm,qAh,qAt,qAs,qAr,qAq,qOw,qDo,b1,b2,b3,b4,b5,b3',b4',b5',b4''];rw [qAy];simp [-qAy,qAk,qAn,qAl,qAi,qAf,qAe,qAb,qAc,qAa,qAj,qAg,qAd,qAu,qAv,resV,retV,qAm,qAh,qAt,qAs,qAr,qAq];refine loop_n 5 ?_;rw [qHu];simp [qAk,qAn,qAl,qAi,qAf,qAe,qAb,qAc,qAa,qAj,qAg,qAd,qAu,qAv,resV,retV,qAm,qAh,qAt,qAs,qAr,qAq,d1,d2];rw [qHu];simp [qAk,qAn,qAl,qAi,qAf,qAe,qAb,qAc,qAa,qAj,qAg,qAd,qAu,qAv,resV,retV,qAm,qAh,qAt,qAs,qAr,qAq,d3,d4]
  rw [qHu];simp [qAk,qAn,qAl,qAi,qAf,qAe,qAb,qAc,qAa,qAj,qAg,qAd,qAu,qAv,resV,retV,qAm,qAh,qAt,qAs,qAr,qAq,d5,d6];rw [qHu];simp [qAk,qAn,qAl,qAi,qAf,qAe,qAb,qAc,qAa,qAj,qAg,qAd,qAu,qAv,resV,retV,qAm,qAh,qAt,qAs,qAr,qAq,d7,d8];rw [qHu];simp [qAk,qAn,qAl,qAi,qAf,qAe,qAb,qAc,qAa,qAj,qAg,qAd,qAu,qAv,resV,retV,qAm,qAh,qAt,qAs,qAr,qAq];obtain ⟨rs,hrs⟩:∃ rs,rs=[bx (qDo p) 7,bx [vI p.atoms,vI p.locks,vI p.groups,vI p.onces] 1]:=⟨_,rfl⟩
  refine qFe (σ:=Nat) (fun k=>[(1,ptr h.length),(3,vB false),(6,vI k)]) (fun _=>h++rs) (fun k=>k≤p.threads.length) (fun k=>p.threads.length - k) 0 (by simp) (by rw [hrs]; rfl) (by simp) ?_
  . intro k fr hk0
    subst hrs
    by_cases hlt:k < p.threads.length
    . obtain ⟨k1,hk1,wk⟩:=qCj (show k < lim by omega)
      have hkf:(k:Int) < p.threads.length:=by omega
      obtain ⟨t,ht⟩:∃ t,p.threads[k]?=some t:=⟨_,List.getElem?_eq_getElem hlt⟩;have htl:=(hp.code t (List.mem_of_getElem? ht)).1;have h60:¬ 60 < t.length:=by omega
      have h60':¬ (60:Int) < t.length:=by omega
      simp [qAk,qAn,qAl,qAi,qAf,qAe,qAb,qAc,qAa,qAj,qAg,qAd,qAu,qAv,resV,retV,qAm,qAh,qAt,qAs,qAr,qAq,qDo,hkf,ht,h60,h60',wk];exact .go k1 (by omega) (by simp) rfl (by omega)
    . obtain rfl:k=p.threads.length:=by omega
      have hkf:¬ (p.threads.length:Int) < p.threads.length:=by omega
      simp [qAk,qAn,qAl,qAi,qAf,qAe,qAb,qAc,qAa,qAj,qAg,qAd,qAu,qAv,resV,retV,qAm,qAh,qAt,qAs,qAr,qAq,qDo,hkf];refine qFe (σ:=Nat) (fun k=>[(1,ptr h.length),(7,vI k)]) (fun _=>h++[bx (qDo p) 7,bx [vI p.atoms,vI p.locks,vI p.groups,vI p.onces] 1]) (fun k=>k≤p.chans.length) (fun k=>p.chans.length - k) 0 (by simp) rfl (by simp) ?_
      clear hkf;intro k fr hk0
      by_cases hlt:k < p.chans.length
      . obtain ⟨k1,hk1,wk⟩:=qCj (show k < lim by omega)
        have hkf:(k:Int) < p.chans.length:=by omega
        obtain ⟨c,hc⟩:∃ c,p.chans[k]?=some c:=⟨_,List.getElem?_eq_getElem hlt⟩;obtain ⟨c1,c3⟩:=hp.chan c (List.mem_of_getElem? hc);have f1:¬ c < 1:=by omega
        have f2:¬ 3 < c:=by omega
        simp [qAk,qAn,qAl,qAi,qAf,qAe,qAb,qAc,qAa,qAj,qAg,qAd,qAu,qAv,resV,retV,qAm,qAh,qAt,qAs,qAr,qAq,qDo,hkf,hc,f1,f2,wk];exact .go k1 (by omega) (by simp) rfl (by omega)
      . obtain rfl:k=p.chans.length:=by omega
        have hkf:¬ (p.chans.length:Int) < p.chans.length:=by omega
        simp [qAk,qAn,qAl,qAi,qAf,qAe,qAb,qAc,qAa,qAj,qAg,qAd,qAu,qAv,resV,retV,qAm,qAh,qAt,qAs,qAr,qAq,qDo,hkf];refine qFe (σ:=Nat) (fun k=>[(1,ptr h.length),(8,vI k)]) (fun _=>h++[bx (qDo p) 7,bx [vI p.atoms,vI p.locks,vI p.groups,vI p.onces] 1]) (fun k=>k≤p.threads.length) (fun k=>p.threads.length - k) 0 (by simp) rfl (by simp) ?_
        clear hkf hlt hk0;intro k fr hk0
        by_cases hlt:k < p.threads.length
        . obtain ⟨k1,hk1,wk⟩:=qCj (show k < lim by omega)
          have hkf:(k:Int) < p.threads.length:=by omega
          obtain ⟨t,ht⟩:∃ t,p.threads[k]?=some t:=⟨_,List.getElem?_eq_getElem hlt⟩;obtain ⟨htl,hto⟩:=hp.code t (List.mem_of_getElem? ht);simp [qAk,qAn,qAl,qAi,qAf,qAe,qAb,qAc,qAa,qAj,qAg,qAd,qAu,qAv,resV,retV,qAm,qAh,qAt,qAs,qAr,qAq,qDo,hkf];refine qFe (σ:=Nat) (fun j=>[(1,ptr h.length),(8,vI k),(9,vI j)]) (fun _=>h++[bx (qDo p) 7,bx [vI p.atoms,vI p.locks,vI p.groups,vI p.onces] 1]) (fun j=>j≤t.length) (fun j=>t.length - j) 0 (by simp) rfl (by simp) ?_
          intro j fr hj0
          by_cases hjt:j < t.length
          . obtain ⟨j1,hj1,wj⟩:=qCj (show j < lim by omega)
            have hjf:(j:Int) < t.length:=by omega
            obtain ⟨i,hi⟩:∃ i,t[j]?=some i:=⟨_,List.getElem?_eq_getElem hjt⟩;simp [qAk,qAn,qAl,qAi,qAf,qAe,qAb,qAc,qAa,qAj,qAg,qAd,qAu,qAv,resV,retV,qAm,qAh,qAt,qAs,qAr,qAq,qDo,ht,hi,hjf,-qAo,qBb,qAx,qAp,qCv];refine R2ins_call (p:=p) (n:=t.length) (i:=i) (by omega) (hto i (List.mem_of_getElem? hi)) ?_
            simp [qAk,qAn,qAl,qAi,qAf,qAe,qAb,qAc,qAa,qAj,qAg,qAd,qAu,qAv,resV,retV,qAm,qAh,qAt,qAs,qAr,qAq,callK_def,wj];exact .go j1 (by omega) (by simp) rfl (by omega)
          . obtain rfl:j=t.length:=by omega
            have hjf:¬ (t.length:Int) < t.length:=by omega
            simp [qAk,qAn,qAl,qAi,qAf,qAe,qAb,qAc,qAa,qAj,qAg,qAd,qAu,qAv,resV,retV,qAm,qAh,qAt,qAs,qAr,qAq,qDo,ht,hjf,wk];exact .go k1 (by omega) (by simp) rfl (by omega)
        . obtain rfl:k=p.threads.length:=by omega
          have hkf:¬ (p.threads.length:Int) < p.threads.length:=by omega
          simp [qAk,qAn,qAl,qAi,qAf,qAe,qAb,qAc,qAa,qAj,qAg,qAd,qAu,qAv,resV,retV,qAm,qAh,qAt,qAs,qAr,qAq,qDo,hkf]
end
end Pm
