/- The run of a program: its states as cells.
   No condition: plain lemmas. -/

import Derived.Test.YtmdnkninbkcmkaaZVPmOwn
import Derived.Test.YtmdnkninbkcmkaaZVPmRun2
import Derived.Test.YtmdnkninbkcmkaaZVPmCfgC
import Derived.Test.YtmdnkninbkcmkaaZVPmCfg3
namespace Pm
set_option linter.unusedSimpArgs false
set_option linter.unusedVariables false
open Go Am

def want (s:MS) (v:Nat→Value) (j:Nat):List Value :=
  if j=0 then s.at_.map vI else if j=1 then s.g.began.map vI else if j=2 then (List.range s.r.length).map (fun k=>v (16+2 * k)) else if j=3 then s.g.vars.map vI else if j=4 then s.g.atoms.map vI
  else if j=5 then s.g.locks.map vI else if j=6 then (List.range s.g.queue.length).map (fun k=>v (17+2 * k)) else if j=7 then s.g.closed.map vI else if j=8 then s.g.groups.map vI else if j=9 then s.g.onces.map vI
  else if j=10 then s.g.told.map vI else if j < 16 then [] else if j % 2=0 then (s.r[(j - 16) / 2]?.getD []).map vI else (s.g.queue[(j - 17) / 2]?.getD []).map vI
section
variable {s : MS} {v : Nat → Value}
theorem qPo:want s v 0=s.at_.map vI:=rfl
theorem want_1:want s v 1=s.g.began.map vI:=rfl
theorem qIg:want s v 2=(List.range s.r.length).map (fun k=>v (16+2 * k)):=rfl
theorem qTu:want s v 3=s.g.vars.map vI:=rfl
theorem qRr:want s v 4=s.g.atoms.map vI:=rfl
theorem qNg:want s v 5=s.g.locks.map vI:=rfl
theorem qGz:want s v 6=(List.range s.g.queue.length).map (fun k=>v (17+2 * k)):=rfl
theorem qRq:want s v 7=s.g.closed.map vI:=rfl
theorem want_8:want s v 8=s.g.groups.map vI:=rfl
theorem qTb:want s v 9=s.g.onces.map vI:=rfl
theorem qSg:want s v 10=s.g.told.map vI:=rfl
theorem qEj (k:Nat):want s v (16+2 * k)=(s.r[k]?.getD []).map vI:=by
  unfold want;rw [if_neg (by omega),if_neg (by omega),if_neg (by omega),if_neg (by omega),if_neg (by omega),if_neg (by omega),if_neg (by omega),if_neg (by omega),if_neg (by omega),if_neg (by omega),if_neg (by omega),if_neg (by omega),if_pos (by omega),show (16+2 * k - 16) / 2=k by omega]
theorem qGy (k:Nat):want s v (17+2 * k)=(s.g.queue[k]?.getD []).map vI:=by
  unfold want;rw [if_neg (by omega),if_neg (by omega),if_neg (by omega),if_neg (by omega),if_neg (by omega),if_neg (by omega),if_neg (by omega),if_neg (by omega),if_neg (by omega),if_neg (by omega),if_neg (by omega),if_neg (by omega),if_neg (by omega),show (17+2 * k - 17) / 2=k by omega]
theorem ix (j:Nat):j < 16∨(∃ k,j=16+2 * k)∨∃ k,j=17+2 * k:=by
  rcases Nat.lt_or_ge j 16 with h | h
  . exact .inl h
  . by_cases h2:j % 2=0
    . exact .inr (.inl ⟨(j - 16) / 2,by omega⟩)
    . exact .inr (.inr ⟨(j - 17) / 2,by omega⟩)
theorem qLc {j:Nat} (h:j < 16):j=0∨j=1∨j=2∨j=3∨j=4∨j=5∨j=6∨j=7∨j=8∨j=9∨j=10∨j=11∨j=12∨j=13∨j=14∨j=15:=by omega
theorem qFg {s':MS} {v v':Nat→Value} {j:Nat} {l:List Value} (h1:l=want s' v' j) (h2:∀ i,i≠j→want s v i=want s' v' i):fset (want s v) j l=want s' v':=by
  funext i
  by_cases h:i=j
  . subst h; rw [qBt,h1]
  . rw [qAz h,h2 i h]
theorem qFc (l:List Int) (i:Nat) (x:Int):(l.map vI).set i (vI x)=(l.set i x).map vI:=by rw [List.map_set]
theorem qUt (i:Nat) (x:Int):fset (want s v) 0 ((want s v 0).set i (vI x))=want { s with at_:=s.at_.set i x } v:=qFg (qFc _ _ _) fun j hj=>by unfold want; rw [if_neg hj,if_neg hj]
theorem up_1 (i:Nat) (x:Int):fset (want s v) 1 ((want s v 1).set i (vI x))=want { s with g:={ s.g with began:=s.g.began.set i x } } v:=qFg (qFc _ _ _) fun j hj=>by unfold want; rw [if_neg hj,if_neg hj]
theorem up_3 (i:Nat) (x:Int):fset (want s v) 3 ((want s v 3).set i (vI x))=want { s with g:={ s.g with vars:=s.g.vars.set i x } } v:=qFg (qFc _ _ _) fun j hj=>by unfold want; rw [if_neg hj,if_neg hj]
theorem up_4 (i:Nat) (x:Int):fset (want s v) 4 ((want s v 4).set i (vI x))=want { s with g:={ s.g with atoms:=s.g.atoms.set i x } } v:=qFg (qFc _ _ _) fun j hj=>by unfold want; rw [if_neg hj,if_neg hj]
theorem up_5 (i:Nat) (x:Int):fset (want s v) 5 ((want s v 5).set i (vI x))=want { s with g:={ s.g with locks:=s.g.locks.set i x } } v:=qFg (qFc _ _ _) fun j hj=>by unfold want; rw [if_neg hj,if_neg hj]
theorem up_7 (i:Nat) (x:Int):fset (want s v) 7 ((want s v 7).set i (vI x))=want { s with g:={ s.g with closed:=s.g.closed.set i x } } v:=qFg (qFc _ _ _) fun j hj=>by unfold want; rw [if_neg hj,if_neg hj]
theorem up_8 (i:Nat) (x:Int):fset (want s v) 8 ((want s v 8).set i (vI x))=want { s with g:={ s.g with groups:=s.g.groups.set i x } } v:=qFg (qFc _ _ _) fun j hj=>by unfold want; rw [if_neg hj,if_neg hj]
theorem up_9 (i:Nat) (x:Int):fset (want s v) 9 ((want s v 9).set i (vI x))=want { s with g:={ s.g with onces:=s.g.onces.set i x } } v:=qFg (qFc _ _ _) fun j hj=>by unfold want; rw [if_neg hj,if_neg hj]
theorem up_told (x:Int) (w:Value):fset (want s v) 10 (want s v 10++[vI x])=want { s with g:={ s.g with told:=s.g.told++[x] } } (fset v 10 w):=by
  refine qFg (by rw [qSg,qSg,List.map_append]; rfl) fun j hj=>?_
  have e1:∀ k:Nat,fset v 10 w (16+2 * k)=v (16+2 * k):=fun k=>qAz (by omega)
  have e2:∀ k:Nat,fset v 10 w (17+2 * k)=v (17+2 * k):=fun k=>qAz (by omega)
  rcases ix j with h | ⟨m,rfl⟩ | ⟨m,rfl⟩
  . rcases qLc h with rfl | rfl | rfl | rfl | rfl | rfl | rfl | rfl | rfl | rfl | rfl | rfl | rfl | rfl | rfl | rfl
    all_goals first
      | rfl
      | exact absurd rfl hj
      | (simp only [qIg,qGz,e1,e2])
  . rw [qEj,qEj]
  . rw [qGy,qGy]
theorem up_r {k:Nat} {r:List Int} (hr:s.r[k]?=some r) (i:Nat) (x:Int):fset (want s v) (16+2 * k) ((want s v (16+2 * k)).set i (vI x))=want { s with r:=s.r.set k (r.set i x) } v:=by
  have hk:=(List.getElem?_eq_some_iff.1 hr).1;refine qFg ?_ fun j hj=>?_
  . rw [qEj,qEj,hr,Option.getD_some,qFc]
    simp only;rw [List.getElem?_set_self hk,Option.getD_some]
  . rcases ix j with h | ⟨m,rfl⟩ | ⟨m,rfl⟩
    . rcases qLc h with rfl | rfl | rfl | rfl | rfl | rfl | rfl | rfl | rfl | rfl | rfl | rfl | rfl | rfl | rfl | rfl
      all_goals first
        | rfl
        | (simp only [qIg,List.length_set])
    . rw [qEj,qEj]
      simp only;rw [List.getElem?_set_ne (by omega)]
    . rw [qGy,qGy]
theorem up_q {A:Nat} {q:List Int} (hq:s.g.queue[A]?=some q) (x:Int) (w:Value) :
    fset (fset (want s v) (17+2 * A) (want s v (17+2 * A)++[vI x])) 6 ((want s v 6).set A w)=want { s with g:={ s.g with queue:=s.g.queue.set A (q++[x]) } } (fset v (17+2 * A) w):=by
  have hA:=(List.getElem?_eq_some_iff.1 hq).1
  funext j
  by_cases h6:j=6
  . subst h6
    rw [qBt,qGz,qGz];simp only [List.length_set];apply List.ext_getElem?;intro i;rw [List.getElem?_set]
    by_cases hi:A=i
    . subst hi
      simp [hA,qBt]
    . rw [if_neg hi]
      by_cases hlt:i < s.g.queue.length
      . simp [hlt]
        rw [qAz (by omega)]
      . rw [List.getElem?_eq_none (by simp; omega),List.getElem?_eq_none (by simp; omega)]
  . rw [qAz h6]
    by_cases hj:j=17+2 * A
    . subst hj
      rw [qBt,qGy,qGy,hq];simp only;rw [List.getElem?_set_self hA];simp
    . rw [qAz hj]
      rcases ix j with h | ⟨m,rfl⟩ | ⟨m,rfl⟩
      . have e1:∀ k:Nat,fset v (17+2 * A) w (16+2 * k)=v (16+2 * k):=fun k=>qAz (by omega)
        rcases qLc h with rfl | rfl | rfl | rfl | rfl | rfl | rfl | rfl | rfl | rfl | rfl | rfl | rfl | rfl | rfl | rfl
        all_goals first
          | rfl
          | exact absurd rfl h6
          | (simp only [qIg,e1])
      . rw [qEj,qEj]
      . rw [qGy,qGy]
        simp only;rw [List.getElem?_set_ne (by omega)]
end
def cS (p:Prog) (s:MS) (v:Nat→Value):List Value:=qDo p++[v 0,v 1,v 2,v 3,v 4,v 5,v 6,v 7,v 8,v 9,v 10,vI s.g.trap]
def vSt (p:Prog) (s:MS):List Value:=qDo p++[vL vI s.at_,vL vI s.g.began,vL (vL vI) s.r,vL vI s.g.vars,vL vI s.g.atoms,vL vI s.g.locks,vL (vL vI) s.g.queue,vL vI s.g.closed,vL vI s.g.groups,vL vI s.g.onces,vL vI s.g.told,vI s.g.trap]
section
variable {p : Prog} {s : MS} {v : Nat → Value}
theorem qBw:(cS p s v).length=19:=rfl
theorem qBr:List.take 19 (cS p s v)=cS p s v:=rfl
theorem Owns.like {b:Nat} {H:Heap} {c:Nat→List Value} (h:Owns b H v c) (j:Nat):cellLike (v j)=true:=by
  rcases h.acc j with ⟨h1,_⟩ | ⟨id,ver,h1,_⟩<;>rw [h1]<;>rfl
theorem cS_like (h:∀ j,cellLike (v j)=true):(cS p s v).all cellLike=true:=by
  unfold cS;rw [List.all_append];simp only [List.all_cons,List.all_nil,h,Bool.and_true,Bool.true_and]
  rfl
theorem qRn (h:∀ j,cellLike (v j)=true):cellsOf (.agg (cS p s v).toArray)=some (cS p s v):=by
  unfold cellsOf;simp only;rw [if_pos];have:(cS p s v).all cellLike=true:=by
    unfold cS;rw [List.all_append];simp only [List.all_cons,List.all_nil,h,Bool.and_true,Bool.true_and]
    rfl
  simpa using this
theorem cS_q {A:Nat} {w:Value}:cS p s (fset v (17+2 * A) w)=cS p s v:=by
  unfold cS;rw [qAz (by omega),qAz (by omega),qAz (by omega),qAz (by omega),qAz (by omega),qAz (by omega),qAz (by omega),qAz (by omega),qAz (by omega),qAz (by omega),qAz (by omega)]
theorem inlQ {b:Nat} {H:Heap} {c:Nat→List Value} {s:MS} (h:Owns b H v c) (hw:∀ j,j≠6→j % 2=0∨j < 16→c j=want s v j) (hl:(c 6).length=s.g.queue.length) (hq:∀ (i:Nat) (x:Value) (y:List Int),(c 6)[i]?=some x→s.g.queue[i]?=some y→Inl b H x (vL vI y)) :
    Inl b H (.agg (cS p s v).toArray) (.agg (vSt p s).toArray):=by
  have hr:Inl b H (v 2) (vL (vL vI) s.r):=by
    refine h.inls 2 (by rw [hw 2 (by omega) (by omega),qIg]; simp) fun i x y hx hy=>?_
    rw [hw 2 (by omega) (by omega),qIg,List.getElem?_map] at hx
    obtain ⟨k,hk,rfl⟩:=Option.map_eq_some_iff.1 hx;have hki:k=i:=by
      have:=(List.getElem?_eq_some_iff.1 hk);obtain ⟨h1,h2⟩:=this;rw [List.getElem_range] at h2;exact h2.symm
    subst hki;exact h.inl _ (by rw [hw _ (by omega) (by omega),qEj,hy]; rfl)
  refine Inls.agg (xs:=cS p s v) (ys:=vSt p s) ?_;exact ⟨.cell rfl,.cell rfl,.cell rfl,.cell rfl,.cell rfl,.cell rfl,.cell rfl,h.inl 0 (hw 0 (by omega) (by omega)),h.inl 1 (hw 1 (by omega) (by omega)),hr,h.inl 3 (hw 3 (by omega) (by omega)),h.inl 4 (hw 4 (by omega) (by omega)),h.inl 5 (hw 5 (by omega) (by omega)),
    h.inls 6 hl hq,h.inl 7 (hw 7 (by omega) (by omega)),h.inl 8 (hw 8 (by omega) (by omega)),h.inl 9 (hw 9 (by omega) (by omega)),h.inl 10 (hw 10 (by omega) (by omega)),.cell rfl,trivial⟩
theorem inlS {b:Nat} {H:Heap} {s:MS} (h:Owns b H v (want s v)):Inl b H (.agg (cS p s v).toArray) (.agg (vSt p s).toArray):=by
  refine inlQ h (fun j _ _=>rfl) (by rw [qGz]; simp) fun i x y hx hy=>?_
  rw [qGz,List.getElem?_map] at hx;obtain ⟨k,hk,rfl⟩:=Option.map_eq_some_iff.1 hx;have hki:k=i:=by
    obtain ⟨h1,h2⟩:=List.getElem?_eq_some_iff.1 hk;rw [List.getElem_range] at h2;exact h2.symm
  subst hki;exact h.inl _ (by rw [qGy,hy]; rfl)
theorem qBa:(vSt p s).length=19:=rfl
theorem qAw:List.take 19 (vSt p s)=vSt p s:=rfl
theorem qBe:cellsOf (.agg (vSt p s).toArray)=some (vSt p s):=rfl
theorem vSt_closed:(vSt p s).all qCk=true:=rfl
end
end Pm

/- The run of a program: what can go on, walked.
   No condition: plain lemmas. -/

namespace Pm
set_option linter.unusedSimpArgs false
set_option linter.unusedVariables false
open Go Am
open Go.Proofs.Try (prog)

section
variable {p : Prog} {s : MS}
theorem vN_0 {i:Ins}:(vIns i)[0]?=some (v8 i.op):=Eq.trans rfl rfl
theorem vN_1 {i:Ins}:(vIns i)[1]?=some (vI i.a):=Eq.trans rfl rfl
theorem vN_2 {i:Ins}:(vIns i)[2]?=some (vI i.b):=Eq.trans rfl rfl
theorem vN_3 {i:Ins}:(vIns i)[3]?=some (vI i.c):=Eq.trans rfl rfl
theorem vS_0:(vSt p s)[0]?=some (vI p.vars):=Eq.trans rfl rfl
theorem vS_1:(vSt p s)[1]?=some (vI p.atoms):=Eq.trans rfl rfl
theorem vS_2:(vSt p s)[2]?=some (vI p.locks):=Eq.trans rfl rfl
theorem vS_3:(vSt p s)[3]?=some (vL vI p.chans):=Eq.trans rfl rfl
theorem vS_4:(vSt p s)[4]?=some (vI p.groups):=Eq.trans rfl rfl
theorem vS_5:(vSt p s)[5]?=some (vI p.onces):=Eq.trans rfl rfl
theorem vS_6:(vSt p s)[6]?=some (vL (vM 4 vIns) p.threads):=Eq.trans rfl rfl
theorem vS_7:(vSt p s)[7]?=some (vL vI s.at_):=Eq.trans rfl rfl
theorem vS_8:(vSt p s)[8]?=some (vL vI s.g.began):=Eq.trans rfl rfl
theorem vS_9:(vSt p s)[9]?=some (vL (vL vI) s.r):=Eq.trans rfl rfl
theorem qBp:(vSt p s)[10]?=some (vL vI s.g.vars):=Eq.trans rfl rfl
theorem qBo:(vSt p s)[11]?=some (vL vI s.g.atoms):=Eq.trans rfl rfl
theorem qBn:(vSt p s)[12]?=some (vL vI s.g.locks):=Eq.trans rfl rfl
theorem qBm:(vSt p s)[13]?=some (vL (vL vI) s.g.queue):=Eq.trans rfl rfl
theorem qBl:(vSt p s)[14]?=some (vL vI s.g.closed):=Eq.trans rfl rfl
theorem qBk:(vSt p s)[15]?=some (vL vI s.g.groups):=Eq.trans rfl rfl
theorem qBj:(vSt p s)[16]?=some (vL vI s.g.onces):=Eq.trans rfl rfl
theorem qBi:(vSt p s)[17]?=some (vL vI s.g.told):=Eq.trans rfl rfl
theorem qBh:(vSt p s)[18]?=some (vI s.g.trap):=Eq.trans rfl rfl
end
theorem qFm {l:List Int} {x:Int} (h0:0≤x) (h1:x < l.length):∃ A:Nat,x=A∧(A:Int) < l.length∧A < l.length∧l[A]?=some (gI l x):=by
  obtain ⟨A,rfl⟩:∃ A:Nat,x=A:=⟨x.toNat,by omega⟩
  have hl:A < l.length:=by omega
  refine ⟨A,rfl,h1,hl,?_⟩;unfold gI;rw [show ((A:Int)).toNat=A by omega,List.getElem?_eq_getElem hl]
  rfl
theorem InsOk.many {p:Prog} {n:Nat} {i:Ins} (h:InsOk p n i) {k w:Nat} {m:Int} (hk:k < 3) (hw:qCp i.op k=w) (h01:w≠0∧w≠1) (hm:qFp p n w=m):0≤qHs i k∧qHs i k < m:=by
  have:=h.numOf hk;rw [hw] at this;have h2:=this.2 h01.1 h01.2;rw [hm] at h2;exact ⟨h2.1,h2.2.1⟩
section
variable {h : Heap} {K : Value → Heap → Prop}
theorem qCq {b:Bool} (hk:K (vI (numI b)) h):qBu prog 45 [vB b] h K:=by
  refine Pure.go (Pure.one (p:=vI (numI b)) rfl fun h=>?_) hk
  refine call_r4number (by simp) ?_
  cases b<;>simp [qMz,qAu,qAv,resV,retV,numI]
set_option maxHeartbeats 4000000 in
theorem r4blocked_call {p:Prog} {n:Nat} {s:MS} {i:Ins} (hs:Shape p s) (ho:InsOk p n i) (hk:K (vB (qDf p.chans s.g i)) h):qBu prog 66 [.agg (vSt p s).toArray,.agg (vIns i).toArray] h K:=by
  refine Pure.go (Pure.one (p:=vB (qDf p.chans s.g i)) rfl fun h=>?_) hk
  refine call_r4blocked (by simp) ?_
  have h27:=ho.op;have w0:∀ {w:Nat} {m:Int},qCp i.op 0=w→w≠0∧w≠1→qFp p n w=m→0≤i.a∧i.a < m:=fun h1 h2 h3=>ho.many (k:=0) (by omega) h1 h2 h3
  have w1:∀ {w:Nat} {m:Int},qCp i.op 1=w→w≠0∧w≠1→qFp p n w=m→0≤i.b∧i.b < m:=fun h1 h2 h3=>ho.many (k:=1) (by omega) h1 h2 h3
  by_cases o13:i.op=13
  . have hw:=w0 (w:=7) (by rw [o13]; rfl) (by decide) rfl
    obtain ⟨A,hA0,hA1,hA,hA2⟩:=qFm (l:=s.g.locks) hw.1 (by rw [hs.locks]; exact hw.2)
    have e:qDf p.chans s.g i=decide ((gI s.g.locks i.a)≠0):=by unfold qDf; simp only [o13]
    rw [e];obtain ⟨y,hy⟩:∃ y,y=gI s.g.locks i.a:=⟨_,rfl⟩;rw [← hy] at hA2 ⊢;simp [qAk,qAn,qAl,qAi,qAf,qAe,qAb,qAc,qAa,qAj,qAg,qAd,qAu,qAv,resV,retV,qAm,qAh,qAt,qAs,qAr,qAq,qEf,-qAo,qBa,qAw,qBe,vS_0,vS_1,vS_2,vS_3,vS_4,vS_5,vS_6,vS_7,vS_8,vS_9,qBp,qBo,qBn,qBm,qBl,qBk,qBj,qBi,qBh,qBb,qAx,qAp,vN_0,vN_1,vN_2,vN_3,o13,hA0,hA1,hA2]
  by_cases o15:i.op=15
  . have hw:=w0 (w:=7) (by rw [o15]; rfl) (by decide) rfl
    obtain ⟨A,hA0,hA1,hA,hA2⟩:=qFm (l:=s.g.locks) hw.1 (by rw [hs.locks]; exact hw.2)
    have e:qDf p.chans s.g i=decide ((gI s.g.locks i.a)=-1):=by unfold qDf; simp only [o15]
    rw [e];obtain ⟨y,hy⟩:∃ y,y=gI s.g.locks i.a:=⟨_,rfl⟩;rw [← hy] at hA2 ⊢;simp [qAk,qAn,qAl,qAi,qAf,qAe,qAb,qAc,qAa,qAj,qAg,qAd,qAu,qAv,resV,retV,qAm,qAh,qAt,qAs,qAr,qAq,qEf,-qAo,qBa,qAw,qBe,vS_0,vS_1,vS_2,vS_3,vS_4,vS_5,vS_6,vS_7,vS_8,vS_9,qBp,qBo,qBn,qBm,qBl,qBk,qBj,qBi,qBh,qBb,qAx,qAp,vN_0,vN_1,vN_2,vN_3,o15,hA0,hA1,hA2]
  by_cases o20:i.op=20
  . have hw:=w0 (w:=9) (by rw [o20]; rfl) (by decide) rfl
    obtain ⟨A,hA0,hA1,hA,hA2⟩:=qFm (l:=s.g.closed) hw.1 (by rw [hs.closed]; exact hw.2)
    obtain ⟨A',hA0',hB1,hB,hB2⟩:=qFm (l:=p.chans) hw.1 hw.2;obtain rfl:A=A':=by omega
    have hq:=qSn (q:=s.g.queue) hw.1 (by rw [hs.queue]; exact hw.2)
    have hql:(A:Int) < s.g.queue.length:=by rw [hs.queue]; exact hB1
    rw [hA0,show ((A:Int)).toNat=A by omega] at hq
    have e:qDf p.chans s.g i=decide (gI s.g.closed i.a=0∧((gL s.g.queue i.a).length:Int)=gI p.chans i.a):=by unfold qDf; simp only [o20]
    rw [e];obtain ⟨y,hy⟩:∃ y,y=gI s.g.closed i.a:=⟨_,rfl⟩;obtain ⟨z,hz⟩:∃ z,z=gI p.chans i.a:=⟨_,rfl⟩;rw [← hy] at hA2 ⊢;rw [← hz] at hB2 ⊢;rw [hA0];obtain ⟨q,hqq⟩:∃ q,q=gL s.g.queue (A:Int):=⟨_,rfl⟩;rw [← hqq] at hq ⊢
    by_cases hy0:y=0
    . simp [qAk,qAn,qAl,qAi,qAf,qAe,qAb,qAc,qAa,qAj,qAg,qAd,qAu,qAv,resV,retV,qAm,qAh,qAt,qAs,qAr,qAq,qEf,-qAo,qBa,qAw,qBe,vS_0,vS_1,vS_2,vS_3,vS_4,vS_5,vS_6,vS_7,vS_8,vS_9,qBp,qBo,qBn,qBm,qBl,qBk,qBj,qBi,qBh,qBb,qAx,qAp,vN_0,vN_1,vN_2,vN_3,o20,hA0,hA1,hA2,hB1,hB2,hq,hql,hy0]
    . simp [qAk,qAn,qAl,qAi,qAf,qAe,qAb,qAc,qAa,qAj,qAg,qAd,qAu,qAv,resV,retV,qAm,qAh,qAt,qAs,qAr,qAq,qEf,-qAo,qBa,qAw,qBe,vS_0,vS_1,vS_2,vS_3,vS_4,vS_5,vS_6,vS_7,vS_8,vS_9,qBp,qBo,qBn,qBm,qBl,qBk,qBj,qBi,qBh,qBb,qAx,qAp,vN_0,vN_1,vN_2,vN_3,o20,hA0,hA1,hA2,hB1,hB2,hq,hql,hy0]
  by_cases o21:i.op=21
  . have hw:=w1 (w:=9) (by rw [o21]; rfl) (by decide) rfl
    obtain ⟨A,hA0,hA1,hA,hA2⟩:=qFm (l:=s.g.closed) hw.1 (by rw [hs.closed]; exact hw.2)
    have hq:=qSn (q:=s.g.queue) hw.1 (by rw [hs.queue]; exact hw.2)
    have hql:(A:Int) < s.g.queue.length:=by rw [hs.queue,← hs.closed]; exact hA1
    rw [hA0,show ((A:Int)).toNat=A by omega] at hq
    have e:qDf p.chans s.g i=decide (gI s.g.closed i.b=0∧(gL s.g.queue i.b).length=0):=by unfold qDf; simp only [o21]
    rw [e];obtain ⟨y,hy⟩:∃ y,y=gI s.g.closed i.b:=⟨_,rfl⟩;rw [← hy] at hA2 ⊢;rw [hA0];obtain ⟨q,hqq⟩:∃ q,q=gL s.g.queue (A:Int):=⟨_,rfl⟩;rw [← hqq] at hq ⊢
    by_cases hy0:y=0
    . simp [qAk,qAn,qAl,qAi,qAf,qAe,qAb,qAc,qAa,qAj,qAg,qAd,qAu,qAv,resV,retV,qAm,qAh,qAt,qAs,qAr,qAq,qEf,-qAo,qBa,qAw,qBe,vS_0,vS_1,vS_2,vS_3,vS_4,vS_5,vS_6,vS_7,vS_8,vS_9,qBp,qBo,qBn,qBm,qBl,qBk,qBj,qBi,qBh,qBb,qAx,qAp,vN_0,vN_1,vN_2,vN_3,o21,hA0,hA1,hA2,hq,hql,hy0]
    . simp [qAk,qAn,qAl,qAi,qAf,qAe,qAb,qAc,qAa,qAj,qAg,qAd,qAu,qAv,resV,retV,qAm,qAh,qAt,qAs,qAr,qAq,qEf,-qAo,qBa,qAw,qBe,vS_0,vS_1,vS_2,vS_3,vS_4,vS_5,vS_6,vS_7,vS_8,vS_9,qBp,qBo,qBn,qBm,qBl,qBk,qBj,qBi,qBh,qBb,qAx,qAp,vN_0,vN_1,vN_2,vN_3,o21,hA0,hA1,hA2,hq,hql,hy0]
  by_cases o25:i.op=25
  . have hw:=w0 (w:=10) (by rw [o25]; rfl) (by decide) rfl
    obtain ⟨A,hA0,hA1,hA,hA2⟩:=qFm (l:=s.g.groups) hw.1 (by rw [hs.groups]; exact hw.2)
    have e:qDf p.chans s.g i=decide (0 < (gI s.g.groups i.a)):=by unfold qDf; simp only [o25]
    rw [e];obtain ⟨y,hy⟩:∃ y,y=gI s.g.groups i.a:=⟨_,rfl⟩;rw [← hy] at hA2 ⊢;simp [qAk,qAn,qAl,qAi,qAf,qAe,qAb,qAc,qAa,qAj,qAg,qAd,qAu,qAv,resV,retV,qAm,qAh,qAt,qAs,qAr,qAq,qEf,-qAo,qBa,qAw,qBe,vS_0,vS_1,vS_2,vS_3,vS_4,vS_5,vS_6,vS_7,vS_8,vS_9,qBp,qBo,qBn,qBm,qBl,qBk,qBj,qBi,qBh,qBb,qAx,qAp,vN_0,vN_1,vN_2,vN_3,o25,hA0,hA1,hA2]
  by_cases o26:i.op=26
  . have hw:=w1 (w:=11) (by rw [o26]; rfl) (by decide) rfl
    obtain ⟨A,hA0,hA1,hA,hA2⟩:=qFm (l:=s.g.onces) hw.1 (by rw [hs.onces]; exact hw.2)
    have e:qDf p.chans s.g i=decide ((gI s.g.onces i.b)=1):=by unfold qDf; simp only [o26]
    rw [e];obtain ⟨y,hy⟩:∃ y,y=gI s.g.onces i.b:=⟨_,rfl⟩;rw [← hy] at hA2 ⊢;simp [qAk,qAn,qAl,qAi,qAf,qAe,qAb,qAc,qAa,qAj,qAg,qAd,qAu,qAv,resV,retV,qAm,qAh,qAt,qAs,qAr,qAq,qEf,-qAo,qBa,qAw,qBe,vS_0,vS_1,vS_2,vS_3,vS_4,vS_5,vS_6,vS_7,vS_8,vS_9,qBp,qBo,qBn,qBm,qBl,qBk,qBj,qBi,qBh,qBb,qAx,qAp,vN_0,vN_1,vN_2,vN_3,o26,hA0,hA1,hA2]
  have e:qDf p.chans s.g i=false:=by
    unfold qDf
    split<;>first | rfl | (rename_i hh; exact absurd hh (by assumption))
  rw [e];have z13:¬ (i.op:Int)=13:=by omega
  have z15:¬ (i.op:Int)=15:=by omega
  have z20:¬ (i.op:Int)=20:=by omega
  have z21:¬ (i.op:Int)=21:=by omega
  have z25:¬ (i.op:Int)=25:=by omega
  have z26:¬ (i.op:Int)=26:=by omega
  simp [qAk,qAn,qAl,qAi,qAf,qAe,qAb,qAc,qAa,qAj,qAg,qAd,qAu,qAv,resV,retV,qAm,qAh,qAt,qAs,qAr,qAq,qEf,-qAo,qBa,qAw,qBe,vS_0,vS_1,vS_2,vS_3,vS_4,vS_5,vS_6,vS_7,vS_8,vS_9,qBp,qBo,qBn,qBm,qBl,qBk,qBj,qBi,qBh,qBb,qAx,qAp,vN_0,vN_1,vN_2,vN_3,z13,z15,z20,z21,z25,z26,o13,o15,o20,o21,o25,o26]
set_option maxHeartbeats 4000000 in
theorem r4Can_call {p:Prog} {s:MS} {k:Int} (hp:SoundP p) (hs:Shape p s) (hk:K (vB (canM p s k)) h):qBu prog 44 [.agg (vSt p s).toArray,vI k] h K:=by
  refine Pure.go (Pure.one (p:=vB (canM p s k)) rfl fun h=>?_) hk
  refine call_r4Can (by simp) ?_
  by_cases h0:k < 0
  . have e:canM p s k=false:=by unfold canM; simp; omega
    rw [e];simp [qAk,qAn,qAl,qAi,qAf,qAe,qAb,qAc,qAa,qAj,qAg,qAd,qAu,qAv,resV,retV,qAm,qAh,qAt,qAs,qAr,qAq,qKl,-qAo,qBa,qAw,qBe,vS_0,vS_1,vS_2,vS_3,vS_4,vS_5,vS_6,vS_7,vS_8,vS_9,qBp,qBo,qBn,qBm,qBl,qBk,qBj,qBi,qBh,qBb,qAx,qAp,vN_0,vN_1,vN_2,vN_3,h0]
  by_cases h1:(s.at_.length:Int)≤k
  . have e:canM p s k=false:=by unfold canM; simp; omega
    rw [e];simp [qAk,qAn,qAl,qAi,qAf,qAe,qAb,qAc,qAa,qAj,qAg,qAd,qAu,qAv,resV,retV,qAm,qAh,qAt,qAs,qAr,qAq,qKl,-qAo,qBa,qAw,qBe,vS_0,vS_1,vS_2,vS_3,vS_4,vS_5,vS_6,vS_7,vS_8,vS_9,qBp,qBo,qBn,qBm,qBl,qBk,qBj,qBi,qBh,qBb,qAx,qAp,vN_0,vN_1,vN_2,vN_3,h0,h1]
  obtain ⟨n,rfl⟩:∃ n:Nat,k=n:=⟨k.toNat,by omega⟩
  have hn:n < s.at_.length:=by omega
  have hnt:n < p.threads.length:=by rw [← hs.at_]; exact hn
  obtain ⟨B,hB0,hB1,hB,hB2⟩:=qFm (l:=s.g.began) (x:=(n:Int)) (by omega) (by rw [hs.began]; omega)
  obtain rfl:n=B:=by omega
  obtain ⟨A,hA0,hA1,hA,hA2⟩:=qFm (l:=s.at_) (x:=(n:Int)) (by omega) (by omega)
  obtain rfl:n=A:=by omega
  have ht:p.threads[n]?=some p.threads[n]:=List.getElem?_eq_getElem hnt;obtain ⟨g0,g1⟩:=hs.pc n _ _ hA2 ht;obtain ⟨a,ha⟩:∃ a:Nat,gI s.at_ n=a:=⟨(gI s.at_ n).toNat,by omega⟩
  rw [ha] at hA2 g1;obtain ⟨bg,hbg⟩:∃ bg,bg=gI s.g.began n:=⟨_,rfl⟩;obtain ⟨t,htt⟩:∃ t,t=p.threads[n]:=⟨_,rfl⟩;rw [← hbg] at hB2;rw [← htt] at ht g1;have hnp:(n:Int) < p.threads.length:=by omega
  have hins:insAt p s n=t[a]?:=by unfold insAt; rw [ht,hA2]; simp
  have hcan:canM p s n=(decide (bg≠0) && decide (s.g.trap≠1) && match t[a]? with | some i=>!qDf p.chans s.g i | none=>false):=by
    unfold canM;rw [show ((n:Int)).toNat=n by omega,hins,← hbg]
    have z1:decide (0≤(n:Int))=true:=by simp
    have z2:decide ((n:Int) < (s.at_.length:Int))=true:=by simp; omega
    rw [z1,z2,Bool.true_and,Bool.true_and]
    rfl
  rw [hcan];have h1':(n:Int) < s.at_.length:=by omega
  by_cases hb0:bg=0
  . rw [hb0] at hB2
    simp [qAk,qAn,qAl,qAi,qAf,qAe,qAb,qAc,qAa,qAj,qAg,qAd,qAu,qAv,resV,retV,qAm,qAh,qAt,qAs,qAr,qAq,qKl,-qAo,qBa,qAw,qBe,vS_0,vS_1,vS_2,vS_3,vS_4,vS_5,vS_6,vS_7,vS_8,vS_9,qBp,qBo,qBn,qBm,qBl,qBk,qBj,qBi,qBh,qBb,qAx,qAp,vN_0,vN_1,vN_2,vN_3,h0,h1,hA1,hA2,hB1,hB2,hb0]
  by_cases hend:t.length≤a
  . have hend':(t.length:Int)≤a:=by omega
    have hn0:t[a]?=none:=List.getElem?_eq_none hend;simp [qAk,qAn,qAl,qAi,qAf,qAe,qAb,qAc,qAa,qAj,qAg,qAd,qAu,qAv,resV,retV,qAm,qAh,qAt,qAs,qAr,qAq,qKl,-qAo,qBa,qAw,qBe,vS_0,vS_1,vS_2,vS_3,vS_4,vS_5,vS_6,vS_7,vS_8,vS_9,qBp,qBo,qBn,qBm,qBl,qBk,qBj,qBi,qBh,qBb,qAx,qAp,vN_0,vN_1,vN_2,vN_3,h0,h1,hA1,hA2,hB1,hB2,hb0,hend,hend',ht,hnp,hn0]
  have hend':¬ (t.length:Int)≤a:=by omega
  have hta:t[a]?=some t[a]:=List.getElem?_eq_getElem (by omega)
  obtain ⟨c,hc⟩:∃ c,c=t[a]:=⟨_,rfl⟩;rw [← hc] at hta;have hat:(a:Int) < t.length:=by omega
  have hok:=(hp.code t (List.mem_of_getElem? ht)).2 c (List.mem_of_getElem? hta);obtain ⟨tr,htr⟩:∃ tr,tr=s.g.trap:=⟨_,rfl⟩;rw [← htr]
  by_cases htr1:tr=1
  . simp [qAk,qAn,qAl,qAi,qAf,qAe,qAb,qAc,qAa,qAj,qAg,qAd,qAu,qAv,resV,retV,qAm,qAh,qAt,qAs,qAr,qAq,qKl,-qAo,qBa,qAw,qBe,vS_0,vS_1,vS_2,vS_3,vS_4,vS_5,vS_6,vS_7,vS_8,vS_9,qBp,qBo,qBn,qBm,qBl,qBk,qBj,qBi,qBh,qBb,qAx,qAp,vN_0,vN_1,vN_2,vN_3,h0,h1,hA1,hA2,hB1,hB2,hb0,hend,hend',ht,hnp,← htr,htr1]
  simp [qAk,qAn,qAl,qAi,qAf,qAe,qAb,qAc,qAa,qAj,qAg,qAd,qAu,qAv,resV,retV,qAm,qAh,qAt,qAs,qAr,qAq,qKl,-qAo,qBa,qAw,qBe,vS_0,vS_1,vS_2,vS_3,vS_4,vS_5,vS_6,vS_7,vS_8,vS_9,qBp,qBo,qBn,qBm,qBl,qBk,qBj,qBi,qBh,qBb,qAx,qAp,vN_0,vN_1,vN_2,vN_3,h0,h1,hA1,hA2,hB1,hB2,hb0,hend,hend',ht,hnp,← htr,htr1,hta,hat];refine r4blocked_call hs hok ?_;simp [qAk,qAn,qAl,qAi,qAf,qAe,qAb,qAc,qAa,qAj,qAg,qAd,qAu,qAv,resV,retV,qAm,qAh,qAt,qAs,qAr,qAq,callK_def]
end
end Pm

/- The run of a program: a state is copied.
   No condition: plain lemmas. -/

namespace Pm
set_option linter.unusedSimpArgs false
set_option linter.unusedVariables false
open Go Am
open Go.Proofs.Try (prog)

theorem qEt {e b n:Nat} {H:Heap} {x:Value} {cs:List Value} (ha:Acc e b H x n cs):cellsOf x=some [x]:=by
  rcases ha with ⟨h1,_⟩ | ⟨id,ver,h1,_⟩<;>rw [h1]<;>rfl
theorem qHf {z vs:List Value} (h:vs.length=z.length):setAll z 0 vs=vs:=by
  rw [qFk _ _ _ (by omega)]
  unfold over;rw [List.take_zero,List.nil_append,List.drop_eq_nil_of_le (by omega),List.append_nil]
def mx (p:Prog) (a7 a8 a9 a10 a11 a12 a13 a14 a15 a16 a17 a18:Value):List Value:=qDo p++[a7,a8,a9,a10,a11,a12,a13,a14,a15,a16,a17,a18]
section
variable {p : Prog} {s : MS} {x a7 a8 a9 a10 a11 a12 a13 a14 a15 a16 a17 a18 : Value}
theorem mx_of:vSt p s=mx p (vL vI s.at_) (vL vI s.g.began) (vL (vL vI) s.r) (vL vI s.g.vars) (vL vI s.g.atoms) (vL vI s.g.locks) (vL (vL vI) s.g.queue) (vL vI s.g.closed) (vL vI s.g.groups) (vL vI s.g.onces) (vL vI s.g.told) (vI s.g.trap):=rfl
theorem qGl:(mx p a7 a8 a9 a10 a11 a12 a13 a14 a15 a16 a17 a18).length=19:=rfl
theorem qEo:List.take 19 (mx p a7 a8 a9 a10 a11 a12 a13 a14 a15 a16 a17 a18)=mx p a7 a8 a9 a10 a11 a12 a13 a14 a15 a16 a17 a18:=rfl
theorem qJq:setAll (mx p a7 a8 a9 a10 a11 a12 a13 a14 a15 a16 a17 a18) 7 [x]=mx p x a8 a9 a10 a11 a12 a13 a14 a15 a16 a17 a18:=Eq.trans rfl rfl
theorem qJt:(mx p a7 a8 a9 a10 a11 a12 a13 a14 a15 a16 a17 a18)[7]?=some a7:=Eq.trans rfl rfl
theorem qJp:setAll (mx p a7 a8 a9 a10 a11 a12 a13 a14 a15 a16 a17 a18) 8 [x]=mx p a7 x a9 a10 a11 a12 a13 a14 a15 a16 a17 a18:=Eq.trans rfl rfl
theorem qJs:(mx p a7 a8 a9 a10 a11 a12 a13 a14 a15 a16 a17 a18)[8]?=some a8:=Eq.trans rfl rfl
theorem qJo:setAll (mx p a7 a8 a9 a10 a11 a12 a13 a14 a15 a16 a17 a18) 9 [x]=mx p a7 a8 x a10 a11 a12 a13 a14 a15 a16 a17 a18:=Eq.trans rfl rfl
theorem qJr:(mx p a7 a8 a9 a10 a11 a12 a13 a14 a15 a16 a17 a18)[9]?=some a9:=Eq.trans rfl rfl
theorem qGk:setAll (mx p a7 a8 a9 a10 a11 a12 a13 a14 a15 a16 a17 a18) 10 [x]=mx p a7 a8 a9 x a11 a12 a13 a14 a15 a16 a17 a18:=Eq.trans rfl rfl
theorem qGu:(mx p a7 a8 a9 a10 a11 a12 a13 a14 a15 a16 a17 a18)[10]?=some a10:=Eq.trans rfl rfl
theorem qGj:setAll (mx p a7 a8 a9 a10 a11 a12 a13 a14 a15 a16 a17 a18) 11 [x]=mx p a7 a8 a9 a10 x a12 a13 a14 a15 a16 a17 a18:=Eq.trans rfl rfl
theorem qGt:(mx p a7 a8 a9 a10 a11 a12 a13 a14 a15 a16 a17 a18)[11]?=some a11:=Eq.trans rfl rfl
theorem qGi:setAll (mx p a7 a8 a9 a10 a11 a12 a13 a14 a15 a16 a17 a18) 12 [x]=mx p a7 a8 a9 a10 a11 x a13 a14 a15 a16 a17 a18:=Eq.trans rfl rfl
theorem qGs:(mx p a7 a8 a9 a10 a11 a12 a13 a14 a15 a16 a17 a18)[12]?=some a12:=Eq.trans rfl rfl
theorem qGh:setAll (mx p a7 a8 a9 a10 a11 a12 a13 a14 a15 a16 a17 a18) 13 [x]=mx p a7 a8 a9 a10 a11 a12 x a14 a15 a16 a17 a18:=Eq.trans rfl rfl
theorem qGr:(mx p a7 a8 a9 a10 a11 a12 a13 a14 a15 a16 a17 a18)[13]?=some a13:=Eq.trans rfl rfl
theorem qGg:setAll (mx p a7 a8 a9 a10 a11 a12 a13 a14 a15 a16 a17 a18) 14 [x]=mx p a7 a8 a9 a10 a11 a12 a13 x a15 a16 a17 a18:=Eq.trans rfl rfl
theorem qGq:(mx p a7 a8 a9 a10 a11 a12 a13 a14 a15 a16 a17 a18)[14]?=some a14:=Eq.trans rfl rfl
theorem qGf:setAll (mx p a7 a8 a9 a10 a11 a12 a13 a14 a15 a16 a17 a18) 15 [x]=mx p a7 a8 a9 a10 a11 a12 a13 a14 x a16 a17 a18:=Eq.trans rfl rfl
theorem qGp:(mx p a7 a8 a9 a10 a11 a12 a13 a14 a15 a16 a17 a18)[15]?=some a15:=Eq.trans rfl rfl
theorem qGe:setAll (mx p a7 a8 a9 a10 a11 a12 a13 a14 a15 a16 a17 a18) 16 [x]=mx p a7 a8 a9 a10 a11 a12 a13 a14 a15 x a17 a18:=Eq.trans rfl rfl
theorem qGo:(mx p a7 a8 a9 a10 a11 a12 a13 a14 a15 a16 a17 a18)[16]?=some a16:=Eq.trans rfl rfl
theorem qGd:setAll (mx p a7 a8 a9 a10 a11 a12 a13 a14 a15 a16 a17 a18) 17 [x]=mx p a7 a8 a9 a10 a11 a12 a13 a14 a15 a16 x a18:=Eq.trans rfl rfl
theorem qGn:(mx p a7 a8 a9 a10 a11 a12 a13 a14 a15 a16 a17 a18)[17]?=some a17:=Eq.trans rfl rfl
theorem qGc:setAll (mx p a7 a8 a9 a10 a11 a12 a13 a14 a15 a16 a17 a18) 18 [x]=mx p a7 a8 a9 a10 a11 a12 a13 a14 a15 a16 a17 x:=Eq.trans rfl rfl
theorem qGm:(mx p a7 a8 a9 a10 a11 a12 a13 a14 a15 a16 a17 a18)[18]?=some a18:=Eq.trans rfl rfl
theorem qJn:(mx p a7 a8 a9 a10 a11 a12 a13 a14 a15 a16 a17 a18).set 7 x=mx p x a8 a9 a10 a11 a12 a13 a14 a15 a16 a17 a18:=Eq.trans rfl rfl
theorem qJm:(mx p a7 a8 a9 a10 a11 a12 a13 a14 a15 a16 a17 a18).set 8 x=mx p a7 x a9 a10 a11 a12 a13 a14 a15 a16 a17 a18:=Eq.trans rfl rfl
theorem qJl:(mx p a7 a8 a9 a10 a11 a12 a13 a14 a15 a16 a17 a18).set 9 x=mx p a7 a8 x a10 a11 a12 a13 a14 a15 a16 a17 a18:=Eq.trans rfl rfl
theorem qGb:(mx p a7 a8 a9 a10 a11 a12 a13 a14 a15 a16 a17 a18).set 10 x=mx p a7 a8 a9 x a11 a12 a13 a14 a15 a16 a17 a18:=Eq.trans rfl rfl
theorem qGa:(mx p a7 a8 a9 a10 a11 a12 a13 a14 a15 a16 a17 a18).set 11 x=mx p a7 a8 a9 a10 x a12 a13 a14 a15 a16 a17 a18:=Eq.trans rfl rfl
theorem qFz:(mx p a7 a8 a9 a10 a11 a12 a13 a14 a15 a16 a17 a18).set 12 x=mx p a7 a8 a9 a10 a11 x a13 a14 a15 a16 a17 a18:=Eq.trans rfl rfl
theorem qFy:(mx p a7 a8 a9 a10 a11 a12 a13 a14 a15 a16 a17 a18).set 13 x=mx p a7 a8 a9 a10 a11 a12 x a14 a15 a16 a17 a18:=Eq.trans rfl rfl
theorem qFx:(mx p a7 a8 a9 a10 a11 a12 a13 a14 a15 a16 a17 a18).set 14 x=mx p a7 a8 a9 a10 a11 a12 a13 x a15 a16 a17 a18:=Eq.trans rfl rfl
theorem qFw:(mx p a7 a8 a9 a10 a11 a12 a13 a14 a15 a16 a17 a18).set 15 x=mx p a7 a8 a9 a10 a11 a12 a13 a14 x a16 a17 a18:=Eq.trans rfl rfl
theorem qFv:(mx p a7 a8 a9 a10 a11 a12 a13 a14 a15 a16 a17 a18).set 16 x=mx p a7 a8 a9 a10 a11 a12 a13 a14 a15 x a17 a18:=Eq.trans rfl rfl
theorem qFu:(mx p a7 a8 a9 a10 a11 a12 a13 a14 a15 a16 a17 a18).set 17 x=mx p a7 a8 a9 a10 a11 a12 a13 a14 a15 a16 x a18:=Eq.trans rfl rfl
theorem qFt:(mx p a7 a8 a9 a10 a11 a12 a13 a14 a15 a16 a17 a18).set 18 x=mx p a7 a8 a9 a10 a11 a12 a13 a14 a15 a16 a17 x:=Eq.trans rfl rfl
theorem qCu {z0 z1 z2 z3 z4 z5 z6 z7 z8 z9 z10 z11 z12 z13 z14 z15 z16 z17 z18:Value}:setAll [z0,z1,z2,z3,z4,z5,z6,z7,z8,z9,z10,z11,z12,z13,z14,z15,z16,z17,z18] 0 (vSt p s)=mx p (vL vI s.at_) (vL vI s.g.began) (vL (vL vI) s.r) (vL vI s.g.vars) (vL vI s.g.atoms) (vL vI s.g.locks) (vL (vL vI) s.g.queue) (vL vI s.g.closed) (vL vI s.g.groups) (vL vI s.g.onces) (vL vI s.g.told) (vI s.g.trap):=by
  rw [qHf (by rw [qBa]; rfl)]
  exact mx_of
end
theorem qBf {p:Prog} {s:MS} {v:Nat→Value} {z0 z1 z2 z3 z4 z5 z6 z7 z8 z9 z10 z11 z12 z13 z14 z15 z16 z17 z18:Value}:setAll [z0,z1,z2,z3,z4,z5,z6,z7,z8,z9,z10,z11,z12,z13,z14,z15,z16,z17,z18] 0 (cS p s v)=cS p s v:=qHf (by rw [qBw]; rfl)
theorem qDe {p:Prog} {s:MS} {v:Nat→Value}:(cS p s v)[0]?=some (vI p.vars):=Eq.trans rfl rfl
theorem qDd {p:Prog} {s:MS} {v:Nat→Value}:(cS p s v)[3]?=some (vL vI p.chans):=Eq.trans rfl rfl
theorem qDc {p:Prog} {s:MS} {v:Nat→Value}:(cS p s v)[6]?=some (vL (vM 4 vIns) p.threads):=Eq.trans rfl rfl
theorem qDb {p:Prog} {s:MS} {v:Nat→Value}:(cS p s v)[7]?=some (v 0):=Eq.trans rfl rfl
theorem qDa {p:Prog} {s:MS} {v:Nat→Value}:(cS p s v)[8]?=some (v 1):=Eq.trans rfl rfl
theorem qCz {p:Prog} {s:MS} {v:Nat→Value}:(cS p s v)[9]?=some (v 2):=Eq.trans rfl rfl
theorem qCi {p:Prog} {s:MS} {v:Nat→Value}:(cS p s v)[10]?=some (v 3):=Eq.trans rfl rfl
theorem qCh {p:Prog} {s:MS} {v:Nat→Value}:(cS p s v)[11]?=some (v 4):=Eq.trans rfl rfl
theorem qCg {p:Prog} {s:MS} {v:Nat→Value}:(cS p s v)[12]?=some (v 5):=Eq.trans rfl rfl
theorem qCf {p:Prog} {s:MS} {v:Nat→Value}:(cS p s v)[13]?=some (v 6):=Eq.trans rfl rfl
theorem qCe {p:Prog} {s:MS} {v:Nat→Value}:(cS p s v)[14]?=some (v 7):=Eq.trans rfl rfl
theorem qCd {p:Prog} {s:MS} {v:Nat→Value}:(cS p s v)[15]?=some (v 8):=Eq.trans rfl rfl
theorem qCc {p:Prog} {s:MS} {v:Nat→Value}:(cS p s v)[16]?=some (v 9):=Eq.trans rfl rfl
theorem qCb {p:Prog} {s:MS} {v:Nat→Value}:(cS p s v)[17]?=some (v 10):=Eq.trans rfl rfl
theorem qCa {p:Prog} {s:MS} {v:Nat→Value}:(cS p s v)[18]?=some (vI s.g.trap):=Eq.trans rfl rfl
theorem qBy {p:Prog} {s:MS} {v:Nat→Value} {x:Int}:(cS p s v).set 18 (vI x)=cS p { s with g:={ s.g with trap:=x } } v:=Eq.trans rfl rfl
theorem qBz {p:Prog} {s:MS} {v:Nat→Value} {w:Value}:(cS p s v).set 17 w=cS p s (fset v 10 w):=rfl
def OwnG (h g:Heap) (v:Nat→Value) (c:Nat→List Value):Prop:=∀ b1 b2 b3:Ob,Owns (h.length+3) (h++(b1 :: b2 :: b3 :: g)) v c
section
variable {h g g' : Heap} {v : Nat → Value} {c : Nat → List Value} {b1 b2 b3 : Ob}
theorem OwnG.none:OwnG h [] (fun _=>nilS) (fun _=>[]):=fun _ _ _=>Owns.none
theorem at_g {i:Nat} (hi:h.length+3≤i):(h++(b1 :: b2 :: b3 :: g))[i]?=g[i - (h.length+3)]?:=by
  obtain ⟨j,rfl⟩:∃ j,i=h.length+(j+3):=⟨i - h.length - 3,by omega⟩
  rw [List.getElem?_append_right (by omega),show h.length+(j+3) - h.length=j+3 by omega,show h.length+(j+3) - (h.length+3)=j by omega]
  rfl
theorem ownG_of (h1:Owns (h.length+3) (h++(b1 :: b2 :: b3 :: g)) v c):OwnG h g v c:=fun c1 c2 c3=>h1.keep fun i hi _=>by rw [at_g hi,at_g hi]
theorem OwnG.grow (ho:OwnG h g v c):OwnG h (g++g') v c:=fun c1 c2 c3=>by
  have:=(ho c1 c2 c3).app (rs:=g')
  simpa using this
theorem OwnG.add (ho:OwnG h g v c) (j:Nat) {x:Value} {l:List Value} (hj:v j=nilS) (ha:Acc 1 (h++(b1 :: b2 :: b3 :: g)).length (h++(b1 :: b2 :: b3 :: (g++g'))) x l.length l):OwnG h (g++g') (fset v j x) (fset c j l):=by
  refine ownG_of (b1:=b1) (b2:=b2) (b3:=b3) ?_;refine (ho b1 b2 b3).add j hj (by simp) ?_ ha
  have:h++(b1 :: b2 :: b3 :: (g++g'))=(h++(b1 :: b2 :: b3 :: g))++g':=by simp
  rw [this];exact .app
theorem OwnG.add' (ho:OwnG h g v c) (j:Nat) {x:Value} {l:List Value} {H:Heap} (hH:H=h++(b1 :: b2 :: b3 :: g)) (hj:v j=nilS) (ha:Acc 1 H.length (H++g') x l.length l):OwnG h (g++g') (fset v j x) (fset c j l):=by
  subst hH;refine ho.add j (b1:=b1) (b2:=b2) (b3:=b3) hj ?_;rw [List.append_assoc] at ha;exact ha
theorem keepsG {H2:Heap} (k:qCx (h.length+3) (h++(b1 :: b2 :: b3 :: g)) H2):∃ g2,H2=h++(b1 :: b2 :: b3 :: g2):=by
  have k':qCx (h++[b1,b2,b3]).length (h++[b1,b2,b3]) H2:=by
    refine ⟨Nat.le_trans (by simp) k.1,fun i hi=>?_⟩
    have hi':i < h.length+3:=by simpa using hi
    rw [k.2 i hi'];have:h++(b1 :: b2 :: b3 :: g)=(h++[b1,b2,b3])++g:=by simp
    rw [this,List.getElem?_append_left hi]
  obtain ⟨g2,e⟩:=k'.ext;exact ⟨g2,by rw [e]; simp⟩
theorem OwnG.more (ho:OwnG h g v c) (j:Nat) {x:Value} {new:List Value} (hn:qDu (h++(b1 :: b2 :: b3 :: g)) 1 x=some (new.length,new)) (hlim:(c j).length+new.length≤lim) :
    ∃ w g2,pApp (h++(b1 :: b2 :: b3 :: g)) 1 (v j) x=some (w,h++(b1 :: b2 :: b3 :: g2))∧OwnG h g2 (fset v j w) (fset c j (c j++new)):=by
  obtain ⟨w,H',g3,q1,q2,q3,q4,_⟩:=(ho b1 b2 b3).more j (rs:=[]) (by simp) (by rw [List.append_nil]; exact hn) hlim
  rw [List.append_nil,List.nil_append] at q1;rw [List.nil_append] at q3;have k:qCx (h.length+3) (h++(b1 :: b2 :: b3 :: g)) (H'++g3):=by
    refine ⟨by rw [← q2,List.length_append]; exact Nat.le_add_right _ _,fun i hi=>?_⟩
    rw [List.getElem?_append_left (by rw [q2]; simp; omega)]
    exact q4 i ((ho b1 b2 b3).low hi)
  obtain ⟨g2,e⟩:=keepsG k;rw [e] at q1 q3;exact ⟨w,g2,q1,ownG_of q3⟩
theorem pElems_last {G:Heap} {x:Value} {k:Nat} (hk:k=G.length):qDu (G++[bx [x] 1]) 1 (.slice (some ⟨k,0,Option.none⟩) 1 0)=some (1,[x]):=by
  subst hk;simp [qDu,qFn,qFh,Heap.cells?,Heap.row?,bx]
theorem Owns.one {b:Nat} {H:Heap} (ho:Owns b H v c) (j:Nat):cellsOf (v j)=some [v j]:=qEt (ho.acc j)
theorem OwnG.push {P:Program} {K:Fr→Heap→Prop} {is:List AIns} {d:Option Nat} {fr:Fr} {H0 G:Heap} {k:Nat} {x vj:Value} (ho:OwnG h g v c) (j:Nat) (hG:G=g++[bx [x] 1]) (hk:k=h.length+(g.length+3)) (hv:vj=v j) (hl:(c j).length+1≤lim)
    (hn:∀ w g2,OwnG h g2 (fset v j w) (fset c j (c j++[x]))→cellsOf w=some [w]→pOps P K is (updO fr d w) (h++(b1 :: b2 :: b3 :: g2))):eK P K is d [] fr H0 (pApp (h++(b1 :: b2 :: b3 :: G)) 1 vj (.slice (some ⟨k,0,Option.none⟩) 1 0)):=by
  subst hG; subst hv;have hp:qDu (h++(b1 :: b2 :: b3 :: (g++[bx [x] 1]))) 1 (.slice (some ⟨k,0,Option.none⟩) 1 0)=some (1,[x]):=by
    have:=pElems_last (G:=h++(b1 :: b2 :: b3 :: g)) (x:=x) (k:=k) (by simp; omega)
    simpa using this
  obtain ⟨w,g2,q1,q2⟩:=(ho.grow (g':=[bx [x] 1])).more (b1:=b1) (b2:=b2) (b3:=b3) j (new:=[x]) hp hl;rw [q1,eK_some];refine ⟨trivial,hn w g2 q2 ?_⟩;have:=(q2 .hole .hole .hole).one j;rw [qBt] at this;exact this
theorem Owns.stay {b:Nat} {H:Heap} (ho:Owns b H v c) (j:Nat):qMk (v j)=true:=by
  rcases ho.acc j with ⟨h1,_⟩ | ⟨id,ver,h1,_⟩<;>rw [h1]<;>rfl
theorem OwnG.stay (ho:OwnG h g v c) (j:Nat):qMk (v j)=true:=(ho .hole .hole .hole).stay j
theorem Owns.weak {b b':Nat} {H:Heap} (hb:b'≤b) (ho:Owns b H v c):Owns b' H v c:=by
  refine ⟨fun j=>?_,ho.apart⟩
  rcases ho.acc j with h1 | ⟨id,ver,h1,h2,h3⟩
  . exact Or.inl h1
  . exact Or.inr ⟨id,ver,h1,by omega,h3⟩
end
section
variable {h : Heap} {K : Value → Heap → Prop}
theorem qDt {l:List Int} (hl:l.length≤lim) (hk:∀ v g,Acc 1 h.length (h++g) v (l.map vI).length (l.map vI)→K v (h++g)):qBu prog 54 [vL vI l] h K:=by
  refine call_r4clone (by simp) ?_
  obtain ⟨v',h2,q1,q2,q3,_⟩:=(Acc.nil:Acc 1 h.length h nilS 0 []).app (Nat.le_refl _) (h1:=h) (.refl _ _) (x:=vL vI l) (k:=l.length) (new:=l.map vI) (by simp) (by simp) (by omega)
  obtain ⟨g,rfl⟩:=q3.ext;rw [Nat.zero_add,List.nil_append] at q2;simp [qAk,qAn,qAl,qAi,qAf,qAe,qAb,qAc,qAa,qAj,qAg,qAd,qAu,qAv,resV,retV,qAm,qAh,qAt,qAs,qAr,qAq,qOs,q1];exact hk v' g (by rw [List.length_map]; exact q2)
def qFs (s:MS) (i m:Nat):MS:={ s with r:=s.r.take i,g:={ s.g with queue:=s.g.queue.take m } }
structure CopyI (h:Heap) (s:MS) (i m:Nat) (g:Heap) (v:Nat→Value):Prop where
  own:OwnG h g v (want (qFs s i m) v)
  r:∀ k,i≤k→v (16+2 * k)=nilS
  q:∀ k,m≤k→v (17+2 * k)=nilS
def fixV (x0 x1 x3 x4 x5 x7 x8 x9 x10:Value):Nat→Value:=fset (fset (fset (fset (fset (fset (fset (fset (fset (fun _=>nilS) 0 x0) 1 x1) 3 x3) 4 x4) 5 x5) 7 x7) 8 x8) 9 x9) 10 x10
def fixC (s:MS):Nat→List Value:=fset (fset (fset (fset (fset (fset (fset (fset (fset (fun _=>[]) 0 (s.at_.map vI)) 1 (s.g.began.map vI)) 3 (s.g.vars.map vI)) 4 (s.g.atoms.map vI)) 5 (s.g.locks.map vI)) 7 (s.g.closed.map vI)) 8 (s.g.groups.map vI)) 9 (s.g.onces.map vI)) 10 (s.g.told.map vI)
theorem fixC_want {s:MS} {v:Nat→Value}:fixC s=want (qFs s 0 0) v:=by
  funext j
  rcases ix j with h | ⟨m,rfl⟩ | ⟨m,rfl⟩
  . rcases qLc h with rfl | rfl | rfl | rfl | rfl | rfl | rfl | rfl | rfl | rfl | rfl | rfl | rfl | rfl | rfl | rfl
    all_goals first
      | rfl
      | (simp [want,qFs,fixC,fset])
  . rw [qEj]
    unfold fixC;rw [qAz (by omega),qAz (by omega),qAz (by omega),qAz (by omega),qAz (by omega),qAz (by omega),qAz (by omega),qAz (by omega),qAz (by omega)]
    simp [qFs]
  . rw [qGy]
    unfold fixC;rw [qAz (by omega),qAz (by omega),qAz (by omega),qAz (by omega),qAz (by omega),qAz (by omega),qAz (by omega),qAz (by omega),qAz (by omega)]
    simp [qFs]
theorem copy_r {s:MS} {i i1 m:Nat} {r:List Int} {v:Nat→Value} {x w:Value} (hi:i1=i+1) (hr:s.r[i]?=some r) :
    fset (fset (want (qFs s i m) v) (16+2 * i) (r.map vI)) 2 ((fset (want (qFs s i m) v) (16+2 * i) (r.map vI)) 2++[x])=want (qFs s i1 m) (fset (fset v (16+2 * i) x) 2 w):=by
  subst hi;have hlt:=(List.getElem?_eq_some_iff.1 hr).1
  funext j
  have e1:∀ k:Nat,k≠i→fset (fset v (16+2 * i) x) 2 w (16+2 * k)=v (16+2 * k):=fun k hk=>by rw [qAz (by omega),qAz (by omega)]
  have e2:∀ k:Nat,fset (fset v (16+2 * i) x) 2 w (17+2 * k)=v (17+2 * k):=fun k=>by rw [qAz (by omega),qAz (by omega)]
  have e3:fset (fset v (16+2 * i) x) 2 w (16+2 * i)=x:=by rw [qAz (by omega),qBt]
  rcases ix j with h | ⟨k,rfl⟩ | ⟨k,rfl⟩
  . by_cases h2:j=2
    . subst h2
      rw [qBt,qAz (by omega),qIg,qIg]
      have l1:(qFs s i m).r.length=i:=by simp [qFs]; omega
      have l2:(qFs s (i+1) m).r.length=i+1:=by simp [qFs]; omega
      rw [l1,l2,List.range_succ,List.map_append]
      congr 1
      . refine List.map_congr_left fun k hk=>?_
        have:=List.mem_range.1 hk;rw [e1 k (by omega)]
      . simp only [List.map_cons,List.map_nil,e3]
    . rw [qAz h2,qAz (by omega)]
      rcases qLc h with rfl | rfl | rfl | rfl | rfl | rfl | rfl | rfl | rfl | rfl | rfl | rfl | rfl | rfl | rfl | rfl
      all_goals first
        | rfl
        | exact absurd rfl h2
        | (simp only [qGz,e2,qFs])
  . rw [qAz (by omega),qEj]
    by_cases hk:k=i
    . subst hk
      rw [qBt];simp only [qFs];rw [List.getElem?_take_of_lt (by omega),hr]
      rfl
    . rw [qAz (by omega),qEj]
      simp only [qFs,List.getElem?_take]
      congr 1
      by_cases h1:k < i
      . rw [if_pos h1,if_pos (by omega)]
      . rw [if_neg h1,if_neg (by omega)]
  . rw [qAz (by omega),qAz (by omega),qGy,qGy]
    rfl
theorem copy_q {s:MS} {i i1 m:Nat} {r:List Int} {v:Nat→Value} {x w:Value} (hi:i1=i+1) (hr:s.g.queue[i]?=some r) :
    fset (fset (want (qFs s m i) v) (17+2 * i) (r.map vI)) 6 ((fset (want (qFs s m i) v) (17+2 * i) (r.map vI)) 6++[x])=want (qFs s m i1) (fset (fset v (17+2 * i) x) 6 w):=by
  subst hi;have hlt:=(List.getElem?_eq_some_iff.1 hr).1
  funext j
  have e1:∀ k:Nat,k≠i→fset (fset v (17+2 * i) x) 6 w (17+2 * k)=v (17+2 * k):=fun k hk=>by rw [qAz (by omega),qAz (by omega)]
  have e2:∀ k:Nat,fset (fset v (17+2 * i) x) 6 w (16+2 * k)=v (16+2 * k):=fun k=>by rw [qAz (by omega),qAz (by omega)]
  have e3:fset (fset v (17+2 * i) x) 6 w (17+2 * i)=x:=by rw [qAz (by omega),qBt]
  rcases ix j with h | ⟨k,rfl⟩ | ⟨k,rfl⟩
  . by_cases h2:j=6
    . subst h2
      rw [qBt,qAz (by omega),qGz,qGz]
      have l1:(qFs s m i).g.queue.length=i:=by simp [qFs]; omega
      have l2:(qFs s m (i+1)).g.queue.length=i+1:=by simp [qFs]; omega
      rw [l1,l2,List.range_succ,List.map_append]
      congr 1
      . refine List.map_congr_left fun k hk=>?_
        have:=List.mem_range.1 hk;rw [e1 k (by omega)]
      . simp only [List.map_cons,List.map_nil,e3]
    . rw [qAz h2,qAz (by omega)]
      rcases qLc h with rfl | rfl | rfl | rfl | rfl | rfl | rfl | rfl | rfl | rfl | rfl | rfl | rfl | rfl | rfl | rfl
      all_goals first
        | rfl
        | exact absurd rfl h2
        | (simp only [qIg,e2,qFs])
  . rw [qAz (by omega),qAz (by omega),qEj,qEj]
    rfl
  . rw [qAz (by omega),qGy]
    by_cases hk:k=i
    . subst hk
      rw [qBt];simp only [qFs];rw [List.getElem?_take_of_lt (by omega),hr]
      rfl
    . rw [qAz (by omega),qGy]
      simp only [qFs,List.getElem?_take]
      congr 1
      by_cases h1:k < i
      . rw [if_pos h1,if_pos (by omega)]
      . rw [if_neg h1,if_neg (by omega)]
set_option maxHeartbeats 4000000 in
theorem r4Copy_call {p:Prog} {s:MS} (hs:Shape p s) (ht:s.g.told.length≤lim) (hl:∀ l∈s.g.queue,l.length≤lim) (hn:p.threads.length≤6∧p.chans.length≤4) (hsm:s.g.vars.length≤lim∧s.g.atoms.length≤lim∧s.g.locks.length≤lim∧s.g.groups.length≤lim∧s.g.onces.length≤lim)
    (hk:∀ v g,Owns h.length (h++g) v (want s v)→K (.agg (cS p s v).toArray) (h++g)):qBu prog 22 [.agg (vSt p s).toArray] h K:=by
  have hlim:lim=1048576:=rfl;have l0:s.at_.length≤lim:=by rw [hs.at_]; omega
  have l1:s.g.began.length≤lim:=by rw [hs.began]; omega
  have l7:s.g.closed.length≤lim:=by rw [hs.closed]; omega
  refine call_r4Copy (by simp) ?_
  obtain ⟨b1,hb1⟩:∃ b1,b1=bx (vSt p s) 19:=⟨_,rfl⟩;simp [-qAy,qAk,qAn,qAl,qAi,qAf,qAe,qAb,qAc,qAa,qAj,qAg,qAd,qAu,qAv,resV,retV,qAm,qAh,qAt,qAs,qAr,qAq,qRa,-qAo,qBa,qAw,qBe,vS_0,vS_1,vS_2,vS_3,vS_4,vS_5,vS_6,vS_7,vS_8,vS_9,qBp,qBo,qBn,qBm,qBl,qBk,qBj,qBi,qBh,qBb,qAx,qAp,vN_0,vN_1,vN_2,vN_3,qJn,qJm,qJl,qGb,qGa,qFz,qFy,qFx,qFw,qFv,qFu,qFt,qGl,qEo,qCu,qJq,qJt,qJp,qJs,qJo,qJr,qGk,qGu,qGj,qGt,qGi,qGs,qGh,qGr,qGg,qGq,qGf,qGp,qGe,qGo,qGd,qGn,qGc,qGm]
  refine qDt l0 fun x0 g0 a0=>?_
  have O0:=OwnG.add' (OwnG.none:OwnG h _ _ _) 0 rfl (by simp [fset]) a0
  try simp only [List.nil_append,List.append_assoc] at O0
  have k0:=qEt a0;clear a0;simp [-qAy,qAk,qAn,qAl,qAi,qAf,qAe,qAb,qAc,qAa,qAj,qAg,qAd,qAu,qAv,resV,retV,qAm,qAh,qAt,qAs,qAr,qAq,callK_def,-qAo,qBa,qAw,qBe,vS_0,vS_1,vS_2,vS_3,vS_4,vS_5,vS_6,vS_7,vS_8,vS_9,qBp,qBo,qBn,qBm,qBl,qBk,qBj,qBi,qBh,qBb,qAx,qAp,vN_0,vN_1,vN_2,vN_3,qJn,qJm,qJl,qGb,qGa,qFz,qFy,qFx,qFw,qFv,qFu,qFt,qGl,qEo,qCu,qJq,qJt,qJp,qJs,qJo,qJr,qGk,qGu,qGj,qGt,qGi,qGs,qGh,qGr,qGg,qGq,qGf,qGp,qGe,qGo,qGd,qGn,qGc,qGm,k0]
  refine qDt l1 fun x1 g1 a1=>?_
  have O1:=OwnG.add' (O0:OwnG h _ _ _) 1 rfl (by simp [fset]) a1
  try simp only [List.nil_append,List.append_assoc] at O1
  have k1:=qEt a1;clear a1;simp [-qAy,qAk,qAn,qAl,qAi,qAf,qAe,qAb,qAc,qAa,qAj,qAg,qAd,qAu,qAv,resV,retV,qAm,qAh,qAt,qAs,qAr,qAq,callK_def,-qAo,qBa,qAw,qBe,vS_0,vS_1,vS_2,vS_3,vS_4,vS_5,vS_6,vS_7,vS_8,vS_9,qBp,qBo,qBn,qBm,qBl,qBk,qBj,qBi,qBh,qBb,qAx,qAp,vN_0,vN_1,vN_2,vN_3,qJn,qJm,qJl,qGb,qGa,qFz,qFy,qFx,qFw,qFv,qFu,qFt,qGl,qEo,qCu,qJq,qJt,qJp,qJs,qJo,qJr,qGk,qGu,qGj,qGt,qGi,qGs,qGh,qGr,qGg,qGq,qGf,qGp,qGe,qGo,qGd,qGn,qGc,qGm,k1]
  refine qDt hsm.1 fun x3 g3 a3=>?_
  have O3:=OwnG.add' (O1:OwnG h _ _ _) 3 rfl (by simp [fset]) a3
  try simp only [List.nil_append,List.append_assoc] at O3
  have k3:=qEt a3;clear a3;simp [-qAy,qAk,qAn,qAl,qAi,qAf,qAe,qAb,qAc,qAa,qAj,qAg,qAd,qAu,qAv,resV,retV,qAm,qAh,qAt,qAs,qAr,qAq,callK_def,-qAo,qBa,qAw,qBe,vS_0,vS_1,vS_2,vS_3,vS_4,vS_5,vS_6,vS_7,vS_8,vS_9,qBp,qBo,qBn,qBm,qBl,qBk,qBj,qBi,qBh,qBb,qAx,qAp,vN_0,vN_1,vN_2,vN_3,qJn,qJm,qJl,qGb,qGa,qFz,qFy,qFx,qFw,qFv,qFu,qFt,qGl,qEo,qCu,qJq,qJt,qJp,qJs,qJo,qJr,qGk,qGu,qGj,qGt,qGi,qGs,qGh,qGr,qGg,qGq,qGf,qGp,qGe,qGo,qGd,qGn,qGc,qGm,k3]
  refine qDt hsm.2.1 fun x4 g4 a4=>?_
  have O4:=OwnG.add' (O3:OwnG h _ _ _) 4 rfl (by simp [fset]) a4
  try simp only [List.nil_append,List.append_assoc] at O4
  have k4:=qEt a4;clear a4;simp [-qAy,qAk,qAn,qAl,qAi,qAf,qAe,qAb,qAc,qAa,qAj,qAg,qAd,qAu,qAv,resV,retV,qAm,qAh,qAt,qAs,qAr,qAq,callK_def,-qAo,qBa,qAw,qBe,vS_0,vS_1,vS_2,vS_3,vS_4,vS_5,vS_6,vS_7,vS_8,vS_9,qBp,qBo,qBn,qBm,qBl,qBk,qBj,qBi,qBh,qBb,qAx,qAp,vN_0,vN_1,vN_2,vN_3,qJn,qJm,qJl,qGb,qGa,qFz,qFy,qFx,qFw,qFv,qFu,qFt,qGl,qEo,qCu,qJq,qJt,qJp,qJs,qJo,qJr,qGk,qGu,qGj,qGt,qGi,qGs,qGh,qGr,qGg,qGq,qGf,qGp,qGe,qGo,qGd,qGn,qGc,qGm,k4]
  refine qDt hsm.2.2.1 fun x5 g5 a5=>?_
  have O5:=OwnG.add' (O4:OwnG h _ _ _) 5 rfl (by simp [fset]) a5
  try simp only [List.nil_append,List.append_assoc] at O5
  have k5:=qEt a5;clear a5;simp [-qAy,qAk,qAn,qAl,qAi,qAf,qAe,qAb,qAc,qAa,qAj,qAg,qAd,qAu,qAv,resV,retV,qAm,qAh,qAt,qAs,qAr,qAq,callK_def,-qAo,qBa,qAw,qBe,vS_0,vS_1,vS_2,vS_3,vS_4,vS_5,vS_6,vS_7,vS_8,vS_9,qBp,qBo,qBn,qBm,qBl,qBk,qBj,qBi,qBh,qBb,qAx,qAp,vN_0,vN_1,vN_2,vN_3,qJn,qJm,qJl,qGb,qGa,qFz,qFy,qFx,qFw,qFv,qFu,qFt,qGl,qEo,qCu,qJq,qJt,qJp,qJs,qJo,qJr,qGk,qGu,qGj,qGt,qGi,qGs,qGh,qGr,qGg,qGq,qGf,qGp,qGe,qGo,qGd,qGn,qGc,qGm,k5]
  refine qDt l7 fun x7 g7 a7=>?_
  have O7:=OwnG.add' (O5:OwnG h _ _ _) 7 rfl (by simp [fset]) a7
  try simp only [List.nil_append,List.append_assoc] at O7
  have k7:=qEt a7;clear a7;simp [-qAy,qAk,qAn,qAl,qAi,qAf,qAe,qAb,qAc,qAa,qAj,qAg,qAd,qAu,qAv,resV,retV,qAm,qAh,qAt,qAs,qAr,qAq,callK_def,-qAo,qBa,qAw,qBe,vS_0,vS_1,vS_2,vS_3,vS_4,vS_5,vS_6,vS_7,vS_8,vS_9,qBp,qBo,qBn,qBm,qBl,qBk,qBj,qBi,qBh,qBb,qAx,qAp,vN_0,vN_1,vN_2,vN_3,qJn,qJm,qJl,qGb,qGa,qFz,qFy,qFx,qFw,qFv,qFu,qFt,qGl,qEo,qCu,qJq,qJt,qJp,qJs,qJo,qJr,qGk,qGu,qGj,qGt,qGi,qGs,qGh,qGr,qGg,qGq,qGf,qGp,qGe,qGo,qGd,qGn,qGc,qGm,k7]
  refine qDt hsm.2.2.2.1 fun x8 g8 a8=>?_
  have O8:=OwnG.add' (O7:OwnG h _ _ _) 8 rfl (by simp [fset]) a8
  try simp only [List.nil_append,List.append_assoc] at O8
  have k8:=qEt a8;clear a8;simp [-qAy,qAk,qAn,qAl,qAi,qAf,qAe,qAb,qAc,qAa,qAj,qAg,qAd,qAu,qAv,resV,retV,qAm,qAh,qAt,qAs,qAr,qAq,callK_def,-qAo,qBa,qAw,qBe,vS_0,vS_1,vS_2,vS_3,vS_4,vS_5,vS_6,vS_7,vS_8,vS_9,qBp,qBo,qBn,qBm,qBl,qBk,qBj,qBi,qBh,qBb,qAx,qAp,vN_0,vN_1,vN_2,vN_3,qJn,qJm,qJl,qGb,qGa,qFz,qFy,qFx,qFw,qFv,qFu,qFt,qGl,qEo,qCu,qJq,qJt,qJp,qJs,qJo,qJr,qGk,qGu,qGj,qGt,qGi,qGs,qGh,qGr,qGg,qGq,qGf,qGp,qGe,qGo,qGd,qGn,qGc,qGm,k8]
  refine qDt hsm.2.2.2.2 fun x9 g9 a9=>?_
  have O9:=OwnG.add' (O8:OwnG h _ _ _) 9 rfl (by simp [fset]) a9
  try simp only [List.nil_append,List.append_assoc] at O9
  have k9:=qEt a9;clear a9;simp [-qAy,qAk,qAn,qAl,qAi,qAf,qAe,qAb,qAc,qAa,qAj,qAg,qAd,qAu,qAv,resV,retV,qAm,qAh,qAt,qAs,qAr,qAq,callK_def,-qAo,qBa,qAw,qBe,vS_0,vS_1,vS_2,vS_3,vS_4,vS_5,vS_6,vS_7,vS_8,vS_9,qBp,qBo,qBn,qBm,qBl,qBk,qBj,qBi,qBh,qBb,qAx,qAp,vN_0,vN_1,vN_2,vN_3,qJn,qJm,qJl,qGb,qGa,qFz,qFy,qFx,qFw,qFv,qFu,qFt,qGl,qEo,qCu,qJq,qJt,qJp,qJs,qJo,qJr,qGk,qGu,qGj,qGt,qGi,qGs,qGh,qGr,qGg,qGq,qGf,qGp,qGe,qGo,qGd,qGn,qGc,qGm,k9]
  refine qDt ht fun x10 g10 a10=>?_
  have O10:=OwnG.add' (O9:OwnG h _ _ _) 10 rfl (by simp [fset]) a10
  try simp only [List.nil_append,List.append_assoc] at O10
  have k10:=qEt a10;clear a10;simp [-qAy,qAk,qAn,qAl,qAi,qAf,qAe,qAb,qAc,qAa,qAj,qAg,qAd,qAu,qAv,resV,retV,qAm,qAh,qAt,qAs,qAr,qAq,callK_def,-qAo,qBa,qAw,qBe,vS_0,vS_1,vS_2,vS_3,vS_4,vS_5,vS_6,vS_7,vS_8,vS_9,qBp,qBo,qBn,qBm,qBl,qBk,qBj,qBi,qBh,qBb,qAx,qAp,vN_0,vN_1,vN_2,vN_3,qJn,qJm,qJl,qGb,qGa,qFz,qFy,qFx,qFw,qFv,qFu,qFt,qGl,qEo,qCu,qJq,qJt,qJp,qJs,qJo,qJr,qGk,qGu,qGj,qGt,qGi,qGs,qGh,qGr,qGg,qGq,qGf,qGp,qGe,qGo,qGd,qGn,qGc,qGm,k10]
  have C0:CopyI h s 0 0 (g0++(g1++(g3++(g4++(g5++(g7++(g8++(g9++g10)))))))) (fixV x0 x1 x3 x4 x5 x7 x8 x9 x10):=by
    refine ⟨?_,fun k _=>?_,fun k _=>?_⟩
    . rw [← fixC_want]; exact O10
    . unfold fixV
      rw [qAz (by omega),qAz (by omega),qAz (by omega),qAz (by omega),qAz (by omega),qAz (by omega),qAz (by omega),qAz (by omega),qAz (by omega)]
    . unfold fixV
      rw [qAz (by omega),qAz (by omega),qAz (by omega),qAz (by omega),qAz (by omega),qAz (by omega),qAz (by omega),qAz (by omega),qAz (by omega)]
  clear O0 O1 O3 O4 O5 O7 O8 O9 O10 k0 k1 k3 k4 k5 k7 k8 k9 k10 hb1 b1;have hv2:fixV x0 x1 x3 x4 x5 x7 x8 x9 x10 2=nilS:=by simp [fixV,fset]
  have hv6:fixV x0 x1 x3 x4 x5 x7 x8 x9 x10 6=nilS:=by simp [fixV,fset]
  generalize (g0++(g1++(g3++(g4++(g5++(g7++(g8++(g9++g10))))))))=G0 at C0 ⊢
  obtain ⟨v0,hv0⟩:∃ v0,v0=fixV x0 x1 x3 x4 x5 x7 x8 x9 x10:=⟨_,rfl⟩;have y0:x0=v0 0:=by rw [hv0]; simp [fixV,fset]
  have y1:x1=v0 1:=by rw [hv0]; simp [fixV,fset]
  have y3:x3=v0 3:=by rw [hv0]; simp [fixV,fset]
  have y4:x4=v0 4:=by rw [hv0]; simp [fixV,fset]
  have y5:x5=v0 5:=by rw [hv0]; simp [fixV,fset]
  have y7:x7=v0 7:=by rw [hv0]; simp [fixV,fset]
  have y8:x8=v0 8:=by rw [hv0]; simp [fixV,fset]
  have y9:x9=v0 9:=by rw [hv0]; simp [fixV,fset]
  have y10:x10=v0 10:=by rw [hv0]; simp [fixV,fset]
  rw [← hv0] at C0 hv2 hv6;rw [y0,y1,y3,y4,y5,y7,y8,y9,y10];clear hv0 y0 y1 y3 y4 y5 y7 y8 y9 y10;have hqs:nilS=v0 2:=hv2.symm;refine qTw (σ:=Heap×(Nat→Value)) (fun x=>[(1,ptr h.length),(2,ptr (h.length+1)),(3,ptr (h.length+2))]) (fun x=>h++(bx (vSt p s) 19 :: bx [.int .i64 0,.int .i64 0,.int .i64 0,.slice none 0 0,.int .i64 0,.int .i64 0,.slice none 0 0,.slice none 0 0,.slice none 0 0,.slice none 0 0,.slice none 0 0,.slice none 0 0,.slice none 0 0,.slice none 0 0,.slice none 0 0,.slice none 0 0,.slice none 0 0,.slice none 0 0,.int .i64 0] 19 :: bx (mx p (x.2 0) (x.2 1) (x.2 2) (x.2 3) (x.2 4) (x.2 5) (vL (vL vI) s.g.queue) (x.2 7) (x.2 8) (x.2 9) (x.2 10) (vI s.g.trap)) 19 :: x.1)) (fun x=>CopyI h s s.r.length 0 x.1 x.2∧x.2 6=nilS) ?_ ?_
  . simp [-qAy,qAk,qAn,qAl,qAi,qAf,qAe,qAb,qAc,qAa,qAj,qAg,qAd,qAu,qAv,resV,retV,qAm,qAh,qAt,qAs,qAr,qAq]
    refine qFe (σ:=Nat×Heap×(Nat→Value)) (fun x=>[(1,ptr h.length),(2,ptr (h.length+1)),(3,ptr (h.length+2)),(4,vI x.1)]) (fun x=>h++(bx (vSt p s) 19 :: bx [.int .i64 0,.int .i64 0,.int .i64 0,.slice none 0 0,.int .i64 0,.int .i64 0,.slice none 0 0,.slice none 0 0,.slice none 0 0,.slice none 0 0,.slice none 0 0,.slice none 0 0,.slice none 0 0,.slice none 0 0,.slice none 0 0,.slice none 0 0,.slice none 0 0,.slice none 0 0,.int .i64 0] 19 :: bx (mx p (x.2.2 0) (x.2.2 1) (x.2.2 2) (x.2.2 3) (x.2.2 4) (x.2.2 5) (vL (vL vI) s.g.queue) (x.2.2 7) (x.2.2 8) (x.2.2 9) (x.2.2 10) (vI s.g.trap)) 19 :: x.2.1)) (fun x=>x.1≤s.r.length∧CopyI h s x.1 0 x.2.1 x.2.2∧x.2.2 6=nilS) (fun x=>s.r.length - x.1) (0,G0,v0) (by simp) (by simp [hv2]) ⟨by simp,C0,hv6⟩ ?_
    rintro ⟨i,g,v⟩ fr ⟨hi,C,h6⟩;simp only at hi C h6 ⊢
    by_cases hlt:i < s.r.length
    . have hif:(i:Int) < s.r.length:=by omega
      obtain ⟨i1,hi1,wi⟩:=qCj (show i < lim by have:=hs.r; omega)
      have hr:s.r[i]?=some s.r[i]:=List.getElem?_eq_getElem hlt;obtain ⟨r,hrr⟩:∃ r,r=s.r[i]:=⟨_,rfl⟩;rw [← hrr] at hr;have hr4:=hs.r4 r (List.mem_of_getElem? hr);simp [qAk,qAn,qAl,qAi,qAf,qAe,qAb,qAc,qAa,qAj,qAg,qAd,qAu,qAv,resV,retV,qAm,qAh,qAt,qAs,qAr,qAq,-qAo,qBa,qAw,qBe,vS_0,vS_1,vS_2,vS_3,vS_4,vS_5,vS_6,vS_7,vS_8,vS_9,qBp,qBo,qBn,qBm,qBl,qBk,qBj,qBi,qBh,qBb,qAx,qAp,vN_0,vN_1,vN_2,vN_3,qJn,qJm,qJl,qGb,qGa,qFz,qFy,qFx,qFw,qFv,qFu,qFt,qGl,qEo,qCu,qJq,qJt,qJp,qJs,qJo,qJr,qGk,qGu,qGj,qGt,qGi,qGs,qGh,qGr,qGg,qGq,qGf,qGp,qGe,qGo,qGd,qGn,qGc,qGm,hif,hr]
      refine qDt (by omega) fun x gx ax=>?_
      have O1:=OwnG.add' C.own (16+2 * i) rfl (C.r i (Nat.le_refl _)) ax;have kx:=qEt ax;clear ax;have sv2:=O1.stay 2;rw [qAz (by omega)] at sv2
      simp [-qAy,qAk,qAn,qAl,qAi,qAf,qAe,qAb,qAc,qAa,qAj,qAg,qAd,qAu,qAv,resV,retV,qAm,qAh,qAt,qAs,qAr,qAq,callK_def,-qAo,qBa,qAw,qBe,vS_0,vS_1,vS_2,vS_3,vS_4,vS_5,vS_6,vS_7,vS_8,vS_9,qBp,qBo,qBn,qBm,qBl,qBk,qBj,qBi,qBh,qBb,qAx,qAp,vN_0,vN_1,vN_2,vN_3,qJn,qJm,qJl,qGb,qGa,qFz,qFy,qFx,qFw,qFv,qFu,qFt,qGl,qEo,qCu,qJq,qJt,qJp,qJs,qJo,qJr,qGk,qGu,qGj,qGt,qGi,qGs,qGh,qGr,qGg,qGq,qGf,qGp,qGe,qGo,qGd,qGn,qGc,qGm,kx,sv2]
      refine O1.push 2 (x:=x) (by simp) (by simp<;>omega) (qAz (by omega)).symm ?_ fun w g2 O2 kw=>?_
      . rw [qAz (by omega),qIg]
        simp [qFs]; have:=hs.r; omega
      rw [copy_r (w:=w) hi1 hr] at O2;have e0:∀ j,j < 16→j≠2→fset (fset v (16+2 * i) x) 2 w j=v j:=fun j h1 h2=>by rw [qAz h2,qAz (by omega)]
      simp [-qAy,qAk,qAn,qAl,qAi,qAf,qAe,qAb,qAc,qAa,qAj,qAg,qAd,qAu,qAv,resV,retV,qAm,qAh,qAt,qAs,qAr,qAq,-qAo,qBa,qAw,qBe,vS_0,vS_1,vS_2,vS_3,vS_4,vS_5,vS_6,vS_7,vS_8,vS_9,qBp,qBo,qBn,qBm,qBl,qBk,qBj,qBi,qBh,qBb,qAx,qAp,vN_0,vN_1,vN_2,vN_3,qJn,qJm,qJl,qGb,qGa,qFz,qFy,qFx,qFw,qFv,qFu,qFt,qGl,qEo,qCu,qJq,qJt,qJp,qJs,qJo,qJr,qGk,qGu,qGj,qGt,qGi,qGs,qGh,qGr,qGg,qGq,qGf,qGp,qGe,qGo,qGd,qGn,qGc,qGm,kw,wi]
      refine .go (i1,g2,fset (fset v (16+2 * i) x) 2 w) (by simp only []; omega) (by simp) ?_ ⟨by simp only []; omega,⟨O2,fun k hk=>?_,fun k hk=>?_⟩,?_⟩
      . simp only [qBt]
        rw [e0 0 (by omega) (by omega),e0 1 (by omega) (by omega),e0 3 (by omega) (by omega),e0 4 (by omega) (by omega),e0 5 (by omega) (by omega),e0 7 (by omega) (by omega),e0 8 (by omega) (by omega),e0 9 (by omega) (by omega),e0 10 (by omega) (by omega)]
      . simp only at hk ⊢
        rw [qAz (by omega),qAz (by omega)]; exact C.r k (by omega)
      . simp only
        rw [qAz (by omega),qAz (by omega)]; exact C.q k hk
      . simp only
        rw [e0 6 (by omega) (by omega)]; exact h6
    . obtain rfl:i=s.r.length:=by omega
      simp [qAk,qAn,qAl,qAi,qAf,qAe,qAb,qAc,qAa,qAj,qAg,qAd,qAu,qAv,resV,retV,qAm,qAh,qAt,qAs,qAr,qAq,-qAo,qBa,qAw,qBe,vS_0,vS_1,vS_2,vS_3,vS_4,vS_5,vS_6,vS_7,vS_8,vS_9,qBp,qBo,qBn,qBm,qBl,qBk,qBj,qBi,qBh,qBb,qAx,qAp,vN_0,vN_1,vN_2,vN_3,qJn,qJm,qJl,qGb,qGa,qFz,qFy,qFx,qFw,qFv,qFu,qFt,qGl,qEo,qCu,qJq,qJt,qJp,qJs,qJo,qJr,qGk,qGu,qGj,qGt,qGi,qGs,qGh,qGr,qGg,qGq,qGf,qGp,qGe,qGo,qGd,qGn,qGc,qGm];exact .go (g,v) (by simp) rfl ⟨C,h6⟩
  . rintro ⟨g0',v0'⟩ fr ⟨C,h6⟩
    simp only at C h6 ⊢;simp [-qAy,qAk,qAn,qAl,qAi,qAf,qAe,qAb,qAc,qAa,qAj,qAg,qAd,qAu,qAv,resV,retV,qAm,qAh,qAt,qAs,qAr,qAq,-qAo,qBa,qAw,qBe,vS_0,vS_1,vS_2,vS_3,vS_4,vS_5,vS_6,vS_7,vS_8,vS_9,qBp,qBo,qBn,qBm,qBl,qBk,qBj,qBi,qBh,qBb,qAx,qAp,vN_0,vN_1,vN_2,vN_3,qJn,qJm,qJl,qGb,qGa,qFz,qFy,qFx,qFw,qFv,qFu,qFt,qGl,qEo,qCu,qJq,qJt,qJp,qJs,qJo,qJr,qGk,qGu,qGj,qGt,qGi,qGs,qGh,qGr,qGg,qGq,qGf,qGp,qGe,qGo,qGd,qGn,qGc,qGm]
    refine qTw (σ:=Heap×(Nat→Value)) (fun x=>[(1,ptr h.length),(2,ptr (h.length+1)),(3,ptr (h.length+2))]) (fun x=>h++(bx (vSt p s) 19 :: bx [.int .i64 0,.int .i64 0,.int .i64 0,.slice none 0 0,.int .i64 0,.int .i64 0,.slice none 0 0,.slice none 0 0,.slice none 0 0,.slice none 0 0,.slice none 0 0,.slice none 0 0,.slice none 0 0,.slice none 0 0,.slice none 0 0,.slice none 0 0,.slice none 0 0,.slice none 0 0,.int .i64 0] 19 :: bx (mx p (x.2 0) (x.2 1) (x.2 2) (x.2 3) (x.2 4) (x.2 5) (x.2 6) (x.2 7) (x.2 8) (x.2 9) (x.2 10) (vI s.g.trap)) 19 :: x.1)) (fun x=>CopyI h s s.r.length s.g.queue.length x.1 x.2) ?_ ?_
    . simp [-qAy,qAk,qAn,qAl,qAi,qAf,qAe,qAb,qAc,qAa,qAj,qAg,qAd,qAu,qAv,resV,retV,qAm,qAh,qAt,qAs,qAr,qAq]
      refine qFe (σ:=Nat×Heap×(Nat→Value)) (fun x=>[(1,ptr h.length),(2,ptr (h.length+1)),(3,ptr (h.length+2)),(5,vI x.1)]) (fun x=>h++(bx (vSt p s) 19 :: bx [.int .i64 0,.int .i64 0,.int .i64 0,.slice none 0 0,.int .i64 0,.int .i64 0,.slice none 0 0,.slice none 0 0,.slice none 0 0,.slice none 0 0,.slice none 0 0,.slice none 0 0,.slice none 0 0,.slice none 0 0,.slice none 0 0,.slice none 0 0,.slice none 0 0,.slice none 0 0,.int .i64 0] 19 :: bx (mx p (x.2.2 0) (x.2.2 1) (x.2.2 2) (x.2.2 3) (x.2.2 4) (x.2.2 5) (x.2.2 6) (x.2.2 7) (x.2.2 8) (x.2.2 9) (x.2.2 10) (vI s.g.trap)) 19 :: x.2.1)) (fun x=>x.1≤s.g.queue.length∧CopyI h s s.r.length x.1 x.2.1 x.2.2) (fun x=>s.g.queue.length - x.1) (0,g0',v0') (by simp) (by simp [h6]) ⟨by simp,C⟩ ?_
      clear C h6 fr;rintro ⟨i,g,v⟩ fr ⟨hi,C⟩;simp only at hi C ⊢
      by_cases hlt:i < s.g.queue.length
      . have hif:(i:Int) < s.g.queue.length:=by omega
        obtain ⟨i1,hi1,wi⟩:=qCj (show i < lim by have:=hs.queue; omega)
        have hr:s.g.queue[i]?=some s.g.queue[i]:=List.getElem?_eq_getElem hlt;obtain ⟨r,hrr⟩:∃ r,r=s.g.queue[i]:=⟨_,rfl⟩;rw [← hrr] at hr;have hr4:=hl r (List.mem_of_getElem? hr);simp [qAk,qAn,qAl,qAi,qAf,qAe,qAb,qAc,qAa,qAj,qAg,qAd,qAu,qAv,resV,retV,qAm,qAh,qAt,qAs,qAr,qAq,-qAo,qBa,qAw,qBe,vS_0,vS_1,vS_2,vS_3,vS_4,vS_5,vS_6,vS_7,vS_8,vS_9,qBp,qBo,qBn,qBm,qBl,qBk,qBj,qBi,qBh,qBb,qAx,qAp,vN_0,vN_1,vN_2,vN_3,qJn,qJm,qJl,qGb,qGa,qFz,qFy,qFx,qFw,qFv,qFu,qFt,qGl,qEo,qCu,qJq,qJt,qJp,qJs,qJo,qJr,qGk,qGu,qGj,qGt,qGi,qGs,qGh,qGr,qGg,qGq,qGf,qGp,qGe,qGo,qGd,qGn,qGc,qGm,hif,hr]
        refine qDt (by omega) fun x gx ax=>?_
        have O1:=OwnG.add' C.own (17+2 * i) rfl (C.q i (Nat.le_refl _)) ax;have kx:=qEt ax;clear ax;have sv2:=O1.stay 6;rw [qAz (by omega)] at sv2
        simp [-qAy,qAk,qAn,qAl,qAi,qAf,qAe,qAb,qAc,qAa,qAj,qAg,qAd,qAu,qAv,resV,retV,qAm,qAh,qAt,qAs,qAr,qAq,callK_def,-qAo,qBa,qAw,qBe,vS_0,vS_1,vS_2,vS_3,vS_4,vS_5,vS_6,vS_7,vS_8,vS_9,qBp,qBo,qBn,qBm,qBl,qBk,qBj,qBi,qBh,qBb,qAx,qAp,vN_0,vN_1,vN_2,vN_3,qJn,qJm,qJl,qGb,qGa,qFz,qFy,qFx,qFw,qFv,qFu,qFt,qGl,qEo,qCu,qJq,qJt,qJp,qJs,qJo,qJr,qGk,qGu,qGj,qGt,qGi,qGs,qGh,qGr,qGg,qGq,qGf,qGp,qGe,qGo,qGd,qGn,qGc,qGm,kx,sv2]
        refine O1.push 6 (x:=x) (by simp) (by simp<;>omega) (qAz (by omega)).symm ?_ fun w g2 O2 kw=>?_
        . rw [qAz (by omega),qGz]
          simp [qFs]; have:=hs.queue; omega
        rw [copy_q (w:=w) hi1 hr] at O2;have e0:∀ j,j < 16→j≠6→fset (fset v (17+2 * i) x) 6 w j=v j:=fun j h1 h2=>by rw [qAz h2,qAz (by omega)]
        simp [-qAy,qAk,qAn,qAl,qAi,qAf,qAe,qAb,qAc,qAa,qAj,qAg,qAd,qAu,qAv,resV,retV,qAm,qAh,qAt,qAs,qAr,qAq,-qAo,qBa,qAw,qBe,vS_0,vS_1,vS_2,vS_3,vS_4,vS_5,vS_6,vS_7,vS_8,vS_9,qBp,qBo,qBn,qBm,qBl,qBk,qBj,qBi,qBh,qBb,qAx,qAp,vN_0,vN_1,vN_2,vN_3,qJn,qJm,qJl,qGb,qGa,qFz,qFy,qFx,qFw,qFv,qFu,qFt,qGl,qEo,qCu,qJq,qJt,qJp,qJs,qJo,qJr,qGk,qGu,qGj,qGt,qGi,qGs,qGh,qGr,qGg,qGq,qGf,qGp,qGe,qGo,qGd,qGn,qGc,qGm,kw,wi]
        refine .go (i1,g2,fset (fset v (17+2 * i) x) 6 w) (by simp only []; omega) (by simp) ?_ ⟨by simp only []; omega,⟨O2,fun k hk=>?_,fun k hk=>?_⟩⟩
        . simp only [qBt]
          rw [e0 0 (by omega) (by omega),e0 1 (by omega) (by omega),e0 2 (by omega) (by omega),e0 3 (by omega) (by omega),e0 4 (by omega) (by omega),e0 5 (by omega) (by omega),e0 7 (by omega) (by omega),e0 8 (by omega) (by omega),e0 9 (by omega) (by omega),e0 10 (by omega) (by omega)]
        . simp only
          rw [qAz (by omega),qAz (by omega)]; exact C.r k hk
        . simp only at hk ⊢
          rw [qAz (by omega),qAz (by omega)]; exact C.q k (by omega)
      . obtain rfl:i=s.g.queue.length:=by omega
        simp [qAk,qAn,qAl,qAi,qAf,qAe,qAb,qAc,qAa,qAj,qAg,qAd,qAu,qAv,resV,retV,qAm,qAh,qAt,qAs,qAr,qAq,-qAo,qBa,qAw,qBe,vS_0,vS_1,vS_2,vS_3,vS_4,vS_5,vS_6,vS_7,vS_8,vS_9,qBp,qBo,qBn,qBm,qBl,qBk,qBj,qBi,qBh,qBb,qAx,qAp,vN_0,vN_1,vN_2,vN_3,qJn,qJm,qJl,qGb,qGa,qFz,qFy,qFx,qFw,qFv,qFu,qFt,qGl,qEo,qCu,qJq,qJt,qJp,qJs,qJo,qJr,qGk,qGu,qGj,qGt,qGi,qGs,qGh,qGr,qGg,qGq,qGf,qGp,qGe,qGo,qGd,qGn,qGc,qGm];exact .go (g,v) (by simp) rfl C
    . rintro ⟨g,v⟩ fr C
      simp only at C ⊢;have hw:qFs s s.r.length s.g.queue.length=s:=by unfold qFs; rw [List.take_length,List.take_length]
      have ho:=C.own;rw [hw] at ho;have hmx:mx p (v 0) (v 1) (v 2) (v 3) (v 4) (v 5) (v 6) (v 7) (v 8) (v 9) (v 10) (vI s.g.trap)=cS p s v:=rfl;rw [hmx];have hc:=qRn (p:=p) (s:=s) (v:=v) fun j=>(ho .hole .hole .hole).like j
      simp [qAk,qAn,qAl,qAi,qAf,qAe,qAb,qAc,qAa,qAj,qAg,qAd,qAu,qAv,resV,retV,qAm,qAh,qAt,qAs,qAr,qAq,-qAo,qBa,qAw,qBe,vS_0,vS_1,vS_2,vS_3,vS_4,vS_5,vS_6,vS_7,vS_8,vS_9,qBp,qBo,qBn,qBm,qBl,qBk,qBj,qBi,qBh,qBb,qAx,qAp,vN_0,vN_1,vN_2,vN_3,qBw,qBr,qBf,qDe,qDd,qDc,qDb,qDa,qCz,qCi,qCh,qCg,qCf,qCe,qCd,qCc,qCb,qCa,qBy,qBz,hc];exact hk v _ ((ho _ _ _).weak (by omega))
end
end Pm
