/- What races, by the program.
   No condition: plain lemmas. -/

import Derived.Test.YtmdnkninbkcmkaaDoorZUPmRaceT1
namespace Pm
set_option linter.unusedSimpArgs false
set_option linter.unusedVariables false
open Go Am
open Go.Proofs.Tryd (prog)

def vRc (x:Nat×Nat):List Value:=[vI x.1,vI x.2]
instance : Flat vRc 2 := ⟨fun _ => rfl⟩
def qDy (p:Prog) (t:List Ev) (j k:Nat):Prop:=∀ j1 b,t[j1]?=some b→qFl b=true→∀ k1,k1 < 6→(j1 < j∨j1=j∧k1 < k)→∀ last,qLz t b k1 j1 last→∀ l:Nat,last=(l:Int)→Bef p t j1 l
section
variable {p : Prog} {t : List Ev} {j k : Nat}
theorem qDy.zero:qDy p t 0 0:=fun _ _ _ _ _ _ h=>by omega
theorem qDy.all:qDy p t t.length 0↔qKf p t:=by
  constructor
  . intro v j b hb htb k hk last hl l e
    exact v j b hb htb k hk (.inl (List.getElem?_eq_some_iff.1 hb).1) last hl l e
  . intro v j1 b hb htb k1 hk _ last hl l e
    exact v j1 b hb htb k1 hk last hl l e
theorem qDy.row {j1:Nat} (hj:j1=j+1):qDy p t j1 0↔qDy p t j 6:=by
  subst hj;constructor
  . intro v j1 b hb htb k1 hk h
    exact v j1 b hb htb k1 hk (by omega)
  . intro v j1 b hb htb k1 hk h
    exact v j1 b hb htb k1 hk (by omega)
theorem qDy.skip {b:Ev} (hb:t[j]?=some b) (h:qFl b=false):qDy p t j 6↔qDy p t j 0:=by
  constructor
  . intro v j1 c hc htc k1 hk h1
    exact v j1 c hc htc k1 hk (by omega)
  . intro v j1 c hc htc k1 hk h1
    by_cases e:j1=j
    . subst e; rw [hb] at hc; cases hc; rw [h] at htc; cases htc
    . exact v j1 c hc htc k1 hk (by omega)
theorem qLz.unique {b:Ev} {i:Nat} {x y:Int} (h1:qLz t b k i x) (h2:qLz t b k i y):x=y:=by
  rcases h1 with ⟨e1,n1⟩ | ⟨l,e1,l1,c1,n1⟩<;>rcases h2 with ⟨e2,n2⟩ | ⟨m,e2,m1,c2,n2⟩
  . rw [e1,e2]
  . exact absurd c2 (n1 m m1)
  . exact absurd c1 (n2 l l1)
  . have a1:¬ l < m:=fun h=>n1 m h m1 c2
    have a2:¬ m < l:=fun h=>n2 l h l1 c1
    omega
theorem qDy.next {b:Ev} {k1:Nat} {last:Int} (hb:t[j]?=some b) (h:qFl b=true) (hk:k < 6) (hk1:k1=k+1) (hl:qLz t b k j last):qDy p t j k1↔qDy p t j k∧∀ l:Nat,last=(l:Int)→Bef p t j l:=by
  subst hk1;constructor
  . intro v
    exact ⟨fun j1 c hc htc k1 hk1 h1=>v j1 c hc htc k1 hk1 (by omega),fun l e=>v j b hb h k hk (.inr ⟨rfl,by omega⟩) last hl l e⟩
  . rintro ⟨v,w⟩ j1 c hc htc k1 hk1 h1 last1 hl1 l e
    by_cases e1:j1=j∧k1=k
    . obtain ⟨rfl,rfl⟩:=e1
      rw [hb] at hc; cases hc;exact w l (by rw [qLz.unique hl hl1,e])
    . exact v j1 c hc htc k1 hk1 (by omega) last1 hl1 l e
end
end Pm

/- What races, by the program: the walk of Find.
   No condition: plain lemmas. -/

namespace Pm
set_option linter.unusedSimpArgs false
set_option linter.unusedVariables false
open Go Am
open Go.Proofs.Tryd (prog)

section
variable {h : Heap} {K : Value → Heap → Prop}
set_option maxHeartbeats 4000000 in
theorem r8Find_run {p:Prog} {t:List Ev} (ht:t.length≤2000) (hth:∀ e∈t,0≤e.thread∧e.thread < 6):qBn prog 20 [.agg (qCs p).toArray,vM 6 vEv t] h fun v H=>∃ g,H=h++g∧∃ rs,(rs=[]↔qKf p t)∧Inl h.length H v (vM 2 vRc rs):=by
  refine call_r8Find (by simp) ?_
  have hlim:lim=1048576:=rfl;have h2000:¬ (2000:Int) < t.length:=by omega
  simp [-qAy,qAl,qAo,qAm,qAi,qAf,qAe,qAb,qAc,qAa,qAj,qAg,qAd,qAu,qAv,resV,retV,qAn,qAh,qAs,qAr,qAq,qAp,qTz,-qAk,qAt,qBa,qAz,vE_0,vE_1,vE_2,vE_3,vE_4,vE_5,qAw,qBh,qBd,qBl];refine qVo (σ:=Unit) (fun _=>[(1,vM 6 vEv t),(2,ptr h.length),(5,nilS)]) (fun x=>h++[bx (qCs p) 7]) (fun x=>True) ?_ ?_
  . simp [-qAy,qAl,qAo,qAm,qAi,qAf,qAe,qAb,qAc,qAa,qAj,qAg,qAd,qAu,qAv,resV,retV,qAn,qAh,qAs,qAr,qAq,qAp,-qAk,qAt,qBa,qAz,vE_0,vE_1,vE_2,vE_3,vE_4,vE_5,qAw,qBh,qBd,qBl]
    refine qEa (σ:=Nat) (fun i=>[(1,vM 6 vEv t),(2,ptr h.length),(5,nilS),(6,vI i)]) (fun x=>h++[bx (qCs p) 7]) (fun i=>i≤t.length) (fun i=>t.length - i) 0 (by simp) rfl (by simp) ?_
    intro i fr hi;rw [qAy]
    by_cases hlt:i < t.length
    . obtain ⟨i1,hi1,wi⟩:=qBm (show i < lim by omega)
      obtain ⟨e,he⟩:∃ e,t[i]?=some e:=⟨_,List.getElem?_eq_getElem hlt⟩;obtain ⟨e1,e2⟩:=hth e (List.mem_of_getElem? he);have hif:(i:Int) < t.length:=by omega
      have hg0:∀ hh,(vEv e)[0]'hh=vI e.thread:=fun _=>rfl
      have n1:¬ e.thread < 0:=by omega
      have n2:¬ 5 < e.thread:=by omega
      simp [-qAy,qAl,qAo,qAm,qAi,qAf,qAe,qAb,qAc,qAa,qAj,qAg,qAd,qAu,qAv,resV,retV,qAn,qAh,qAs,qAr,qAq,qAp,hif];rw [qAy];simp [qAl,qAo,qAm,qAi,qAf,qAe,qAb,qAc,qAa,qAj,qAg,qAd,qAu,qAv,resV,retV,qAn,qAh,qAs,qAr,qAq,qAp,h2000,he,hg0,n1,n2,wi,-qAk,qAt,qBa,qAz,vE_0,vE_1,vE_2,vE_3,vE_4,vE_5,qAw,qBh,qBd,qBl];exact .go i1 (by omega) (by simp) rfl (by omega)
    . have hif:¬ (i:Int) < t.length:=by omega
      simp [qAl,qAo,qAm,qAi,qAf,qAe,qAb,qAc,qAa,qAj,qAg,qAd,qAu,qAv,resV,retV,qAn,qAh,qAs,qAr,qAq,qAp,hif];exact .go () (by simp) rfl trivial
  . rintro ⟨⟩ fr _
    rw [qAy];simp [-qAy,qAl,qAo,qAm,qAi,qAf,qAe,qAb,qAc,qAa,qAj,qAg,qAd,qAu,qAv,resV,retV,qAn,qAh,qAs,qAr,qAq,qAp,-qAk,qAt,qBa,qAz,vE_0,vE_1,vE_2,vE_3,vE_4,vE_5,qAw,qBh,qBd,qBl];refine qEa (σ:=Nat×List (Nat×Nat)×Value×Heap) (fun x=>[(1,vM 6 vEv t),(2,ptr h.length),(5,x.2.2.1),(7,vI x.1)]) (fun x=>h++([bx (qCs p) 7]++x.2.2.2)) (fun x=>x.1≤t.length∧(x.2.1=[]↔qDy p t x.1 0)∧AccM 2 vRc (h.length+1) (h++([bx (qCs p) 7]++x.2.2.2)) x.2.2.1 x.2.1∧x.2.1.length≤6 * x.1) (fun x=>t.length - x.1) (0,[],nilS,[]) (by simp) (by simp) ⟨by simp,by simp [qDy.zero],AccM.nil,by simp⟩ ?_
    rintro ⟨j,rs,v,g⟩ fr ⟨hj,hN,hA,hl⟩;dsimp only at hj hN hA hl ⊢;rw [qAy]
    by_cases hlt:j < t.length
    . obtain ⟨b,hb⟩:∃ b,t[j]?=some b:=⟨_,List.getElem?_eq_getElem hlt⟩
      obtain ⟨j1,hj1,wj⟩:=qBm (show j < lim by omega)
      have hif:(j:Int) < t.length:=by omega
      have hg2:∀ hh,(vEv b)[2]'hh=v8 b.op:=fun _=>rfl
      have c8:∀ n:Nat,((n:Int)=8)=(n=8):=fun n=>by simp only [eq_iff_iff]; omega
      have c7:∀ n:Nat,((n:Int)=7)=(n=7):=fun n=>by simp only [eq_iff_iff]; omega
      simp [-qAy,qAl,qAo,qAm,qAi,qAf,qAe,qAb,qAc,qAa,qAj,qAg,qAd,qAu,qAv,resV,retV,qAn,qAh,qAs,qAr,qAq,qAp,hif];rw [qAy];cases htb:qFl b with
      | false =>
        have n7:¬ b.op=7:=fun h=>by simp [qFl,h] at htb
        have n8:¬ b.op=8:=fun h=>by simp [qFl,h] at htb
        simp [qAl,qAo,qAm,qAi,qAf,qAe,qAb,qAc,qAa,qAj,qAg,qAd,qAu,qAv,resV,retV,qAn,qAh,qAs,qAr,qAq,qAp,hb,hg2,n7,n8,c7,c8,wj,-qAk,qAt,qBa,qAz,vE_0,vE_1,vE_2,vE_3,vE_4,vE_5,qAw,qBh,qBd,qBl];exact .go (j1,rs,v,g) (by dsimp only; omega) (by simp) rfl ⟨by omega,by rw [hN,qDy.row hj1,qDy.skip hb htb],hA,by dsimp only; omega⟩
      | true =>
        have e78:b.op=7∨b.op=8:=by simpa [qFl] using htb
        have mid:∀ K:Exit→Fr→Heap→Prop,True:=fun _=>trivial
        rcases e78 with e78 | e78
        all_goals
          rw [pwp_block,qAy];simp [-qAy,qAl,qAo,qAm,qAi,qAf,qAe,qAb,qAc,qAa,qAj,qAg,qAd,qAu,qAv,resV,retV,qAn,qAh,qAs,qAr,qAq,qAp,hb,hg2,e78,c7,c8,-qAk,qAt,qBa,qAz,vE_0,vE_1,vE_2,vE_3,vE_4,vE_5,qAw,qBh,qBd,qBl];refine r7Marks_call (by omega) hlt fun past hP=>?_
          simp [-qAy,qAl,qAo,qAm,qAi,qAf,qAe,qAb,qAc,qAa,qAj,qAg,qAd,qAu,qAv,resV,retV,qAn,qAh,qAs,qAr,qAq,qAp,callK_def,-qAk,qAt,qBa,qAz,vE_0,vE_1,vE_2,vE_3,vE_4,vE_5,qAw,qBh,qBd,qBl];refine qEa (σ:=Nat×List (Nat×Nat)×Value×Heap) (fun x=>[(1,vM 6 vEv t),(2,ptr h.length),(5,x.2.2.1),(7,vI j),(8,vL vI past),(9,vI x.1)]) (fun x=>h++([bx (qCs p) 7]++x.2.2.2)) (fun x=>x.1≤6∧(x.2.1=[]↔qDy p t j x.1)∧AccM 2 vRc (h.length+1) (h++([bx (qCs p) 7]++x.2.2.2)) x.2.2.1 x.2.1∧x.2.1.length≤6 * j+x.1) (fun x=>6 - x.1) (0,rs,v,g) (by simp) (by simp) ⟨by simp,hN,hA,by dsimp only; omega⟩ ?_
          rintro ⟨k,rs,v,g⟩ fr ⟨hk6,hN,hA,hl⟩;dsimp only at hk6 hN hA hl ⊢;rw [qAy]
          by_cases hk:k < 6
          . have hkf:(k:Int) < 6:=by omega
            obtain ⟨k1,hk1,wk⟩:=qBm (show k < lim by omega)
            simp [-qAy,qAl,qAo,qAm,qAi,qAf,qAe,qAb,qAc,qAa,qAj,qAg,qAd,qAu,qAv,resV,retV,qAn,qAh,qAs,qAr,qAq,qAp,hkf,-qAk,qAt,qBa,qAz,vE_0,vE_1,vE_2,vE_3,vE_4,vE_5,qAw,qBh,qBd,qBl];rw [qAy,pwp_block];simp [-qAy,qAl,qAo,qAm,qAi,qAf,qAe,qAb,qAc,qAa,qAj,qAg,qAd,qAu,qAv,resV,retV,qAn,qAh,qAs,qAr,qAq,qAp,-qAk,qAt,qBa,qAz,vE_0,vE_1,vE_2,vE_3,vE_4,vE_5,qAw,qBh,qBd,qBl];refine qVo (σ:=Int) (fun x=>[(1,vM 6 vEv t),(2,ptr h.length),(5,v),(7,vI j),(8,vL vI past),(9,vI k),(10,vI x)]) (fun _=>h++([bx (qCs p) 7]++g)) (fun x=>qLz t b k j x) ?_ ?_
            . simp [-qAy,qAl,qAo,qAm,qAi,qAf,qAe,qAb,qAc,qAa,qAj,qAg,qAd,qAu,qAv,resV,retV,qAn,qAh,qAs,qAr,qAq,qAp,-qAk,qAt,qBa,qAz,vE_0,vE_1,vE_2,vE_3,vE_4,vE_5,qAw,qBh,qBd,qBl]
              refine qEa (σ:=Nat×Int) (fun x=>[(1,vM 6 vEv t),(2,ptr h.length),(5,v),(7,vI j),(8,vL vI past),(9,vI k),(10,vI x.2),(11,vI x.1)]) (fun _=>h++([bx (qCs p) 7]++g)) (fun x=>x.1≤j∧qLz t b k x.1 x.2) (fun x=>j - x.1) (0,-1) (by simp) (by simp) ⟨by simp,.init⟩ ?_
              rintro ⟨i,last⟩ fr ⟨hi,hL⟩;dsimp only at hi hL ⊢;rw [qAy]
              by_cases hij:i < j
              . obtain ⟨a,ha⟩:∃ a,t[i]?=some a:=⟨_,List.getElem?_eq_getElem (by omega)⟩
                obtain ⟨i1,hi1,wi⟩:=qBm (show i < lim by omega)
                have hijf:(i:Int) < j:=by omega
                have hg0:∀ hh,(vEv a)[0]'hh=vI a.thread:=fun _=>rfl
                simp [-qAy,qAl,qAo,qAm,qAi,qAf,qAe,qAb,qAc,qAa,qAj,qAg,qAd,qAu,qAv,resV,retV,qAn,qAh,qAs,qAr,qAq,qAp,hijf,-qAk,qAt,qBa,qAz,vE_0,vE_1,vE_2,vE_3,vE_4,vE_5,qAw,qBh,qBd,qBl];rw [qAy]
                by_cases hth:a.thread=(k:Int)
                . simp [-qAy,qAl,qAo,qAm,qAi,qAf,qAe,qAb,qAc,qAa,qAj,qAg,qAd,qAu,qAv,resV,retV,qAn,qAh,qAs,qAr,qAq,qAp,ha,hb,hg0,hth,-qAk,qAt,qBa,qAz,vE_0,vE_1,vE_2,vE_3,vE_4,vE_5,qAw,qBh,qBd,qBl]
                  refine r8Conflict_call ?_;cases hc:qFq a b
                  . have hn:¬ qTx t b k i:=by
                      rintro ⟨a',h1,h2,h3⟩;rw [ha] at h1; cases h1; rw [hc] at h3; cases h3
                    simp [qAl,qAo,qAm,qAi,qAf,qAe,qAb,qAc,qAa,qAj,qAg,qAd,qAu,qAv,resV,retV,qAn,qAh,qAs,qAr,qAq,qAp,callK_def,wi,-qAk,qAt,qBa,qAz,vE_0,vE_1,vE_2,vE_3,vE_4,vE_5,qAw,qBh,qBd,qBl];exact .go (i1,last) (by dsimp only; omega) (by simp) (by simp) ⟨by omega,hL.skip hi1 hn⟩
                  . simp [qAl,qAo,qAm,qAi,qAf,qAe,qAb,qAc,qAa,qAj,qAg,qAd,qAu,qAv,resV,retV,qAn,qAh,qAs,qAr,qAq,qAp,callK_def,wi,-qAk,qAt,qBa,qAz,vE_0,vE_1,vE_2,vE_3,vE_4,vE_5,qAw,qBh,qBd,qBl]
                    exact .go (i1,(i:Int)) (by dsimp only; omega) (by simp) (by simp) ⟨by omega,.hit hi1 ⟨a,ha,hth,hc⟩⟩
                . have hn:¬ qTx t b k i:=by
                    rintro ⟨a',h1,h2,h3⟩;rw [ha] at h1; cases h1; exact hth h2
                  simp [qAl,qAo,qAm,qAi,qAf,qAe,qAb,qAc,qAa,qAj,qAg,qAd,qAu,qAv,resV,retV,qAn,qAh,qAs,qAr,qAq,qAp,ha,hb,hg0,hth,wi,-qAk,qAt,qBa,qAz,vE_0,vE_1,vE_2,vE_3,vE_4,vE_5,qAw,qBh,qBd,qBl];exact .go (i1,last) (by dsimp only; omega) (by simp) (by simp) ⟨by omega,hL.skip hi1 hn⟩
              . have hijf:¬ (i:Int) < j:=by omega
                obtain rfl:i=j:=by omega
                simp [qAl,qAo,qAm,qAi,qAf,qAe,qAb,qAc,qAa,qAj,qAg,qAd,qAu,qAv,resV,retV,qAn,qAh,qAs,qAr,qAq,qAp,-qAk,qAt,qBa,qAz,vE_0,vE_1,vE_2,vE_3,vE_4,vE_5,qAw,qBh,qBd,qBl];exact .go last (by simp) (by simp) hL
            . intro last fr hL
              have nx:=qDy.next (p:=p) hb htb hk hk1 hL;rcases hL with ⟨rfl,_⟩ | ⟨l,rfl,hlj,_,_⟩
              . simp [qAl,qAo,qAm,qAi,qAf,qAe,qAb,qAc,qAa,qAj,qAg,qAd,qAu,qAv,resV,retV,qAn,qAh,qAs,qAr,qAq,qAp,wk,-qAk,qAt,qBa,qAz,vE_0,vE_1,vE_2,vE_3,vE_4,vE_5,qAw,qBh,qBd,qBl]
                exact .go (k1,rs,v,g) (by dsimp only; omega) (by simp) (by simp) ⟨by omega,by rw [hN,nx]; exact ⟨fun h=>⟨h,fun l e=>by omega⟩,fun h=>h.1⟩,hA,by dsimp only; omega⟩
              . have hpl:=hP.1
                obtain ⟨x,hx⟩:∃ x,past[l]?=some x:=⟨_,List.getElem?_eq_getElem (by omega)⟩
                have hm:=hP.2 l x hx;have hlp:l < past.length:=by omega
                have hgx:∀ hh,past[l]'hh=x:=fun hh=>by rw [List.getElem?_eq_getElem hh] at hx; exact Option.some.inj hx
                rcases hm.1 with rfl | rfl
                . have hcv:cellsOf (.agg #[vI l,vI j])=some [vI l,vI j]:=rfl
                  simp [-qAy,qAl,qAo,qAm,qAi,qAf,qAe,qAb,qAc,qAa,qAj,qAg,qAd,qAu,qAv,resV,retV,qAn,qAh,qAs,qAr,qAq,qAp,hx,hlp,hgx,hcv,-qAk,qAt,qBa,qAz,vE_0,vE_1,vE_2,vE_3,vE_4,vE_5,qAw,qBh,qBd,qBl];have nB:¬ Bef p t j l:=fun h=>by have:=hm.2.2 (by omega) h; omega
                  refine qRy (pre:=[bx (qCs p) 7]) (g:=g) (k:=h.length+(g.length+1)) (new:=vRc (l,j)) hA rfl rfl (by simp; omega) (by omega) fun w1 g1 c1 kw keep old=>?_
                  simp [qAl,qAo,qAm,qAi,qAf,qAe,qAb,qAc,qAa,qAj,qAg,qAd,qAu,qAv,resV,retV,qAn,qAh,qAs,qAr,qAq,qAp,wk,-qAk,qAt,qBa,qAz,vE_0,vE_1,vE_2,vE_3,vE_4,vE_5,qAw,qBh,qBd,qBl];exact .go (k1,rs++[(l,j)],w1,g1) (by dsimp only; omega) (by simp) (by simp) ⟨by omega,by rw [nx]; exact ⟨fun h=>by simp at h,fun h=>absurd (h.2 l rfl) nB⟩,by simpa [AccM] using c1,by simp; omega⟩
                . simp [qAl,qAo,qAm,qAi,qAf,qAe,qAb,qAc,qAa,qAj,qAg,qAd,qAu,qAv,resV,retV,qAn,qAh,qAs,qAr,qAq,qAp,hx,hlp,hgx,wk,-qAk,qAt,qBa,qAz,vE_0,vE_1,vE_2,vE_3,vE_4,vE_5,qAw,qBh,qBd,qBl]
                  exact .go (k1,rs,v,g) (by dsimp only; omega) (by simp) (by simp) ⟨by omega,by rw [hN,nx]; exact ⟨fun h=>⟨h,fun m e=>Int.ofNat_inj.1 e ▸ (hm.2.1 rfl).2⟩,fun h=>h.1⟩,hA,by dsimp only; omega⟩
          . have hkf:¬ (k:Int) < 6:=by omega
            obtain rfl:k=6:=by omega
            simp [qAl,qAo,qAm,qAi,qAf,qAe,qAb,qAc,qAa,qAj,qAg,qAd,qAu,qAv,resV,retV,qAn,qAh,qAs,qAr,qAq,qAp,wj,-qAk,qAt,qBa,qAz,vE_0,vE_1,vE_2,vE_3,vE_4,vE_5,qAw,qBh,qBd,qBl];exact .go (j1,rs,v,g) (by dsimp only; omega) (by simp) rfl ⟨by omega,by rw [hN,qDy.row hj1],hA,by dsimp only; omega⟩
    . have hif:¬ (j:Int) < t.length:=by omega
      obtain rfl:j=t.length:=by omega
      simp [qAl,qAo,qAm,qAi,qAf,qAe,qAb,qAc,qAa,qAj,qAg,qAd,qAu,qAv,resV,retV,qAn,qAh,qAs,qAr,qAq,qAp,hif];exact ⟨rs,by rw [hN,qDy.all],(AccM.inl (F:=vRc) hA (fun _=>rfl)).weak (Nat.le_add_right _ _)⟩
theorem r8Find_call {p:Prog} {t:List Ev} (ht:t.length≤2000) (hth:∀ e∈t,0≤e.thread∧e.thread < 6) (hk:∀ rs,(rs=[]↔qKf p t)→K (vM 2 vRc rs) h):qBn prog 20 [.agg (qCs p).toArray,vM 6 vEv t] h K:=by
  refine qBn.forget ((r8Find_run ht hth).mono ?_);rintro v H ⟨g,e,rs,hr,hi⟩;exact ⟨⟨g,e⟩,vM 2 vRc rs,hi,hk rs hr⟩
end
end Pm

/- Does it race, by the program.
   No condition: plain lemmas. -/

namespace Pm
set_option linter.unusedSimpArgs false
set_option linter.unusedVariables false
open Go Am
open Go.Proofs.Tryd (prog)

section
variable {h : Heap} {K : Value → Heap → Prop}
theorem r8Racy_call {p:Prog} {t:List Ev} (ht:t.length≤2000) (hth:∀ e∈t,0≤e.thread∧e.thread < 6) (hk:∀ b:Bool,(b=false↔qKf p t)→K (vB b) h):qBn prog 11 [.agg (qCs p).toArray,vM 6 vEv t] h K:=by
  refine qBn.forget ?_;refine call_r8Racy (by simp) ?_
  simp [-qAy,qAl,qAo,qAm,qAi,qAf,qAe,qAb,qAc,qAa,qAj,qAg,qAd,qAu,qAv,resV,retV,qAn,qAh,qAs,qAr,qAq,qAp,qTy,-qAk,qBh,qBd,qBl];refine r8Find_call ht hth fun rs hr=>?_
  by_cases h0:rs=[]
  . subst h0
    simp [qAl,qAo,qAm,qAi,qAf,qAe,qAb,qAc,qAa,qAj,qAg,qAd,qAu,qAv,resV,retV,qAn,qAh,qAs,qAr,qAq,qAp,callK_def,-qAk,qBh,qBd,qBl];exact ⟨_,.cell rfl,hk false ⟨fun _=>hr.1 rfl,fun _=>rfl⟩⟩
  . have hp:0 < rs.length:=List.length_pos_iff.2 h0
    have hp':(0:Int) < rs.length:=by omega
    simp [qAl,qAo,qAm,qAi,qAf,qAe,qAb,qAc,qAa,qAj,qAg,qAd,qAu,qAv,resV,retV,qAn,qAh,qAs,qAr,qAq,qAp,callK_def,hp,hp',-qAk,qBh,qBd,qBl];exact ⟨_,.cell rfl,hk true ⟨fun e=>by simp at e,fun e=>absurd (hr.2 e) h0⟩⟩
end
end Pm
