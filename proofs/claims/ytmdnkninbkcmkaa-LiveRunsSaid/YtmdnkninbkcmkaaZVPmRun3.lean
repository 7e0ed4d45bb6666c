/- Two runs side by side: registers that are not read, numbers that are known, code that was folded; without the program.
   No condition: plain lemmas. -/

import Derived.KernelRfl
import Derived.Test.YtmdnkninbkcmkaaZVPmRun2
import Derived.Test.YtmdnkninbkcmkaaZVPmFold1
import Derived.Test.YtmdnkninbkcmkaaZVPmVal7
import Derived.Test.YtmdnkninbkcmkaaZVPm5
import Derived.Test.YtmdnkninbkcmkaaProg
import Derived.Test.YtmdnkninbkcmkaaZVPmCfgCode
namespace Pm
set_option linter.unusedSimpArgs false
set_option linter.unusedVariables false
open Go Am

structure Sim (Rel:Nat→Nat→List Int→List Int→Prop) (s t:MS):Prop where
  at_:t.at_=s.at_
  g:t.g=s.g
  regs:∀ (k i:Nat) (r r':List Int),s.at_[k]?=some (i:Int)→s.r[k]?=some r→t.r[k]?=some r'→Rel k i r r'
structure Pair (p q:Prog) (Rel:Nat→Nat→List Int→List Int→Prop):Prop where
  thr:q.threads.length=p.threads.length
  len:∀ (k:Nat) (t t':List Ins),p.threads[k]?=some t→q.threads[k]?=some t'→t'.length=t.length
  chans:q.chans=p.chans
  one:∀ (k:Nat) (t t':List Ins) (i:Nat) (c c':Ins) (r r':List Int) (g:G),p.threads[k]?=some t→q.threads[k]?=some t'→t[i]?=some c→t'[i]?=some c'→r.length=4→r'.length=4→Rel k i r r' →
    qDf p.chans g c'=qDf p.chans g c∧(exec k i c' r' g).pc=(exec k i c r g).pc∧(exec k i c' r' g).g=(exec k i c r g).g∧∀ j:Nat,(exec k i c r g).pc=j→Rel k j (exec k i c r g).r (exec k i c' r' g).r
section
variable {p q : Prog} {Rel : Nat → Nat → List Int → List Int → Prop} {s t : MS}
theorem Pair.back {k:Nat} {tp:List Ins} (P:Pair p q Rel) (h:p.threads[k]?=some tp):∃ tq,q.threads[k]?=some tq∧tq.length=tp.length:=by
  have hl:=(List.getElem?_eq_some_iff.1 h).1;have hq:q.threads[k]?=some (q.threads[k]'(by rw [P.thr]; exact hl)):=List.getElem?_eq_getElem _
  exact ⟨_,hq,P.len k _ _ h hq⟩
theorem Sim.can (P:Pair p q Rel) (hp:SoundP p) (hs:Shape p s) (ht:Shape q t) (h:Sim Rel s t) (k:Int):canM q t k=canM p s k:=by
  unfold canM;rw [h.at_,h.g]
  by_cases h0:0≤k∧k < s.at_.length
  . obtain ⟨n,rfl⟩:∃ n:Nat,k=n:=⟨k.toNat,by omega⟩
    have hn:n < s.at_.length:=by omega
    rw [show ((n:Int)).toNat=n by omega]
    have hnt:n < p.threads.length:=by rw [← hs.at_]; exact hn
    have e1:p.threads[n]?=some p.threads[n]:=List.getElem?_eq_getElem hnt;obtain ⟨tq,e2,el⟩:=P.back e1;have ea:s.at_[n]?=some s.at_[n]:=List.getElem?_eq_getElem hn;obtain ⟨g0,g1⟩:=hs.pc n _ _ ea e1;obtain ⟨i,hi⟩:∃ i:Nat,s.at_[n]=i:=⟨s.at_[n].toNat,by omega⟩
    rw [hi] at ea;have ip:insAt p s n=p.threads[n][i]?:=by unfold insAt; rw [e1,ea]; simp
    have iq:insAt q t n=tq[i]?:=by unfold insAt; rw [e2,h.at_,ea]; simp
    rw [ip,iq];cases hc:p.threads[n][i]? with
    | none =>
      have:tq[i]?=none:=by
        rw [List.getElem?_eq_none_iff] at hc ⊢; omega
      rw [this]
    | some c =>
      have hlt:=(List.getElem?_eq_some_iff.1 hc).1;have hc':tq[i]?=some (tq[i]'(by omega)):=List.getElem?_eq_getElem _
      rw [hc'];have hnr:n < s.r.length:=by rw [hs.r]; exact hnt
      have hnr':n < t.r.length:=by rw [ht.r,P.thr]; exact hnt
      have r1:s.r[n]?=some s.r[n]:=List.getElem?_eq_getElem hnr;have r2:t.r[n]?=some t.r[n]:=List.getElem?_eq_getElem hnr';obtain ⟨o1,_⟩:=P.one n _ _ i c _ _ _ s.g e1 e2 hc hc' (hs.r4 _ (List.getElem_mem hnr)) (ht.r4 _ (List.getElem_mem hnr')) (h.regs n i _ _ ea r1 r2);simp only;rw [P.chans,o1]
  . have:(decide (0≤k) && decide (k < (s.at_.length:Int)))=false:=by
      rw [Bool.and_eq_false_iff];simp only [decide_eq_false_iff_not];omega
    rw [this];simp only [Bool.false_and]
theorem Sim.step (P:Pair p q Rel) (hp:SoundP p) (hq:SoundP q) (hs:Shape p s) (ht:Shape q t) (h:Sim Rel s t) (k:Int):Sim Rel (qIo p s k).1 (qIo q t k).1∧(qIo q t k).2.2=(qIo p s k).2.2:=by
  have hcan:=h.can P hp hs ht k;cases hc:canM p s k with
  | false =>
    rw [qNo hc,qNo (by rw [hcan,hc])]
    exact ⟨h,rfl⟩
  | true =>
    obtain ⟨n,tp,i,c,r,rfl,A,hb,e⟩:=hs.at' hp hc;obtain ⟨n',tq,i',c',r',en,A',hb',e'⟩:=ht.at' hq (by rw [hcan,hc])
    obtain rfl:n=n':=by omega
    have hi:i'=i:=by have:=A'.pc; rw [h.at_,A.pc] at this; injection this with this; omega
    subst hi;obtain ⟨_,o2,o3,o4⟩:=P.one n tp tq i' c c' r r' s.g A.thr A'.thr A.ins A'.ins A.r4 A'.r4 (h.regs n i' r r' A.pc A.regs A'.regs);rw [e,e',h.g];refine ⟨⟨?_,o3,fun m j x x' h1 h2 h3=>?_⟩,rfl⟩
    . show t.at_.set n _=s.at_.set n _
      rw [h.at_,o2]
    . simp only at h1 h2 h3
      rw [List.getElem?_set] at h1 h2 h3
      split at h1
      . rename_i em
        subst em
        split at h1
        . rw [if_pos rfl] at h2 h3
          split at h2
          . split at h3
            . cases h2; cases h3
              exact o4 j (by injection h1)
            . cases h3
          . cases h2
        . cases h1
      . rename_i em
        rw [if_neg em] at h2 h3;exact h.regs m j x x' h1 h2 h3
theorem Sim.run (P:Pair p q Rel) (hp:SoundP p) (hq:SoundP q):∀ (ks:List Int) {s t:MS},Shape p s→Shape q t→Sim Rel s t→Sim Rel (runM p s ks) (runM q t ks)
  | [],s,t,hs,ht,h=>h
  | k :: ks,s,t,hs,ht,h=>Sim.run P hp hq ks (qHd hp hs k).1 (qHd hq ht k).1 (h.step P hp hq hs ht k).1
open Classical in
theorem Sim.status (P:Pair p q Rel) (hp:SoundP p) (hs:Shape p s) (ht:Shape q t) (h:Sim Rel s t):qHe q t=qHe p s:=by
  unfold qHe;have e1:(∃ k:Nat,k < t.at_.length∧canM q t k=true)↔∃ k:Nat,k < s.at_.length∧canM p s k=true:=by
    constructor
    . rintro ⟨k,h1,h2⟩; exact ⟨k,by rw [← h.at_]; exact h1,by rw [← h.can P hp hs ht]; exact h2⟩
    . rintro ⟨k,h1,h2⟩; exact ⟨k,by rw [h.at_]; exact h1,by rw [h.can P hp hs ht]; exact h2⟩
  have e2:(∀ k:Nat,k < t.at_.length→qMe q t k)↔∀ k:Nat,k < s.at_.length→qMe p s k:=by
    constructor
    . intro hh k hk hb tp htp
      obtain ⟨tq,k1,k2⟩:=P.back htp;have:=hh k (by rw [h.at_]; exact hk) (by rw [h.g]; exact hb) tq k1
      rw [h.at_] at this;omega
    . intro hh k hk hb tq htq
      have hl:=(List.getElem?_eq_some_iff.1 htq).1;rw [P.thr] at hl;have htp:p.threads[k]?=some p.threads[k]:=List.getElem?_eq_getElem hl;have hlen:=P.len k _ _ htp htq;have:=hh k (by rw [← h.at_]; exact hk) (by rw [← h.g]; exact hb) _ htp
      rw [h.at_];omega
  rw [h.g];simp only [e1,e2]
end

/-! ### A register that is not read -/
def RelL (p:Prog) (k i:Nat) (r r':List Int):Prop:=∀ t,p.threads[k]?=some t→∀ j:Nat,Lv t j i→r[j]?=r'[j]?
theorem exec_live {p:Prog} {t:List Ins} {n i:Nat} {c:Ins} (ho:InsOk p n c) (hc:t[i]?=some c) (hi:i < n) {r r':List Int} (h4:r.length=4) (h4':r'.length=4) (h:∀ j:Nat,Lv t j i→r[j]?=r'[j]?) (k:Int) (g:G) :
    (exec k i c r' g).pc=(exec k i c r g).pc∧(exec k i c r' g).g=(exec k i c r g).g∧∀ m:Nat,(exec k i c r g).pc=m→∀ j:Nat,Lv t j m→(exec k i c r g).r[j]?=(exec k i c r' g).r[j]?:=by
  have d:=qQu ho (r:=r) (r':=r') (k:=k) (pc:=i) (g:=g) (by rw [h4,h4']) fun j hj=>h j (.use hc hj)
  refine ⟨d.pc.symm,d.g.symm,fun m hm j hj=>d.regs j ?_⟩
  obtain ⟨m',e1,e2,_⟩:=qOo ho hi k r g;have:m=m':=by omega
  subst this;cases hs:(qDx c).testBit j with
  | true=>exact .inr rfl
  | false=>exact .inl (h j (.pass hc hs e2 hj))
theorem pair_live {p:Prog} (hp:SoundP p):Pair p p (RelL p):=by
  refine ⟨rfl,fun k t t' h h'=>by rw [h] at h'; cases h'; rfl,rfl,fun k t t' i c c' r r' g ht ht' hc hc' h4 h4' hr=>?_⟩
  rw [ht] at ht'; cases ht';rw [hc] at hc'; cases hc';obtain ⟨h1,h2,h3⟩:=exec_live ((hp.code t (List.mem_of_getElem? ht)).2 c (List.mem_of_getElem? hc)) hc (List.getElem?_eq_some_iff.1 hc).1 h4 h4' (hr t ht) k g;refine ⟨rfl,h1,h2,fun j hj t' ht'=>?_⟩
  rw [ht] at ht'; cases ht';exact h3 j hj
theorem sim_live {p:Prog} {s:MS} {k r:Nat} {v:Int} (hs:Shape p s) (h:∀ t (i:Nat),p.threads[k]?=some t→s.at_[k]?=some (i:Int)→¬ Lv t r i):Sim (RelL p) s ⟨s.at_,s.r.set k ((s.r[k]?.getD []).set r v),s.g⟩:=by
  refine ⟨rfl,rfl,fun m i x x' h1 h2 h3 t ht j hj=>?_⟩
  simp only at h3;rw [List.getElem?_set] at h3
  split at h3
  . rename_i e
    subst e
    split at h3
    . cases h3
      rw [h2,Option.getD_some,List.getElem?_set];rw [if_neg];rintro rfl;exact h t i ht h1 hj
    . cases h3
  . rw [h2] at h3; cases h3; rfl

/-! ### Numbers that are known -/
def SatV (v:Val) (x:Int):Prop:=v=oneV x∨v=anyV
def Sat (l:V4) (r:List Int):Prop:=∀ j:Nat,j < 4→SatV (l.at j) (gI r j)
theorem SatV.mono {a b:Val} {x:Int} (h:SatV a x) (hl:leV a b):SatV b x:=by
  rcases hl with rfl | rfl | rfl
  . rcases h with h | h<;>cases h
  . exact h
  . exact .inr rfl
theorem SatV.bare {v:Val} {x:Int} (h:SatV v x):SatV (qJz v) x:=by
  rcases h with rfl | rfl
  . exact .inl rfl
  . exact .inr rfl
theorem SatV.num {v:Val} {x:Int} (h:SatV v x) (hk:v.kind=1):v.n=x:=by
  rcases h with rfl | rfl
  . rfl
  . cases hk
theorem Sat.mono {a b:V4} {r:List Int} (h:Sat a r) (hl:le4 a b):Sat b r:=fun j hj=>(h j hj).mono (qPa hl _)
theorem Sat.at' {l:V4} {r:List Int} (h:Sat l r) {x:Int} (h0:0≤x) (h4:x < 4):SatV (l.at x) (gI r x):=by
  have:=h x.toNat (by omega)
  rw [show ((x.toNat:Nat):Int)=x by omega] at this
  exact this
theorem Sat.get {l:V4} {r:List Int} (h:Sat l r) {x:Int} (h0:0≤x) (h4:x < 4):SatV (getV l x) (gI r x):=(h.at' h0 h4).bare
def reckonI (op:Nat) (x y:Int):Int:=if op=3 then w64 (x+y) else if op=4 then w64 (x - y) else if op=5 then w64 (x * y) else numI (decide (x < y))
theorem SatV.reckon {op:Nat} {a b:Val} {x y:Int} (ha:SatV a x) (hb:SatV b y) (h:op=3∨op=4∨op=5∨op=6):SatV (qFr op a b) (reckonI op x y):=by
  rcases ha with rfl | rfl
  . rcases hb with rfl | rfl
    . rcases h with rfl | rfl | rfl | rfl
      . exact .inl rfl
      . exact .inl rfl
      . exact .inl rfl
      . show SatV (if x < y then oneV 1 else oneV 0) (numI (decide (x < y)))
        by_cases hlt:x < y
        . rw [if_pos hlt]; simp [numI,hlt]; exact .inl rfl
        . rw [if_neg hlt]; simp [numI,hlt]; exact .inl rfl
    . exact .inr rfl
  . rcases hb with rfl | rfl
    . exact .inr rfl
    . exact .inr rfl
theorem gI_sI {r:List Int} {x v:Int} (h0:0≤x) (h4:x < r.length):gI (sI r x v) x=v:=by
  have hl:x.toNat < r.length:=by omega
  unfold gI sI;rw [List.getElem?_set_self hl]
  rfl
def valI (c:Ins) (r:List Int):Int:=if c.op=1 then c.b else if c.op=2 then gI r c.b else reckonI c.op (gI r c.b) (gI r c.c)
theorem exec_reckon {c:Ins} (h:1≤c.op∧c.op≤6) (k pc:Int) (r:List Int) (g:G):(exec k pc c r g).pc=pc+1∧(exec k pc c r g).r=sI r c.a (valI c r)∧(exec k pc c r g).g=g:=by
  obtain ⟨op,a,b,d⟩:=c;simp only at h;have:op=1∨op=2∨op=3∨op=4∨op=5∨op=6:=by omega
  rcases this with rfl | rfl | rfl | rfl | rfl | rfl<;>exact ⟨rfl,rfl,rfl⟩
theorem InsOk.reckon {p:Prog} {n:Nat} {c:Ins} (h:InsOk p n c) (ho:1≤c.op∧c.op≤6):(0≤c.a∧c.a < 4)∧(2≤c.op→0≤c.b∧c.b < 4)∧(3≤c.op→0≤c.c∧c.c < 4):=by
  have a0:qCp c.op 0=2→0≤c.a∧c.a < 4:=fun e=>h.reg (k:=0) (by omega) e (.inl rfl)
  have a1:qCp c.op 1=3→0≤c.b∧c.b < 4:=fun e=>h.reg (k:=1) (by omega) e (.inr rfl)
  have a2:qCp c.op 2=3→0≤c.c∧c.c < 4:=fun e=>h.reg (k:=2) (by omega) e (.inr rfl)
  have:c.op=1∨c.op=2∨c.op=3∨c.op=4∨c.op=5∨c.op=6:=by omega
  rcases this with e | e | e | e | e | e<;>rw [e] at a0 a1 a2 ⊢
  . exact ⟨a0 rfl,fun h=>by omega,fun h=>by omega⟩
  . exact ⟨a0 rfl,fun _=>a1 rfl,fun h=>by omega⟩
  . exact ⟨a0 rfl,fun _=>a1 rfl,fun _=>a2 rfl⟩
  . exact ⟨a0 rfl,fun _=>a1 rfl,fun _=>a2 rfl⟩
  . exact ⟨a0 rfl,fun _=>a1 rfl,fun _=>a2 rfl⟩
  . exact ⟨a0 rfl,fun _=>a1 rfl,fun _=>a2 rfl⟩
theorem valOf_sat {p:Prog} {n:Nat} {c:Ins} (ho:InsOk p n c) (h:1≤c.op∧c.op≤6) {l:V4} {r:List Int} (hs:Sat l r):SatV (qPf c l) (valI c r):=by
  obtain ⟨_,hb,hc⟩:=ho.reckon h;unfold qPf valI
  by_cases h1:c.op=1
  . rw [if_pos h1,if_pos h1]; exact .inl rfl
  . rw [if_neg h1,if_neg h1]
    by_cases h2:c.op=2
    . rw [if_pos h2,if_pos h2]
      have:=hb (by omega)
      exact hs.get this.1 this.2
    . rw [if_neg h2,if_neg h2]
      have h3:c.op=3∨c.op=4∨c.op=5∨c.op=6:=by omega
      rw [if_pos h3];have b:=hb (by omega)
      have d:=hc (by omega)
      exact (hs.get b.1 b.2).reckon (hs.get d.1 d.2) h3
theorem doV_at (c:Ins) (l:V4) {j:Nat} (hj:j < 4):(doV c l).at j=doR c l j:=by
  have:j=0∨j=1∨j=2∨j=3:=by omega
  rcases this with rfl | rfl | rfl | rfl<;>rfl
theorem doV_sat {p:Prog} {n:Nat} {c:Ins} (ho:InsOk p n c) {l:V4} {r:List Int} (h4:r.length=4) (hs:Sat l r) (k pc:Int) (g:G):Sat (doV c l) (exec k pc c r g).r:=by
  intro j hj;rw [doV_at c l hj];unfold doR;rw [qQr (by omega)]
  have d:=qQu ho (r:=r) (r':=r) (k:=k) (pc:=pc) (g:=g) rfl fun _ _=>rfl
  cases hb:(qDx c).testBit j with
  | false =>
    rw [if_neg (by simp)]
    have e:=d.stay j hb;have:gI (exec k pc c r g).r j=gI r j:=by unfold gI; rw [show ((j:Int)).toNat=j by omega,e]
    rw [this];exact (hs j hj).bare
  | true =>
    rw [if_pos rfl]
    by_cases h16:1≤c.op∧c.op≤6
    . obtain ⟨_,e2,_⟩:=exec_reckon h16 k pc r g
      obtain ⟨⟨a0,a1⟩,_⟩:=ho.reckon h16;obtain ⟨m,hm,hw,hj2⟩:=(ho.bit (w:=2) (.inl rfl)).1 hb;have hja:(j:Int)=c.a:=by
        have:m=0:=by
          have:c.op=1∨c.op=2∨c.op=3∨c.op=4∨c.op=5∨c.op=6:=by omega
          have hm3:m=0∨m=1∨m=2:=by omega
          rcases this with e | e | e | e | e | e<;>rw [e] at hw<;>rcases hm3 with rfl | rfl | rfl<;>first | rfl | (simp [qCp,qHx] at hw)
        subst this;have:j=c.a.toNat:=hj2;omega
      rw [e2,hja,gI_sI a0 (by omega)]
      exact valOf_sat ho h16 hs
    . have:qPf c l=anyV:=by unfold qPf; rw [if_neg (by omega),if_neg (by omega),if_neg (by omega)]
      rw [this];exact .inr rfl
def qPb (V:List V4) (t:List Ins) (i:Nat) (r:List Int):Prop:=i < t.length→Come (succs t) i∧Sat (rowF V i) r
theorem qPb.next {p:Prog} {V:List V4} {t:List Ins} {i:Nat} {c:Ins} {r:List Int} (hV:Least t V) (ho:InsOk p t.length c) (hc:t[i]?=some c) (h4:r.length=4) (h:qPb V t i r) (k:Int) (g:G) {j:Nat} (hj:(exec k i c r g).pc=j):qPb V t j (exec k i c r g).r:=by
  intro hlt;have hi:=(List.getElem?_eq_some_iff.1 hc).1;obtain ⟨h1,h2⟩:=h hi;obtain ⟨m,e1,e2,_⟩:=qOo ho hi k r g;obtain rfl:j=m:=by omega
  have hl:(succs t)[i]?=some (qDr i c):=by rw [qNn,hc]; rfl
  refine ⟨.step h1 hl e2 (by rw [qDs]; exact hlt),?_⟩
  exact (doV_sat ho h4 h2 k i g).mono ((hV.holds (by omega)).flow i j _ hlt ⟨h1,c,_,hc,hl,e2,rfl⟩)
theorem sat_one:Sat one4 [0,0,0,0]:=fun j hj=>by
  have:j=0∨j=1∨j=2∨j=3:=by omega
  rcases this with rfl | rfl | rfl | rfl<;>exact .inl rfl
theorem qPb.start {V:List V4} {t:List Ins} (hV:Least t V):qPb V t 0 [0,0,0,0]:=fun h=>⟨.start (by rw [qDs]; exact h),sat_one.mono (hV.holds h).start⟩
/-! ### What is folded -/
end Pm
