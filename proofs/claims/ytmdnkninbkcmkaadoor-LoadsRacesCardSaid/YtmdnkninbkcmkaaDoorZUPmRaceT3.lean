/- Loads of what is known: what does not race tells the same; without the program.
   No condition: plain lemmas. -/

import Derived.Test.YtmdnkninbkcmkaaDoorZUPmRaceT1
import Derived.Test.YtmdnkninbkcmkaaDoorZUPmLoads3
import Derived.Test.YtmdnkninbkcmkaaDoorZUPmSound5
namespace Pm
set_option linter.unusedSimpArgs false
set_option linter.unusedVariables false
open Go Am

def qSm (x y:List Ins):Prop:=∃ kn out,Solved (qHm x) kn out∧Loaded x kn y
structure LdT (s t:List (List Ins)):Prop where
  le:t.length≤s.length
  one:∀ (k:Nat) (x y:List Ins),s[k]?=some x→t[k]?=some y→qSm x y
theorem LdT.snoc {s t:List (List Ins)} {x y:List Ins} (h:LdT s t) (hx:s[t.length]?=some x) (hf:qSm x y):LdT s (t++[y]):=by
  refine ⟨by have:=(List.getElem?_eq_some_iff.1 hx).1; simp; omega,fun k a b ha hb=>?_⟩
  rcases Nat.lt_or_ge k t.length with h1 | h1
  . rw [List.getElem?_append_left h1] at hb; exact h.one k a b ha hb
  . have h2:=(List.getElem?_eq_some_iff.1 hb).1
    simp at h2;obtain rfl:k=t.length:=by omega
    rw [hx] at ha; cases ha;rw [List.getElem?_append_right (Nat.le_refl _)] at hb;simp at hb;subst hb; exact hf
theorem known_next {code:List Ins} {kn out:List Nat} (h:Solved (qHm code) kn out) {i j b:Nat} {c:Ins} (hb:b < 64) (hc:code[i]?=some c) (hj:(j:Int)∈qDu i c) (hk:(gN kn j).testBit b=true) :
    (addN c).testBit b=true∨((qIl c).testBit b=false∧(gN kn i).testBit b=true):=by
  have hn:(qHm code).n=code.length:=qCu code;have hi:=(List.getElem?_eq_some_iff.1 hc).1;have hjl:j < code.length:=by
    rcases Nat.lt_or_ge j code.length with h1 | h1
    . exact h1
    . have:gN kn j=0:=by unfold gN; rw [List.getElem?_eq_none (by rw [h.ilen,hn]; exact h1)]; rfl
      rw [this,Nat.zero_testBit] at hk; cases hk
  have mk:∀ x,(qHm code).marked x b=!x.testBit b:=fun x=>by
    unfold Prob.marked;show (x.testBit b != true)=_;cases x.testBit b<;>rfl
  have h1:¬ Mk (qHm code) b false j:=by
    rw [← h.ahead j b (by rw [hn]; exact hjl) hb,mk,hk]; simp
  have hfr:(i:Int)∈qEj (qHm code).froms j:=by
    rw [qWb (p:=qHm code) (by rw [hn]; exact hi) (by rw [hn]; exact hjl)]
    show (j:Int)∈qEj (qFa (succs code)) i;rw [qIs];exact ⟨j,rfl,by rw [qCu]; exact hjl,by rw [nexts_succs hc]; exact hj⟩
  have h2:¬ Mk (qHm code) b true i:=fun hm=>h1 (.flow (by rw [hn]; exact hjl) hfr hm)
  have eg:gN (qHm code).gen i=addN c:=by show gN (code.map addN) i=_; rw [qVd,hc]
  have ek:gN (qHm code).kill i=qIl c:=by show gN (code.map qIl) i=_; rw [qVd,hc]
  cases hg:(addN c).testBit b with
  | true=>exact .inl rfl
  | false =>
    refine .inr ⟨?_,?_⟩
    . cases ht:(qIl c).testBit b with
      | false=>rfl
      | true =>
        exfalso;refine h2 (.gen (by rw [hn]; exact hi) ?_)
        unfold Prob.genM;rw [eg,ek,hg,ht]; rfl
    . cases ha:(gN kn i).testBit b with
      | true=>rfl
      | false =>
        exfalso;refine h2 (.pass ((h.ahead i b (by rw [hn]; exact hi) hb).1 (by rw [mk,ha]; rfl)) ?_)
        unfold Prob.passM;rw [eg,hg]; rfl
theorem known_first {code:List Ins} {kn out:List Nat} (h:Solved (qHm code) kn out) {b:Nat} (hb:b < 64):(gN kn 0).testBit b=false:=by
  have hn:(qHm code).n=code.length:=qCu code;rcases Nat.eq_zero_or_pos code.length with h0 | h0
  . have:gN kn 0=0:=by unfold gN; rw [List.getElem?_eq_none (by rw [h.ilen,hn]; omega)]; rfl
    rw [this,Nat.zero_testBit]
  . have:=(h.ahead 0 b (by rw [hn]; exact h0) hb).2 (.start (by rw [hn]; exact h0) rfl (by
      show ((0:Nat).testBit b != true)=true;rw [Nat.zero_testBit]; rfl))
    unfold Prob.marked at this;have e:(qHm code).must=true:=rfl;rw [e] at this;cases hx:(gN kn 0).testBit b with
    | false=>rfl
    | true=>rw [hx] at this; cases this
theorem qRe {x:Int} {n:Nat}:(qEv x).testBit n=true↔∃ v r:Nat,v < 8∧r < 4∧x=(v:Int)∧n=4 * v+r:=by
  unfold qEv
  split
  . rename_i h
    obtain ⟨v,rfl⟩:∃ v:Nat,x=v:=⟨x.toNat,by omega⟩
    rw [show ((v:Int)).toNat=v by omega]
    have e15:(15:Nat)=2 ^ 4 - 1:=rfl;rw [Nat.testBit_mul_two_pow,e15,Nat.testBit_two_pow_sub_one];simp only [Bool.and_eq_true,decide_eq_true_eq,ge_iff_le];constructor
    . rintro ⟨h1,h2⟩; exact ⟨v,n - 4 * v,by omega,by omega,rfl,by omega⟩
    . rintro ⟨v',r,h1,h2,h3,h4⟩
      have:v=v':=by omega
      subst this;exact ⟨by omega,by omega⟩
  . rename_i h
    rw [Nat.zero_testBit];constructor
    . intro h; cases h
    . rintro ⟨v,r,h1,h2,h3,h4⟩; omega
theorem of_bit {r:Nat} (hr:r < 4) {v s:Nat} (hv:v < 8) (hs:s < 4):(ofN r).testBit (4 * v+s)=decide (s=r):=by
  have:∀ r:Fin 4,∀ v:Fin 8,∀ s:Fin 4,(ofN r.val).testBit (4 * v.val+s.val)=decide (s.val=r.val):=by decide +kernel
  exact this ⟨r,hr⟩ ⟨v,hv⟩ ⟨s,hs⟩
theorem orOf_bit {v s:Nat} (hv:v < 8) (hs:s < 4):∀ (l:List Int),(∀ x∈l,∃ r:Nat,x=r∧r < 4)→(s:Int)∈l→(orOf l).testBit (4 * v+s)=true:=by
  intro l hl hm;have gen:∀ (l:List Int) (z:Nat),(z.testBit (4 * v+s)=true∨(s:Int)∈l∧∀ x∈l,∃ r:Nat,x=r∧r < 4)→(l.foldl (fun s r=>s ||| ofN r.toNat) z).testBit (4 * v+s)=true:=by
    intro l
    induction l with
    | nil =>
      intro z h;rcases h with h | ⟨h,_⟩
      . exact h
      . simp at h
    | cons x l ih =>
      intro z h;rw [List.foldl_cons];refine ih _ ?_;rcases h with h | ⟨h,h2⟩
      . exact .inl (by rw [Nat.testBit_or,h]; rfl)
      . rcases List.mem_cons.1 h with h | h
        . refine .inl ?_
          subst h;rw [Nat.testBit_or,show ((s:Int)).toNat=s by omega,of_bit hs hv hs]
          simp
        . exact .inr ⟨h,fun x hx=>h2 x (List.mem_cons_of_mem _ hx)⟩
  exact gen l 0 (.inr ⟨hm,hl⟩)
theorem add_bit {c:Ins} {v s:Nat} (hv:v < 8) (hs:s < 4) (h:(addN c).testBit (4 * v+s)=true):(c.op=7∧c.b=(v:Int)∧c.a=(s:Int))∨(c.op=8∧c.a=(v:Int)∧c.b=(s:Int)):=by
  unfold addN at h
  split at h
  . rename_i hc
    rw [Nat.testBit_and,Bool.and_eq_true] at h;obtain ⟨h1,h2⟩:=h;obtain ⟨v',s',q1,q2,q3,q4⟩:=qRe.1 h1;obtain rfl:v=v':=by omega
    obtain rfl:s=s':=by omega
    rw [of_bit (by omega) hv hs,decide_eq_true_eq] at h2
    unfold accX at q3;unfold accR at h2 hc
    by_cases h7:c.op=7
    . rw [if_pos h7] at q3 h2 hc
      exact .inl ⟨h7,q3,by omega⟩
    . rw [if_neg h7] at q3 h2 hc
      rcases hc.1 with h | h
      . exact absurd h h7
      . exact .inr ⟨h,q3,by omega⟩
  . rw [Nat.zero_testBit] at h; cases h
theorem take_bit {c:Ins} {v s:Nat} (hv:v < 8) (hs:s < 4) (h:(qIl c).testBit (4 * v+s)=false):qKe c.op=false∧(qHp c).testBit s=false∧¬ (c.op=8∧c.a=(v:Int)):=by
  unfold qIl at h
  split at h
  . exfalso
    have:big - 1=2 ^ 64 - 1:=rfl;rw [this,Nat.testBit_two_pow_sub_one] at h;simp at h; omega
  . rename_i ha
    rw [Nat.testBit_or,Bool.or_eq_false_iff] at h;obtain ⟨h1,h2⟩:=h;refine ⟨by simpa using ha,?_,?_⟩
    . cases hb:(qHp c).testBit s with
      | false=>rfl
      | true =>
        have hm:(s:Int)∈qGb (qHp c &&& allN 4):=by
          unfold qGb;rw [List.mem_map];refine ⟨s,List.mem_filter.2 ⟨List.mem_range.2 (by omega),?_⟩,rfl⟩
          rw [Nat.testBit_and,hb];have:(allN 4).testBit s=true:=by unfold allN; rw [Nat.testBit_two_pow_sub_one]; simpa using hs
          rw [this]; rfl
        rw [orOf_bit hv hs _ (fun x hx=>qOq x hx) hm] at h1
        cases h1
    . rintro ⟨h8,hav⟩
      rw [if_pos h8,qRe.2 ⟨v,s,hv,hs,hav,rfl⟩] at h2;cases h2
theorem ld_of {c:Ins} {k:Nat} {d:Ins} (h:d=qPy c k):d=c∨(c.op=7∧∃ v s:Nat,v < 8∧s < 4∧c.b=(v:Int)∧k.testBit (4 * v+s)=true∧((c.a=(s:Int)∧d=nopI)∨(c.a≠(s:Int)∧d=⟨2,c.a,(s:Int),0⟩))):=by
  unfold qPy at h
  split at h
  . rename_i h7
    split at h
    . exact .inl h
    . rename_i hf
      refine .inr ⟨h7,?_⟩;rcases firstI_cases (k &&& qEv c.b) 0 with e | ⟨n,e,n64,hb⟩
      . unfold qSi at hf; omega
      . rw [Nat.testBit_and,Bool.and_eq_true] at hb
        obtain ⟨v,s,q1,q2,q3,q4⟩:=qRe.1 hb.2;have em:(qSi c k).tmod 4=(s:Int):=by
          unfold qSi;rw [e,Int.tmod_eq_emod_of_nonneg (by omega)]
          omega
        rw [em] at h;refine ⟨v,s,q1,q2,q3,by rw [← q4]; exact hb.1,?_⟩
        split at h
        . rename_i ea; exact .inl ⟨ea.symm,h⟩
        . rename_i ea; exact .inr ⟨fun e=>ea e.symm,h⟩
  . exact .inl h
def qXf (x:RunR) (k v:Nat):Prop:=∃ (j:Nat) (a:Ev),x.trace[j]?=some a∧a.op=8∧a.obj=(v:Int)∧a.thread≠(k:Int)∧(∀ (m:Nat) (c:Ev),j < m→x.trace[m]?=some c→(c.thread=(k:Int)→qKe c.op=false)∧(c.op=12→c.obj≠(k:Int)))
structure LdI (p:Prog) (x y:RunR):Prop where
  s:y.s=x.s
  picks:y.picks=x.picks
  like:Like x.trace y.trace
  bit:∀ b∈x.s.g.began,b=0∨b=1
  fresh:∀ k:Nat,x.s.g.began[k]?=some 0→∀ a,x.s.at_[k]?=some a→a=0
  knows:x.s.g.trap=1∨∀ (k:Nat) (t:List Ins) (i:Nat) (kn out:List Nat) (r:List Int) (v s:Nat),p.threads[k]?=some t→x.s.at_[k]?=some (i:Int)→x.s.r[k]?=some r→Solved (qHm t) kn out→v < 8→s < 4→(gN kn i).testBit (4 * v+s)=true→gI r s=gI x.s.g.vars v∨qXf x k v
theorem exec_began {p:Prog} {n:Nat} {c:Ins} (ho:InsOk p n c) (k pc:Int) (r:List Int) (g:G):(c.op=12∧(exec k pc c r g).g.trap=gI g.began c.a∧(exec k pc c r g).g.began=sI g.began c.a 1∧(exec k pc c r g).e.obj=c.a)∨(c.op≠12∧(exec k pc c r g).g.began=g.began):=by
  have h27:=ho.op;clear ho;obtain ⟨op,a,b,d⟩:=c;simp only at h27;rcases qLo h27 with rfl | rfl | rfl | rfl | rfl | rfl | rfl | rfl | rfl | rfl | rfl | rfl | rfl | rfl | rfl | rfl | rfl | rfl | rfl | rfl | rfl | rfl | rfl | rfl | rfl | rfl | rfl | rfl
  all_goals first
    | exact .inl ⟨rfl,rfl,rfl,rfl⟩
    | exact .inr ⟨by simp,rfl⟩
    | (refine .inr ⟨by simp,?_⟩; simp only [exec,qCn]; split<;>rfl)
theorem qSm.len {x y:List Ins} (h:qSm x y):y.length=x.length:=by
  obtain ⟨_,_,_,h⟩:=h; exact h.len
theorem qSm.at' {x y:List Ins} (h:qSm x y):∃ kn out,Solved (qHm x) kn out∧∀ (i:Nat) (c d:Ins),x[i]?=some c→y[i]?=some d→d=c∨(c.op=7∧∃ v s:Nat,v < 8∧s < 4∧c.b=(v:Int)∧(gN kn i).testBit (4 * v+s)=true∧((c.a=(s:Int)∧d=nopI)∨(c.a≠(s:Int)∧d=⟨2,c.a,(s:Int),0⟩))):=by
  obtain ⟨kn,out,h1,h2⟩:=h;refine ⟨kn,out,h1,fun i c d hc hd=>?_⟩
  rcases Classical.em (Come (succs x) i) with hg | hg
  . have:=h2.come i c hc hg
    rw [hd] at this
    injection this with this
    exact ld_of this
  . have:=h2.away i c hc hg
    rw [hd] at this
    injection this with this
    exact .inl this
theorem move_ok {p:Prog} {n:Nat} {a s:Int} (ha:0≤a∧a < 4) (hs:0≤s∧s < 4):InsOk p n ⟨2,a,s,0⟩ :=
  ⟨by show (2:Nat)≤27; decide,⟨fun h=>absurd h (show ¬ (2:Nat)=0 by decide),fun _ _=>⟨ha.1,ha.2,fun h=>absurd h (show ¬ (2:Nat)=6 by decide)⟩⟩,⟨fun h=>absurd h (show ¬ (3:Nat)=0 by decide),fun _ _=>⟨hs.1,hs.2,fun h=>absurd h (show ¬ (3:Nat)=6 by decide)⟩⟩,⟨fun _=>rfl,fun h=>absurd rfl h⟩⟩
theorem qSm.ok {p:Prog} {n:Nat} {x y:List Ins} (h:qSm x y) (ho:∀ i∈x,InsOk p n i):∀ i∈y,InsOk p n i:=by
  intro d hd;obtain ⟨i,hi⟩:=List.mem_iff_getElem?.1 hd;have hlt:=(List.getElem?_eq_some_iff.1 hi).1;rw [h.len] at hlt;have hx:x[i]?=some x[i]:=List.getElem?_eq_getElem hlt;have hxo:=ho _ (List.getElem_mem hlt);obtain ⟨kn,out,_,h2⟩:=h.at';rcases h2 i _ d hx hi with e | ⟨h7,v,s,hv,hs,hb,_,e⟩
  . rw [e]; exact hxo
  . rcases e with ⟨_,e⟩ | ⟨_,e⟩
    . rw [e]; exact qXy p n
    . rw [e]
      have ha:=hxo.reg (k:=0) (by omega) (by rw [h7]; rfl) (.inl (rfl:(2:Nat)=2))
      have e0:qHx x[i] 0=x[i].a:=rfl;rw [e0] at ha;exact move_ok ha ⟨by omega,by omega⟩
theorem LdT.sound {p:Prog} {t:List (List Ins)} (h:LdT p.threads t) (hl:t.length=p.threads.length) (hp:SoundP p):SoundP (thrP p t) :=
  hp.other rfl rfl rfl rfl rfl rfl hl fun k x y hx hy=>⟨(h.one k x y hx hy).len,fun hx'=>(h.one k x y hx hy).ok hx'⟩
theorem stale_carry {x x':RunR} {k v:Nat} {e:Ev} (w:qXf x k v) (htr:x'.trace=x.trace++[e]) (h1:e.thread=(k:Int)→qKe e.op=false) (h2:e.op=12→e.obj≠(k:Int)):qXf x' k v:=by
  obtain ⟨j,a,g1,g2,g3,g4,g5⟩:=w;refine ⟨j,a,?_,g2,g3,g4,fun m c hm hc=>?_⟩
  . rw [htr,List.getElem?_append_left (List.getElem?_eq_some_iff.1 g1).1,g1]
  . rw [htr] at hc
    rcases Nat.lt_or_ge m x.trace.length with hm2 | hm2
    . rw [List.getElem?_append_left hm2] at hc
      exact g5 m c hm hc
    . have:=(List.getElem?_eq_some_iff.1 hc).1
      simp at this;obtain rfl:m=x.trace.length:=by omega
      simp at hc;rw [← hc];exact ⟨h1,h2⟩
section
variable {p q : Prog} {outs : List (List Ins)} {x y : RunR}
theorem LdI.twin (hf:LdT p.threads outs) (hl:outs.length=p.threads.length) (hqe:q=thrP p outs) (h:LdI p x y):Twin p q x.s y.s:=by
  subst hqe;refine ⟨hl,fun k a b ha hb=>(hf.one k a b ha hb).len,by rw [h.s],by rw [h.s],by rw [h.s],fun k a b i c d ha hb hat hc hd=>?_⟩
  show qCz p.chans y.s.g d=_;rw [h.s];obtain ⟨_,_,_,h2⟩:=(hf.one k a b ha hb).at';rcases h2 i c d hc hd with e | ⟨h7,_,_,_,_,_,_,e⟩
  . rw [e]
  . have:∀ g,qCz p.chans g c=false:=fun g=>by simp [qCz,h7]
    rw [this];rcases e with ⟨_,e⟩ | ⟨_,e⟩<;>rw [e]<;>rfl
theorem sI_back {r:List Int} {a:Int} (h0:0≤a) (h1:a < r.length):sI r a (gI r a)=r:=by
  unfold sI gI;have hl:a.toNat < r.length:=by omega
  rw [List.getElem?_eq_getElem hl];simp
set_option maxHeartbeats 1000000 in
theorem LdI.step {T rest:List Ev} (hp:SoundP p) (hq:SoundP q) (hf:LdT p.threads outs) (hl:outs.length=p.threads.length) (hqe:q=thrP p outs) (hx:Shape p x.s) (hy:Shape q y.s) (h:LdI p x y) (hnr:qKf p T) (hth:∀ e∈T,0≤e.thread∧e.thread < 6) (k:Int) (hT:T=(qFz p x k).trace++rest):LdI p (qFz p x k) (qFz q y k):=by
  have tw:=h.twin hf hl hqe;have hcan:=tw.can hx k;cases hc:canM p x.s k with
  | false =>
    unfold qFz;rw [qKh hc,qKh (by rw [hcan,hc])]
    exact h
  | true =>
    have hnt:x.s.g.trap≠1∧gI x.s.g.began k≠0:=by
      unfold canM at hc;simp only [Bool.and_eq_true,decide_eq_true_eq] at hc;exact ⟨hc.1.2,hc.1.1.2⟩
    obtain ⟨n,t,i,c,r,rfl,A,hb,e⟩:=hx.at' hp hc;obtain ⟨n',t',i',c',r',en,A',hb',e'⟩:=hy.at' hq (by rw [hcan,hc])
    obtain rfl:n=n':=by omega
    have hi:i'=i:=by have:=A'.pc; rw [h.s,A.pc] at this; injection this with this; omega
    subst hi;have hr:r'=r:=by have:=A'.regs; rw [h.s,A.regs] at this; injection this with this; exact this.symm
    subst hr;have hlt:=(List.getElem?_eq_some_iff.1 A.ins).1;obtain ⟨j,hj,hjn,hjl⟩:=qRf A.ok hlt n r' x.s.g;obtain ⟨e1,e2⟩:=exec_ev A.ok n i' r' x.s.g;have sp:qFz p x (n:Int)=⟨⟨x.s.at_.set n (exec n i' c r' x.s.g).pc,x.s.r.set n (exec n i' c r' x.s.g).r,(exec n i' c r' x.s.g).g⟩,x.picks++[(n:Int)],x.trace++[(exec n i' c r' x.s.g).e]⟩:=by
      unfold qFz; rw [e]; rfl
    have sq:qFz q y (n:Int)=⟨⟨y.s.at_.set n (exec n i' c' r' y.s.g).pc,y.s.r.set n (exec n i' c' r' y.s.g).r,(exec n i' c' r' y.s.g).g⟩,y.picks++[(n:Int)],y.trace++[(exec n i' c' r' y.s.g).e]⟩:=by
      unfold qFz; rw [e']; rfl
    have hthr:outs[n]?=some t':=by have:=A'.thr; rw [hqe] at this; exact this
    obtain ⟨kn,out,hsol,hcd⟩:=(hf.one n t t' A.thr hthr).at';have hcc:=hcd i' c c' A.ins A'.ins;have hknows:=h.knows.resolve_left hnt.1;rw [sp] at hT;rw [sp,sq,h.s];obtain ⟨E,hE⟩:∃ E,E=(exec n i' c r' x.s.g).e:=⟨_,rfl⟩;rw [← hE] at e1 e2;have hTN:T[x.trace.length]?=some E:=by
      rw [hT,hE]; simp
    have hTl:∀ m d,x.trace[m]?=some d→T[m]?=some d:=fun m d hd=>by
      have:=(List.getElem?_eq_some_iff.1 hd).1;rw [hT,List.append_assoc,List.getElem?_append_left this,hd]
    have hTm:∀ m d,m < x.trace.length→T[m]?=some d→x.trace[m]?=some d:=fun m d hm hd=>by
      rw [hT,List.append_assoc,List.getElem?_append_left hm] at hd; exact hd
    obtain ⟨hv7,hv8⟩:=vals_of hp A.ok;have ex7:c.op=7→∀ g,exec n i' c r' g=⟨(i':Int)+1,sI r' c.a (gI g.vars c.b),g,{ (⟨n,i',c.op,0,0,0⟩:Ev) with obj:=c.b,value:=gI g.vars c.b }⟩:=fun h7 g=>by
      obtain ⟨op,a,b,d⟩:=c;simp only at h7;subst h7; rfl
    have ex8:c.op=8→∀ g,exec n i' c r' g=⟨(i':Int)+1,r',{ g with vars:=sI g.vars c.a (gI r' c.b) },{ (⟨n,i',c.op,0,0,0⟩:Ev) with obj:=c.a,value:=gI r' c.b }⟩:=fun h8 g=>by
      obtain ⟨op,a,b,d⟩:=c;simp only at h8;subst h8; rfl
    have key:∀ v:Nat,c.op=7→c.b=(v:Int)→¬ qXf x n v:=by
      rintro v h7 hbv ⟨j0,a,g1,g2,g3,g4,g5⟩;have hj0:=(List.getElem?_eq_some_iff.1 g1).1;have hcf:qFq a E=true:=by
        have t1:qFl a=true:=by simp [qFl,g2]
        have t2:qFl E=true:=by simp [qFl,e2,h7]
        have t3:a.obj=E.obj:=by rw [g3,hE,ex7 h7]; exact hbv.symm
        have t4:a.thread≠E.thread:=by rw [e1]; exact g4
        simp [qFq,t1,t2,t3,t4,g2]
      have hB:=hnr.ordered hth (hTl _ _ g1) hTN hj0 hcf;obtain ⟨m,d,m1,m2,m3,m4,m5⟩:=hB.into (hTl _ _ g1) hTN (by rw [e1]; exact g4)
      rcases m5 with m5 | ⟨m',d',q1,q2,q3,q4,q5⟩
      . rcases Nat.lt_or_ge m x.trace.length with hm | hm
        . have:=(g5 m d m1 (hTm _ _ hm m3)).1 (by rw [m4,e1])
          rw [this] at m5; cases m5
        . obtain rfl:m=x.trace.length:=by omega
          rw [hTN] at m3; cases m3;rw [e2,h7] at m5; cases m5
      . have q3':=hTm m' d' (by omega) q3
        rcases Nat.lt_or_ge j0 m' with hm | hm
        . exact (g5 m' d' hm q3').2 q4 (by rw [q5,e1])
        . obtain rfl:m'=j0:=by omega
          rw [g1] at q3'; cases q3';rw [g2] at q4; cases q4
    have hsame:(exec n i' c' r' x.s.g).pc=(exec n i' c r' x.s.g).pc∧(exec n i' c' r' x.s.g).r=(exec n i' c r' x.s.g).r∧(exec n i' c' r' x.s.g).g=(exec n i' c r' x.s.g).g∧qJe (exec n i' c r' x.s.g).e (exec n i' c' r' x.s.g).e:=by
      rcases hcc with ec | ⟨h7,v,s,hv,hs,hbv,hbit,ec⟩
      . subst ec; exact ⟨rfl,rfl,rfl,.refl _⟩
      . obtain ⟨b0,b1,a0,a1⟩:=hv7 h7
        have hval:gI r' s=gI x.s.g.vars v:=(hknows n t i' kn out r' v s A.thr A.pc A.regs hsol hv hs hbit).resolve_right (key v h7 hbv);have r4:=A.r4;rw [ex7 h7,hbv];rcases ec with ⟨ea,ec⟩ | ⟨_,ec⟩
        . subst ec
          refine ⟨rfl,?_,rfl,.inr ⟨rfl,.inl h7,.inl rfl⟩⟩;show r'=_;rw [ea,← hval,sI_back (by omega) (by omega)]
        . subst ec
          refine ⟨rfl,?_,rfl,.inr ⟨rfl,.inl h7,.inr rfl⟩⟩;show sI r' c.a (gI r' s)=_;rw [hval]
    obtain ⟨s1,s2,s3,s4⟩:=hsame;rw [s1,s2,s3,← hE];rw [← hE] at s4;have hnl:n < x.s.g.began.length:=by
      have:=(List.getElem?_eq_some_iff.1 A.thr).1;rw [hx.began]; exact this
    have hbn:x.s.g.began[n]?=some 1:=by
      have h1:x.s.g.began[n]?=some x.s.g.began[n]:=List.getElem?_eq_getElem hnl;have h2:gI x.s.g.began n=x.s.g.began[n]:=by unfold gI; rw [show ((n:Int)).toNat=n by omega,h1]; rfl
      rcases h.bit _ (List.getElem_mem hnl) with hb0 | hb0
      . exact absurd (h2.trans hb0) hnt.2
      . rw [h1,hb0]
    have hbg:=exec_began A.ok n i' r' x.s.g;refine ⟨rfl,by rw [h.picks],h.like.snoc s4,fun b hb2=>?_,fun m hm a ha=>?_,?_⟩
    . simp only at hb2
      rcases hbg with ⟨_,_,hg,_⟩ | ⟨_,hg⟩
      . rw [hg] at hb2
        rcases List.mem_or_eq_of_mem_set hb2 with hb2 | hb2
        . exact h.bit b hb2
        . exact .inr hb2
      . rw [hg] at hb2; exact h.bit b hb2
    . simp only at hm ha
      have hm0:x.s.g.began[m]?=some 0:=by
        rcases hbg with ⟨_,_,hg,_⟩ | ⟨_,hg⟩
        . rw [hg,qYp] at hm
          split at hm
          . split at hm
            . injection hm with hm; omega
            . cases hm
          . exact hm
        . rw [hg] at hm; exact hm
      have hmn:n≠m:=by rintro rfl; rw [hbn] at hm0; cases hm0
      rw [List.getElem?_set_ne hmn] at ha;exact h.fresh m hm0 a ha
    . rcases Classical.em ((exec n i' c r' x.s.g).g.trap=1) with htp | htp
      . exact .inl htp
      refine .inr fun m t2 i2 kn2 out2 r2 v s ht2 hat2 hr2 hsol2 hv hs hbit=>?_
      simp only at hat2 hr2;have hgo:c.op=12→E.obj=(m:Int)→x.s.g.began[m]?=some 0:=by
        intro h12 hob;rcases hbg with ⟨_,g1,_,g3⟩ | ⟨hne,_⟩
        . rw [g1] at htp
          rw [hE,g3] at hob;rw [hob] at htp;have hml:m < x.s.g.began.length:=by
            have:=(List.getElem?_eq_some_iff.1 ht2).1;rw [hx.began]; exact this
          have h1:x.s.g.began[m]?=some x.s.g.began[m]:=List.getElem?_eq_getElem hml;have h2:gI x.s.g.began m=x.s.g.began[m]:=by unfold gI; rw [show ((m:Int)).toNat=m by omega,h1]; rfl
          rcases h.bit _ (List.getElem_mem hml) with hb0 | hb0
          . rw [h1,hb0]
          . exact absurd (h2.trans hb0) htp
        . exact absurd h12 hne
      by_cases emn:n=m
      . subst emn
        rw [A.thr] at ht2; cases ht2;rw [List.getElem?_set_self (List.getElem?_eq_some_iff.1 A.pc).1] at hat2;rw [List.getElem?_set_self (List.getElem?_eq_some_iff.1 A.regs).1] at hr2
        injection hat2 with hat2
        injection hr2 with hr2
        have:i2=j:=by omega
        subst this;rw [← hr2];rcases known_next hsol2 (by omega:4 * v+s < 64) A.ins hjn hbit with hadd | ⟨htk,hold⟩
        . left
          rcases add_bit hv hs hadd with ⟨h7,hbv,has⟩ | ⟨h8,hav,hbs⟩
          . obtain ⟨_,_,a0,a1⟩:=hv7 h7
            have r4:=A.r4;rw [ex7 h7];show gI (sI r' c.a (gI x.s.g.vars c.b)) s=gI x.s.g.vars v;rw [has,qZd (by omega) (by omega),hbv]
          . obtain ⟨a0,a1,_,_⟩:=hv8 h8
            have hvl:(v:Int) < x.s.g.vars.length:=by rw [hx.vars]; omega
            rw [ex8 h8];show gI r' s=gI (sI x.s.g.vars c.a (gI r' c.b)) v;rw [hav,qZd (by omega) hvl,hbs]
        . obtain ⟨k1,k2,k3⟩:=take_bit hv hs htk
          have hreg:gI (exec n i' c r' x.s.g).r s=gI r' s:=by
            have d:=qTr A.ok (r:=r') (r':=r') (k:=n) (pc:=i') (g:=x.s.g) rfl fun _ _=>rfl
            have:=d.stay s k2;unfold gI; rw [show ((s:Int)).toNat=s by omega,this]
          have hvar:gI (exec n i' c r' x.s.g).g.vars v=gI x.s.g.vars v:=by
            by_cases h8:c.op=8
            . rw [ex8 h8]
              show gI (sI x.s.g.vars c.a (gI r' c.b)) v=_;obtain ⟨a0,a1,_,_⟩:=hv8 h8;have hne:v≠c.a.toNat:=fun e=>k3 ⟨h8,by omega⟩
              unfold gI;rw [show ((v:Int)).toNat=v by omega,qUz hne]
            . by_cases h7:c.op=7
              . rw [ex7 h7]
              . rw [(exec_vars A.ok h7 h8 n i' r' x.s.g []).2]
          rw [hreg,hvar];rcases hknows n t i' kn2 out2 r' v s A.thr A.pc A.regs hsol2 hv hs hold with hq1 | hw
          . exact .inl hq1
          . refine .inr (stale_carry hw rfl (fun _=>by rw [e2]; exact k1) fun h12 hob=>?_)
            have:=hgo (by rw [← e2]; exact h12) hob
            rw [hbn] at this; cases this
      . rw [List.getElem?_set_ne emn] at hat2 hr2
        have hst:=hknows m t2 i2 kn2 out2 r2 v s ht2 hat2 hr2 hsol2 hv hs hbit;have hthr2:E.thread=(m:Int)→qKe E.op=false:=fun he=>by rw [e1] at he; exact absurd he (by omega)
        have hgo2:E.op=12→E.obj≠(m:Int):=fun h12 hob=>by
          have h0:=hgo (by rw [← e2]; exact h12) hob
          have:=h.fresh m h0 _ hat2;have hi0:i2=0:=by omega
          subst hi0;rw [known_first hsol2 (by omega)] at hbit; cases hbit
        by_cases h8:c.op=8∧c.a=(v:Int)
        . right
          refine ⟨x.trace.length,E,by simp,by rw [e2,h8.1],by rw [hE,ex8 h8.1]; exact h8.2,by rw [e1]; omega,fun m2 d hm2 hd=>?_⟩
          have:=(List.getElem?_eq_some_iff.1 hd).1;simp at this; omega
        . have hvar:gI (exec n i' c r' x.s.g).g.vars v=gI x.s.g.vars v:=by
            by_cases h8':c.op=8
            . rw [ex8 h8']
              show gI (sI x.s.g.vars c.a (gI r' c.b)) v=_;obtain ⟨a0,a1,_,_⟩:=hv8 h8';have hne:v≠c.a.toNat:=fun e=>h8 ⟨h8',by omega⟩
              unfold gI;rw [show ((v:Int)).toNat=v by omega,qUz hne]
            . by_cases h7:c.op=7
              . rw [ex7 h7]
              . rw [(exec_vars A.ok h7 h8' n i' r' x.s.g []).2]
          rw [hvar];rcases hst with hq1 | hw
          . exact .inl hq1
          . exact .inr (stale_carry hw rfl hthr2 hgo2)
theorem loads_runs (hp:SoundP p) (hq:SoundP q) (hf:LdT p.threads outs) (hl:outs.length=p.threads.length) (hqe:q=thrP p outs) (hn:newM q=newM p) (ks:List Int) (hnr:qKf p (runR p ks).trace):LdI p (runR p ks) (runR q ks):=by
  have hth:=qKi hp ks
  suffices hh:∀ (l:List Int) (x y:RunR),Shape p x.s→Shape q y.s→LdI p x y→(l.foldl (qFz p) x).trace=(runR p ks).trace→LdI p (l.foldl (qFz p) x) (l.foldl (qFz q) y) by
    refine hh ks _ _ (qMk hp) (qMk hq) ⟨hn,rfl,.nil,fun b hb=>?_,fun k _ a ha=>?_,.inr fun k t i kn out r v s ht hat hr hsol hv hs hbit=>?_⟩ rfl
    . simp only [newM] at hb
      rcases List.mem_or_eq_of_mem_set hb with hb | hb
      . exact .inl (List.mem_replicate.1 hb).2
      . exact .inr hb
    . simp only [newM] at ha
      exact (List.mem_replicate.1 (List.mem_of_getElem? ha)).2
    . simp only [newM] at hat
      have:=(List.mem_replicate.1 (List.mem_of_getElem? hat)).2;have hi0:i=0:=by omega
      subst hi0;rw [known_first hsol (by omega)] at hbit; cases hbit
  intro l
  induction l with
  | nil=>intro x y _ _ h _; exact h
  | cons k l ih =>
    intro x y hx hy h hT;rw [List.foldl_cons] at hT ⊢;obtain ⟨rest,hr⟩:=run_pre p l (qFz p x k);rw [hT] at hr;have s1:Shape p (qFz p x k).s:=by
      unfold qFz
      split
      . exact (qHt hp hx k).1
      . exact hx
    have s2:Shape q (qFz q y k).s:=by
      unfold qFz
      split
      . exact (qHt hq hy k).1
      . exact hy
    exact ih _ _ s1 s2 (h.step hp hq hf hl hqe hx hy hnr hth k hr) hT
end
end Pm
