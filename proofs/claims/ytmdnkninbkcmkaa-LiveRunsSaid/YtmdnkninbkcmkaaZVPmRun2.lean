/- The run of a program: one instruction, without the program.
   No condition: plain lemmas. -/

import Derived.Test.YtmdnkninbkcmkaaZVPmSound4
import Derived.Test.YtmdnkninbkcmkaaZVPmLive3
namespace Pm
set_option linter.unusedSimpArgs false
set_option linter.unusedVariables false
open Go Am

structure G where
  began:List Int
  vars:List Int
  atoms:List Int
  locks:List Int
  queue:List (List Int)
  closed:List Int
  groups:List Int
  onces:List Int
  told:List Int
  trap:Int
structure Ev where
  thread:Int
  pc:Int
  op:Nat
  obj:Int
  value:Int
  mode:Int
def gI (l:List Int) (x:Int):Int:=l[x.toNat]?.getD 0
def sI (l:List Int) (x v:Int):List Int:=l.set x.toNat v
def gL (l:List (List Int)) (x:Int):List Int:=l[x.toNat]?.getD []
def w64 (x:Int):Int:=IntKind.i64.wrap x
def numI (b:Bool):Int:=if b=true then 1 else 0
structure Xr where
  pc:Int
  r:List Int
  g:G
  e:Ev
def qCn (k pc:Int) (i:Ins) (r:List Int) (g:G):Xr :=
  let e:Ev:=⟨k,pc,i.op,i.a,0,0⟩
  match i.op with
  | 12=>⟨pc+1,r,{ g with trap:=gI g.began i.a,began:=sI g.began i.a 1 },e⟩
  | 13=>⟨pc+1,r,{ g with locks:=sI g.locks i.a (-1) },e⟩
  | 14=>⟨pc+1,r,if gI g.locks i.a=-1 then { g with trap:=0,locks:=sI g.locks i.a 0 } else { g with trap:=1 },e⟩
  | 15=>⟨pc+1,r,{ g with locks:=sI g.locks i.a (w64 (gI g.locks i.a+1)) },e⟩
  | 16=>⟨pc+1,r,if gI g.locks i.a < 1 then { g with trap:=1 } else { g with trap:=0,locks:=sI g.locks i.a (w64 (gI g.locks i.a - 1)) },e⟩
  | 18=>⟨pc+1,r,{ g with atoms:=sI g.atoms i.a (gI r i.b) },{ e with value:=gI r i.b }⟩
  | 20=>⟨pc+1,r,if gI g.closed i.a=0 then { g with trap:=0,queue:=g.queue.set i.a.toNat (gL g.queue i.a++[gI r i.b]) } else { g with trap:=gI g.closed i.a },{ e with value:=gI r i.b }⟩
  | 23=>⟨pc+1,r,{ g with trap:=gI g.closed i.a,closed:=sI g.closed i.a 1 },e⟩
  | 24=>⟨pc+1,r,if w64 (gI g.groups i.a+i.b) < 0 then { g with trap:=1 } else { g with trap:=0,groups:=sI g.groups i.a (w64 (gI g.groups i.a+i.b)) },{ e with value:=i.b }⟩
  | 27=>⟨pc+1,r,if gI g.onces i.a=1 then { g with trap:=0,onces:=sI g.onces i.a 2 } else { g with trap:=1 },e⟩
  | 17=>⟨pc+1,sI r i.a (gI g.atoms i.b),g,{ e with obj:=i.b,value:=gI g.atoms i.b }⟩
  | 19=>⟨pc+1,sI r i.a (gI g.atoms i.b),{ g with atoms:=sI g.atoms i.b (w64 (gI g.atoms i.b+gI r i.c)) },{ e with obj:=i.b,value:=gI g.atoms i.b }⟩
  | 21=>match gL g.queue i.b with
    | v :: q=>⟨pc+1,sI r i.a v,{ g with queue:=g.queue.set i.b.toNat q },{ e with obj:=i.b,value:=v,mode:=1 }⟩
    | []=>⟨pc+1,sI r i.a 0,g,{ e with obj:=i.b,mode:=if gI g.closed i.b=1 then 2 else 0 }⟩
  | 22=>match gL g.queue i.b with
    | v :: q=>⟨pc+1,sI (sI r i.a v) i.c 1,{ g with queue:=g.queue.set i.b.toNat q },{ e with obj:=i.b,value:=v,mode:=1 }⟩
    | []=>⟨pc+1,sI (sI r i.a 0) i.c 0,g,{ e with obj:=i.b,mode:=if gI g.closed i.b=1 then 2 else 0 }⟩
  | 26=>if gI g.onces i.b=0 then ⟨pc+1,sI r i.a 1,{ g with onces:=sI g.onces i.b 1 },{ e with obj:=i.b,mode:=1 }⟩ else ⟨pc+1,sI r i.a 0,g,{ e with obj:=i.b }⟩
  | 25=>⟨pc+1,r,g,e⟩
  | _=>⟨pc+1,r,g,{ e with obj:=0 }⟩
def exec (k pc:Int) (i:Ins) (r:List Int) (g:G):Xr :=
  let e:Ev:=⟨k,pc,i.op,0,0,0⟩
  match i.op with
  | 1=>⟨pc+1,sI r i.a i.b,g,e⟩
  | 2=>⟨pc+1,sI r i.a (gI r i.b),g,e⟩
  | 3=>⟨pc+1,sI r i.a (w64 (gI r i.b+gI r i.c)),g,e⟩
  | 4=>⟨pc+1,sI r i.a (w64 (gI r i.b - gI r i.c)),g,e⟩
  | 5=>⟨pc+1,sI r i.a (w64 (gI r i.b * gI r i.c)),g,e⟩
  | 6=>⟨pc+1,sI r i.a (numI (decide (gI r i.b < gI r i.c))),g,e⟩
  | 7=>⟨pc+1,sI r i.a (gI g.vars i.b),g,{ e with obj:=i.b,value:=gI g.vars i.b }⟩
  | 8=>⟨pc+1,r,{ g with vars:=sI g.vars i.a (gI r i.b) },{ e with obj:=i.a,value:=gI r i.b }⟩
  | 9=>⟨pc+1,r,{ g with told:=g.told++[gI r i.a] },{ e with value:=gI r i.a }⟩
  | 10=>⟨i.a,r,g,e⟩
  | 11=>⟨if gI r i.a=0 then i.b else pc+1,r,g,e⟩
  | _=>qCn k pc i r g

/-! ### What an instruction reads and sets -/
theorem regs_bit {w:Nat} {i:Ins} {j:Nat}:∀ n,(qHa w i n).testBit j=true↔∃ k,k < n∧qCp i.op k=w∧(bitN (qHs i k)).testBit j=true
  | 0=>by simp [qHa]
  | n+1=>by
    rw [qLf];have ih:=regs_bit (w:=w) (i:=i) (j:=j) n
    split
    . rename_i h
      rw [Nat.testBit_or,Bool.or_eq_true,ih];constructor
      . rintro (⟨k,h1,h2,h3⟩ | h3)
        . exact ⟨k,by omega,h2,h3⟩
        . exact ⟨n,by omega,h,h3⟩
      . rintro ⟨k,h1,h2,h3⟩
        rcases Nat.lt_or_ge k n with h4 | h4
        . exact .inl ⟨k,h4,h2,h3⟩
        . obtain rfl:k=n:=by omega
          exact .inr h3
    . rename_i h
      rw [ih];constructor
      . rintro ⟨k,h1,h2,h3⟩; exact ⟨k,by omega,h2,h3⟩
      . rintro ⟨k,h1,h2,h3⟩
        rcases Nat.lt_or_ge k n with h4 | h4
        . exact ⟨k,h4,h2,h3⟩
        . obtain rfl:k=n:=by omega
          exact absurd h2 h
theorem bitN_bit4 {x:Int} (h0:0≤x) (h4:x < 4) {j:Nat}:(bitN x).testBit j=true↔j=x.toNat:=by
  unfold bitN;rw [if_pos ⟨h0,by omega⟩,Nat.testBit_two_pow]
  simp [eq_comm]
theorem InsOk.numOf {p:Prog} {n:Nat} {i:Ins} (h:InsOk p n i) {k:Nat} (hk:k < 3):qRp p n (qCp i.op k) (qHs i k):=by
  have:k=0∨k=1∨k=2:=by omega
  rcases this with rfl | rfl | rfl
  . exact h.a
  . exact h.b
  . exact h.c
theorem InsOk.reg {p:Prog} {n:Nat} {i:Ins} (h:InsOk p n i) {k w:Nat} (hk:k < 3) (hw:qCp i.op k=w) (h23:w=2∨w=3):0≤qHs i k∧qHs i k < 4:=by
  have:=h.numOf hk;rw [hw] at this;have h2:=this.2 (by omega) (by omega)
  have e:qFp p n w=4:=by unfold qFp; rw [if_pos h23]
  rw [e] at h2;exact ⟨h2.1,h2.2.1⟩
theorem InsOk.bit {p:Prog} {n:Nat} {i:Ins} (h:InsOk p n i) {w j:Nat} (h23:w=2∨w=3):(qHa w i 3).testBit j=true↔∃ k,k < 3∧qCp i.op k=w∧j=(qHs i k).toNat:=by
  rw [regs_bit];constructor
  . rintro ⟨k,h1,h2,h3⟩
    obtain ⟨g1,g2⟩:=h.reg h1 h2 h23;exact ⟨k,h1,h2,(bitN_bit4 g1 g2).1 h3⟩
  . rintro ⟨k,h1,h2,h3⟩
    obtain ⟨g1,g2⟩:=h.reg h1 h2 h23;exact ⟨k,h1,h2,(bitN_bit4 g1 g2).2 h3⟩
theorem three (P:Nat→Prop):(∃ k,k < 3∧P k)↔P 0∨P 1∨P 2:=by
  constructor
  . rintro ⟨k,h1,h2⟩
    have:k=0∨k=1∨k=2:=by omega
    rcases this with rfl | rfl | rfl
    . exact .inl h2
    . exact .inr (.inl h2)
    . exact .inr (.inr h2)
  . rintro (h | h | h)
    . exact ⟨0,by omega,h⟩
    . exact ⟨1,by omega,h⟩
    . exact ⟨2,by omega,h⟩
theorem InsOk.reads {p:Prog} {n:Nat} {i:Ins} (h:InsOk p n i) {r r':List Int} (hr:∀ j:Nat,(qEk i).testBit j=true→r[j]?=r'[j]?) :
    (qCp i.op 0=3→gI r i.a=gI r' i.a)∧(qCp i.op 1=3→gI r i.b=gI r' i.b)∧(qCp i.op 2=3→gI r i.c=gI r' i.c):=by
  refine ⟨fun hw=>?_,fun hw=>?_,fun hw=>?_⟩<;>unfold gI
  . have e:r[i.a.toNat]?=r'[i.a.toNat]?:=hr _ ((h.bit (.inr rfl)).2 ⟨0,by omega,hw,rfl⟩)
    rw [e]
  . have e:r[i.b.toNat]?=r'[i.b.toNat]?:=hr _ ((h.bit (.inr rfl)).2 ⟨1,by omega,hw,rfl⟩)
    rw [e]
  . have e:r[i.c.toNat]?=r'[i.c.toNat]?:=hr _ ((h.bit (.inr rfl)).2 ⟨2,by omega,hw,rfl⟩)
    rw [e]
theorem qPq (l:List Int) (x v:Int):(sI l x v).length=l.length:=by simp [sI]
theorem qUv (l:List Int) (x v:Int) (j:Nat):(sI l x v)[j]?=if j=x.toNat then (if j < l.length then some v else none) else l[j]?:=by
  unfold sI;rw [List.getElem?_set]
  by_cases h:j=x.toNat
  . subst h; simp
  . rw [if_neg h,if_neg (Ne.symm h)]
theorem qPy {r r':List Int} (hl:r.length=r'.length) {x v:Int} {j:Nat} (h:r[j]?=r'[j]?∨j=x.toNat):(sI r x v)[j]?=(sI r' x v)[j]?:=by
  rw [qUv,qUv,hl]
  split
  . rfl
  . rename_i hn
    rcases h with h | h
    . exact h
    . exact absurd h hn
theorem qTx {r:List Int} {x v:Int} {j:Nat} (h:j≠x.toNat):(sI r x v)[j]?=r[j]?:=by rw [qUv,if_neg h]
theorem sI_two {r r':List Int} (hl:r.length=r'.length) {x v y u:Int} {j:Nat} (h:r[j]?=r'[j]?∨j=x.toNat∨j=y.toNat):(sI (sI r x v) y u)[j]?=(sI (sI r' x v) y u)[j]?:=by
  refine qPy (by rw [qPq,qPq,hl]) ?_
  rcases h with h | h | h
  . exact .inl (qPy hl (.inl h))
  . exact .inl (qPy hl (.inr h))
  . exact .inr h
structure Dep (r r':List Int) (s:Nat) (x x':Xr):Prop where
  pc:x.pc=x'.pc
  g:x.g=x'.g
  e:x.e=x'.e
  regs:∀ j:Nat,(r[j]?=r'[j]?∨s.testBit j=true)→x.r[j]?=x'.r[j]?
  len:x.r.length=r.length
  stay:∀ j:Nat,s.testBit j=false→x.r[j]?=r[j]?
theorem qQu {p:Prog} {n:Nat} {i:Ins} (ho:InsOk p n i) {r r':List Int} (hl:r.length=r'.length) {k pc:Int} {g:G} (hr:∀ j:Nat,(qEk i).testBit j=true→r[j]?=r'[j]?):Dep r r' (qDx i) (exec k pc i r g) (exec k pc i r' g):=by
  obtain ⟨u0,u1,u2⟩:=ho.reads hr;have hs:∀ j:Nat,(qDx i).testBit j=true↔∃ k,k < 3∧qCp i.op k=2∧j=(qHs i k).toNat:=fun j=>ho.bit (.inl rfl)
  simp only [three] at hs;have h27:=ho.op;clear ho hr;obtain ⟨op,a,b,c⟩:=i;obtain ⟨s,hse⟩:∃ s,s=qDx ⟨op,a,b,c⟩:=⟨_,rfl⟩;rw [← hse] at hs ⊢;clear hse;have n0:qHs ⟨op,a,b,c⟩ 0=a:=rfl;have n1:qHs ⟨op,a,b,c⟩ 1=b:=rfl;have n2:qHs ⟨op,a,b,c⟩ 2=c:=rfl;simp only [n0,n1,n2] at hs;simp only at u0 u1 u2 hs h27;clear n0 n1 n2;rcases qOg h27 with rfl | rfl | rfl | rfl | rfl | rfl | rfl | rfl | rfl | rfl | rfl | rfl | rfl | rfl | rfl | rfl | rfl | rfl | rfl | rfl | rfl | rfl | rfl | rfl | rfl | rfl | rfl | rfl <;>
    simp [qCp,qHx] at u0 u1 u2 hs
  all_goals
    try simp only [exec,qCn,u0,u1,u2]
  all_goals
    repeat' split
  all_goals
    refine ⟨?_,?_,?_,fun j h=>?_,?_,fun j h=>?_⟩
  all_goals
    first
    | rfl
    | (refine h.elim id fun h=>?_; rw [hs] at h; exact absurd h (by simp))
    | exact qPy hl (h.imp id (hs j).1)
    | exact sI_two hl (h.imp id (hs j).1)
    | exact qPq _ _ _
    | exact (qPq _ _ _).trans (qPq _ _ _)
    | exact qTx fun e=>by have:=(hs j).2 e; rw [h] at this; cases this
    | exact (qTx fun e=>by have:=(hs j).2 (.inr e); rw [h] at this; cases this).trans (qTx fun e=>by have:=(hs j).2 (.inl e); rw [h] at this; cases this)
end Pm

/- The run of a program: its states and steps; two runs side by side; without the program.
   No condition: plain lemmas. -/

namespace Pm
set_option linter.unusedSimpArgs false
set_option linter.unusedVariables false
open Go Am

theorem next_mem {i:Nat} {c:Ins}:(c.op=10→c.a∈qDr i c)∧(c.op=11→c.b∈qDr i c)∧(c.op≠10→((i+1:Nat):Int)∈qDr i c):=by
  have h2:∀ x y:Int,x∈qJy (srt [x,y])∧y∈qJy (srt [x,y]):=by
    intro x y;unfold srt;simp only
    split
    . unfold qJy; simp only; split
      . rename_i h; subst h; simp
      . simp
    . unfold qJy; simp only; split
      . rename_i h; subst h; simp
      . simp
  refine ⟨fun h=>?_,fun h=>?_,fun h=>?_⟩
  . unfold qDr
    rw [if_pos h];simp [srt,qJy]
  . unfold qDr
    rw [if_neg (by omega),if_pos h]
    exact (h2 _ _).2
  . unfold qDr
    rw [if_neg h]
    split
    . exact (h2 _ _).1
    . simp [srt,qJy]
theorem InsOk.place {p:Prog} {n:Nat} {i:Ins} (h:InsOk p n i) {k:Nat} (hk:k < 3) (hw:qCp i.op k=5):0≤qHs i k∧qHs i k≤n:=by
  have:=h.numOf hk;rw [hw] at this;have h2:=this.2 (by omega) (by omega)
  have e:qFp p n 5=n+1:=rfl;rw [e] at h2;exact ⟨h2.1,by omega⟩
theorem qOo {p:Prog} {n i:Nat} {c:Ins} (ho:InsOk p n c) (hi:i < n) (k:Int) (r:List Int) (g:G):∃ j:Nat,(exec k i c r g).pc=j∧(j:Int)∈qDr i c∧j≤n:=by
  obtain ⟨m1,m2,m3⟩:=next_mem (i:=i) (c:=c);have h27:=ho.op;have on:c.op≠10→c.op≠11→(exec k i c r g).pc=((i+1:Nat):Int):=by
    intro n1 n2;obtain ⟨op,a,b,d⟩:=c;simp only at h27 n1 n2;rcases qOg h27 with rfl | rfl | rfl | rfl | rfl | rfl | rfl | rfl | rfl | rfl | rfl | rfl | rfl | rfl | rfl | rfl | rfl | rfl | rfl | rfl | rfl | rfl | rfl | rfl | rfl | rfl | rfl | rfl
    all_goals first
      | exact absurd rfl n1
      | exact absurd rfl n2
      | rfl
      | (simp only [exec,qCn]; split<;>rfl)
  by_cases h10:c.op=10
  . obtain ⟨h0,h1⟩:=ho.place (k:=0) (by omega) (by rw [h10]; rfl)
    have e:qHs c 0=c.a:=rfl;rw [e] at h0 h1;refine ⟨c.a.toNat,?_,?_,by omega⟩
    . unfold exec; rw [h10]; simp only; omega
    . rw [show ((c.a.toNat:Nat):Int)=c.a by omega]; exact m1 h10
  . by_cases h11:c.op=11
    . obtain ⟨h0,h1⟩:=ho.place (k:=1) (by omega) (by rw [h11]; rfl)
      have e:qHs c 1=c.b:=rfl;rw [e] at h0 h1
      by_cases hz:gI r c.a=0
      . refine ⟨c.b.toNat,?_,?_,by omega⟩
        . unfold exec; rw [h11]; simp only; rw [if_pos hz]; omega
        . rw [show ((c.b.toNat:Nat):Int)=c.b by omega]; exact m2 h11
      . refine ⟨i+1,?_,m3 h10,by omega⟩
        unfold exec; rw [h11]; simp only; rw [if_neg hz]; omega
    . exact ⟨i+1,on h10 h11,m3 h10,by omega⟩

/-! ### States -/
structure MS where
  at_:List Int
  r:List (List Int)
  g:G
def qDf (chans:List Int) (g:G) (i:Ins):Bool :=
  match i.op with
  | 13=>decide (gI g.locks i.a≠0)
  | 15=>decide (gI g.locks i.a=-1)
  | 20=>decide (gI g.closed i.a=0∧((gL g.queue i.a).length:Int)=gI chans i.a)
  | 21=>decide (gI g.closed i.b=0∧(gL g.queue i.b).length=0)
  | 25=>decide (0 < gI g.groups i.a)
  | 26=>decide (gI g.onces i.b=1)
  | _=>false
def insAt (p:Prog) (s:MS) (k:Nat):Option Ins:=(p.threads[k]?).bind fun t=>(s.at_[k]?).bind fun a=>t[a.toNat]?
def canM (p:Prog) (s:MS) (k:Int):Bool :=
  decide (0≤k) && decide (k < s.at_.length) && decide (gI s.g.began k≠0) && decide (s.g.trap≠1) && match insAt p s k.toNat with | some i=>!qDf p.chans s.g i | none=>false
def goM (p:Prog) (s:MS) (k:Int) (i:Ins):Xr:=exec k (gI s.at_ k) i (gL s.r k) s.g
def ev0:Ev:=⟨0,0,0,0,0,0⟩
def qIo (p:Prog) (s:MS) (k:Int):MS×Ev×Bool :=
  if canM p s k=true then
    match insAt p s k.toNat with
    | some i=>let x:=goM p s k i; (⟨sI s.at_ k x.pc,s.r.set k.toNat x.r,x.g⟩,x.e,true)
    | none=>(s,ev0,false)
  else (s,ev0,false)
theorem canM_ins {p:Prog} {s:MS} {k:Int} (h:canM p s k=true):∃ n:Nat,k=n∧n < s.at_.length∧∃ i,insAt p s n=some i∧qDf p.chans s.g i=false:=by
  unfold canM at h;simp only [Bool.and_eq_true,decide_eq_true_eq] at h;obtain ⟨⟨⟨⟨h0,h1⟩,h2⟩,h3⟩,h4⟩:=h;refine ⟨k.toNat,by omega,by omega,?_⟩
  cases hi:insAt p s k.toNat with
  | none=>rw [hi] at h4; cases h4
  | some i=>rw [hi] at h4; exact ⟨i,rfl,by simpa using h4⟩
theorem stepM_go {p:Prog} {s:MS} {k:Int} {i:Ins} (h:canM p s k=true) (hi:insAt p s k.toNat=some i):qIo p s k=(⟨sI s.at_ k (goM p s k i).pc,s.r.set k.toNat (goM p s k i).r,(goM p s k i).g⟩,(goM p s k i).e,true):=by
  unfold qIo;rw [if_pos h,hi]
theorem qNo {p:Prog} {s:MS} {k:Int} (h:canM p s k=false):qIo p s k=(s,ev0,false):=by
  unfold qIo;rw [if_neg (by rw [h]; simp)]
theorem insAt_of {p:Prog} {s:MS} {k:Nat} {i:Ins} (h:insAt p s k=some i):∃ t a,p.threads[k]?=some t∧s.at_[k]?=some a∧t[a.toNat]?=some i:=by
  unfold insAt at h;cases ht:p.threads[k]? with
  | none=>rw [ht] at h; cases h
  | some t =>
    rw [ht] at h;simp only [Option.bind_some] at h;cases ha:s.at_[k]? with
    | none=>rw [ha] at h; cases h
    | some a=>rw [ha] at h; exact ⟨t,a,rfl,rfl,h⟩

/-! ### States that may be -/
structure Shape (p:Prog) (s:MS):Prop where
  at_:s.at_.length=p.threads.length
  r:s.r.length=p.threads.length
  r4:∀ x∈s.r,x.length=4
  pc:∀ (k:Nat) (a:Int) (t:List Ins),s.at_[k]?=some a→p.threads[k]?=some t→0≤a∧a≤t.length
  began:s.g.began.length=p.threads.length
  vars:(s.g.vars.length:Int)=p.vars
  atoms:(s.g.atoms.length:Int)=p.atoms
  locks:(s.g.locks.length:Int)=p.locks
  groups:(s.g.groups.length:Int)=p.groups
  onces:(s.g.onces.length:Int)=p.onces
  queue:s.g.queue.length=p.chans.length
  closed:s.g.closed.length=p.chans.length
  room:∀ (j:Nat) (l:List Int),s.g.queue[j]?=some l→(l.length:Int)≤gI p.chans j
structure Kin (chans:List Int) (g g':G):Prop where
  began:g'.began.length=g.began.length
  vars:g'.vars.length=g.vars.length
  atoms:g'.atoms.length=g.atoms.length
  locks:g'.locks.length=g.locks.length
  groups:g'.groups.length=g.groups.length
  onces:g'.onces.length=g.onces.length
  queue:g'.queue.length=g.queue.length
  closed:g'.closed.length=g.closed.length
  told:g'.told.length≤g.told.length+1
  room:(∀ (j:Nat) (l:List Int),g.queue[j]?=some l→(l.length:Int)≤gI chans j)→∀ (j:Nat) (l:List Int),g'.queue[j]?=some l→(l.length:Int)≤gI chans j
theorem Kin.refl (chans:List Int) (g:G):Kin chans g g:=⟨rfl,rfl,rfl,rfl,rfl,rfl,rfl,rfl,by omega,fun h=>h⟩
theorem room_set {chans:List Int} {q:List (List Int)} {x:Int} (hx:0≤x) {l':List Int} (hl:(l'.length:Int)≤gI chans x) (h:∀ (j:Nat) (l:List Int),q[j]?=some l→(l.length:Int)≤gI chans j) :
    ∀ (j:Nat) (l:List Int),(q.set x.toNat l')[j]?=some l→(l.length:Int)≤gI chans j:=by
  intro j l hj;rw [List.getElem?_set] at hj
  split at hj
  . rename_i e
    split at hj
    . cases hj
      have:(j:Int)=x:=by omega
      rw [this]; exact hl
    . cases hj
  . exact h j l hj
theorem qSn {q:List (List Int)} {x:Int} (h0:0≤x) (h:x < q.length):q[x.toNat]?=some (gL q x):=by
  have hl:x.toNat < q.length:=by omega
  unfold gL;rw [List.getElem?_eq_getElem hl]
  rfl
theorem room_snoc {chans:List Int} {q:List (List Int)} {x v:Int} (hx:0≤x∧x < q.length) (hc:¬ ((gL q x).length:Int)=gI chans x) (h:∀ (j:Nat) (l:List Int),q[j]?=some l→(l.length:Int)≤gI chans j) :
    ∀ (j:Nat) (l:List Int),(q.set x.toNat (gL q x++[v]))[j]?=some l→(l.length:Int)≤gI chans j:=by
  refine room_set hx.1 ?_ h;have:=h _ _ (qSn hx.1 hx.2);rw [show ((x.toNat:Nat):Int)=x by omega] at this
  simp;omega
theorem room_tail {chans:List Int} {q:List (List Int)} {x v:Int} {l:List Int} (hx:0≤x∧x < q.length) (hc:gL q x=v :: l) (h:∀ (j:Nat) (l:List Int),q[j]?=some l→(l.length:Int)≤gI chans j) :
    ∀ (j:Nat) (l':List Int),(q.set x.toNat l)[j]?=some l'→(l'.length:Int)≤gI chans j:=by
  refine room_set hx.1 ?_ h;have:=h _ _ (qSn hx.1 hx.2);rw [show ((x.toNat:Nat):Int)=x by omega,hc] at this
  simp at this;omega
theorem exec_kin {p:Prog} {n:Nat} {i:Ins} (ho:InsOk p n i) {k pc:Int} {r:List Int} {g:G} (hb:qDf p.chans g i=false) (hq:g.queue.length=p.chans.length):Kin p.chans g (exec k pc i r g).g:=by
  have h27:=ho.op;have w9:∀ k,k < 3→qCp i.op k=9→0≤qHs i k∧qHs i k < p.chans.length:=by
    intro k hk hw;have:=ho.numOf hk;rw [hw] at this;have h2:=this.2 (by omega) (by omega)
    exact ⟨h2.1,h2.2.1⟩
  obtain ⟨op,a,b,c⟩:=i;have w0:=w9 0 (by omega)
  have w1:=w9 1 (by omega)
  have e0:qHs ⟨op,a,b,c⟩ 0=a:=rfl;have e1:qHs ⟨op,a,b,c⟩ 1=b:=rfl;rw [e0] at w0;rw [e1] at w1;clear w9 e0 e1 ho;simp only at h27 w0 w1;rcases qOg h27 with rfl | rfl | rfl | rfl | rfl | rfl | rfl | rfl | rfl | rfl | rfl | rfl | rfl | rfl | rfl | rfl | rfl | rfl | rfl | rfl | rfl | rfl | rfl | rfl | rfl | rfl | rfl | rfl
  all_goals simp [qCp,qHx] at w0 w1
  all_goals simp only [exec,qCn]
  all_goals repeat' split
  all_goals first
    | exact Kin.refl _ _
    | (refine ⟨?_,?_,?_,?_,?_,?_,?_,?_,?_,?_⟩<;>first | exact qPq _ _ _ | rfl | exact Nat.le_succ _ | (simp; done) | exact fun h=>h | skip)
  . refine room_snoc (by omega) fun e=>?_
    rename_i hz;simp [qDf,hz,e] at hb
  . exact room_tail (by omega) (by assumption)
  . exact room_tail (by omega) (by assumption)
theorem exec_r4 {p:Prog} {n:Nat} {i:Ins} (ho:InsOk p n i) (k pc:Int) (r:List Int) (g:G):(exec k pc i r g).r.length=r.length:=(qQu ho (r:=r) (r':=r) rfl fun _ _=>rfl).len
structure At (p:Prog) (s:MS) (k:Nat) (t:List Ins) (i:Nat) (c:Ins) (r:List Int):Prop where
  thr:p.threads[k]?=some t
  pc:s.at_[k]?=some (i:Int)
  ins:t[i]?=some c
  regs:s.r[k]?=some r
  r4:r.length=4
  ok:InsOk p t.length c
  gpc:gI s.at_ k=i
  gr:gL s.r k=r
theorem Shape.at' {p:Prog} {s:MS} (hp:SoundP p) (h:Shape p s) {k:Int} (hc:canM p s k=true):∃ (n:Nat) (t:List Ins) (i:Nat) (c:Ins) (r:List Int),k=n∧At p s n t i c r∧qDf p.chans s.g c=false∧qIo p s k=(⟨s.at_.set n (exec n i c r s.g).pc,s.r.set n (exec n i c r s.g).r,(exec n i c r s.g).g⟩,(exec n i c r s.g).e,true):=by
  obtain ⟨n,rfl,hn,c,hi,hb⟩:=canM_ins hc;obtain ⟨t,a,h1,h2,h3⟩:=insAt_of hi;obtain ⟨g0,g1⟩:=h.pc n a t h2 h1;obtain ⟨i,rfl⟩:∃ i:Nat,a=i:=⟨a.toNat,by omega⟩
  have hnr:n < s.r.length:=by rw [h.r,← h.at_]; exact hn
  have hr:s.r[n]?=some s.r[n]:=List.getElem?_eq_getElem hnr;have hg:gI s.at_ (n:Int)=i:=by unfold gI; rw [show ((n:Int)).toNat=n by omega,h2]; rfl
  have hgr:gL s.r (n:Int)=s.r[n]:=by unfold gL; rw [show ((n:Int)).toNat=n by omega,hr]; rfl
  have hins:insAt p s ((n:Int)).toNat=some c:=hi;refine ⟨n,t,i,c,s.r[n],rfl,⟨h1,h2,h3,hr,h.r4 _ (List.getElem_mem _),((hp.code t (List.mem_of_getElem? h1)).2 c (List.mem_of_getElem? h3)),hg,hgr⟩,hb,?_⟩;rw [stepM_go hc hins];unfold goM sI;rw [hg,hgr]
  rfl
theorem qHd {p:Prog} {s:MS} (hp:SoundP p) (h:Shape p s) (k:Int):Shape p (qIo p s k).1∧(qIo p s k).1.g.told.length≤s.g.told.length+1:=by
  cases hc:canM p s k with
  | false=>rw [qNo hc]; exact ⟨h,Nat.le_succ _⟩
  | true =>
    obtain ⟨n,t,i,c,r,rfl,A,hb,e⟩:=h.at' hp hc;rw [e];have hk:=exec_kin A.ok (k:=n) (pc:=i) (r:=r) hb h.queue;have hr:=exec_r4 A.ok n i r s.g;obtain ⟨j,hj,_,hjl⟩:=qOo A.ok (List.getElem?_eq_some_iff.1 A.ins).1 n r s.g;refine ⟨⟨by simp [h.at_],by simp [h.r],fun x hx=>?_,fun m a t' h1 h2=>?_,by rw [hk.began,h.began],by rw [hk.vars,h.vars],by rw [hk.atoms,h.atoms],by rw [hk.locks,h.locks],by rw [hk.groups,h.groups],by rw [hk.onces,h.onces],by rw [hk.queue,h.queue],by rw [hk.closed,h.closed],hk.room h.room⟩,hk.told⟩
    . rcases List.mem_or_eq_of_mem_set hx with hx | rfl
      . exact h.r4 x hx
      . rw [hr,A.r4]
    . rw [List.getElem?_set] at h1
      split at h1
      . rename_i e
        subst e
        split at h1
        . cases h1
          rw [A.thr] at h2; cases h2;rw [hj]; omega
        . cases h1
      . exact h.pc m a t' h1 h2
/-! ### Where a run begins -/
def newM (p:Prog):MS :=
  let n:=p.threads.length
  ⟨List.replicate n 0,List.replicate n [0,0,0,0],⟨(List.replicate n 0).set 0 1,List.replicate p.vars.toNat 0,List.replicate p.atoms.toNat 0,List.replicate p.locks.toNat 0,List.replicate p.chans.length [],List.replicate p.chans.length 0,List.replicate p.groups.toNat 0,List.replicate p.onces.toNat 0,[],0⟩⟩
theorem newM_shape {p:Prog} (hp:SoundP p):Shape p (newM p):=by
  have h1:=hp.vars; have h2:=hp.atoms; have h3:=hp.locks; have h4:=hp.groups; have h5:=hp.onces;unfold In4 at h2 h3 h4 h5;refine ⟨by simp [newM],by simp [newM],fun x hx=>?_,fun k a t hk ht=>?_,by simp [newM],by simp [newM]; omega,by simp [newM]; omega,by simp [newM]; omega,by simp [newM]; omega,by simp [newM]; omega,by simp [newM],by simp [newM],fun j l hj=>?_⟩
  . simp only [newM] at hx
    rw [(List.mem_replicate.1 hx).2]; rfl
  . have:a=0:=by
      simp only [newM] at hk;have:=List.mem_of_getElem? hk;exact (List.mem_replicate.1 this).2
    subst this;omega
  . have hl:l=[]:=by
      simp only [newM] at hj;exact (List.mem_replicate.1 (List.mem_of_getElem? hj)).2
    have hlt:j < p.chans.length:=by
      have:=(List.getElem?_eq_some_iff.1 hj).1
      simpa [newM] using this
    have hc:=hp.chan _ (List.getElem_mem hlt);have hg:gI p.chans j=p.chans[j]:=by unfold gI; rw [show ((j:Int)).toNat=j by omega,List.getElem?_eq_getElem hlt]; rfl
    rw [hl,hg];simp; omega
def runM (p:Prog) (s:MS) (ks:List Int):MS:=ks.foldl (fun s k=>(qIo p s k).1) s
def qMe (p:Prog) (s:MS) (k:Nat):Prop:=gI s.g.began k=1→∀ t,p.threads[k]?=some t→(t.length:Int)≤gI s.at_ k
open Classical in
noncomputable def qHe (p:Prog) (s:MS):Nat :=
  if s.g.trap=1 then 3 else if ∃ k:Nat,k < s.at_.length∧canM p s k=true then 0 else if ∀ k:Nat,k < s.at_.length→qMe p s k then 1 else 2
end Pm
