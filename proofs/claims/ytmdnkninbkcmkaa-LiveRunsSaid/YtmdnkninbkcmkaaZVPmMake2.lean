/- A program out of choices.
   No condition: plain lemmas. -/
import Derived.Test.YtmdnkninbkcmkaaZVPmCfgC
import Derived.Test.YtmdnkninbkcmkaaZVPmSuccs
namespace Pm
set_option linter.unusedSimpArgs false
set_option linter.unusedVariables false
open Go Am
open Go.Proofs.Try (prog)

section
variable {h g : Heap} {e ver n : Nat} {rw : Bool} {z cs : List Value}
theorem qDm (hz:z.length=n) (hc:cs.length=n) (hl:cs.all cellLike=true):qCm (h++Ob.row ⟨z,e,ver,true⟩ :: g) n (.pointer (some ⟨h.length,0,some ver⟩)) (.agg cs.toArray)=some (h++Ob.row ⟨cs,e,ver,true⟩ :: g):=by
  have h1:setAll z 0 cs=cs:=by
    rw [qFk _ _ _ (by omega)]
    unfold over;rw [List.take_zero,List.nil_append,List.drop_eq_nil_of_le (by omega),List.append_nil]
  simp [qCm,cellsOf,hl,Heap.row?,hz,hc,h1]
theorem qDn (hc:cs.length=n):(h++Ob.row ⟨cs,e,ver,rw⟩ :: g).cells? h.length 0 ver n=some cs:=by
  simp [Heap.cells?,Heap.row?,hc,List.take_of_length_le]
end

def opsL:List Nat:=[7,8,9,1,3,7,8,9,13,14,15,16,17,18,19,20,21,22,23,24,25,26,27,11,10,0,2,4,5,6,7,8,13,14,9,8]
def qOi (a b:Nat) (at_ n:Int):Ins :=
  let o:=opsL[a % 36]?.getD 0
  let r:Int:=(b % 4:Nat)
  let q:Int:=(b / 4 % 4:Nat)
  let x:Int:=(b / 16 % 2:Nat)
  if o=1 then ⟨o,r,(b / 4 % 8:Nat),0⟩
  else if o=2 then ⟨o,r,q,0⟩
  else if o=3∨o=4∨o=5∨o=6 then ⟨o,r,q,(b / 16 % 4:Nat)⟩
  else if o=7 then ⟨o,r,x,0⟩
  else if o=8 then ⟨o,x,r,0⟩
  else if o=9 then ⟨o,r,0,0⟩
  else if o=10 then ⟨o,min (at_+1+q) n,0,0⟩
  else if o=11 then (if 200≤b then ⟨o,r,max (at_ - q) 0,0⟩ else ⟨o,r,min (at_+1+q) n,0⟩)
  else if o=18 then ⟨o,0,r,0⟩
  else if o=19 then ⟨o,r,0,q⟩
  else if o=20 then ⟨o,0,r,0⟩
  else if o=17∨o=21∨o=26 then ⟨o,r,0,0⟩
  else if o=22 then ⟨o,r,0,q⟩
  else if o=24 then ⟨o,0,(b % 3:Nat) - 1,0⟩
  else ⟨o,0,0,0⟩

section
variable {h : Heap} {K : Value → Heap → Prop}
set_option maxHeartbeats 4000000 in
theorem MkIns_call {a b at_ n:Nat} (ha:a≤255) (hb:b≤255) (hat:at_≤100) (hk:K (.agg (vIns (qOi a b at_ n)).toArray) h):qBu prog 43 [v8 a,v8 b,vI at_,vI n] h K:=by
  refine qBu.forget ?_;have hfin:∀ (i:Ins) (H':Heap),i=qOi a b at_ n→∃ p,Inl h.length H' (.agg #[v8 i.op,vI i.a,vI i.b,vI i.c]) p∧K p h:=by
    intro i H' hi;refine ⟨_,?_,hk⟩;rw [← hi];exact .agg rfl fun j x y hx hy=>by
      have:(vIns i).toArray[j]?=some x:=hx;rw [hy] at this; cases this;have:=List.mem_of_getElem? (l:=vIns i) (i:=j) (by simpa using hy)
      simp [vIns] at this;rcases this with rfl | rfl | rfl | rfl<;>exact .cell rfl
  refine call_MkIns (by simp) ?_
  obtain ⟨r,hr⟩:∃ r,r=b % 4:=⟨_,rfl⟩;obtain ⟨b4,hb4⟩:∃ r,r=b / 4:=⟨_,rfl⟩;obtain ⟨b16,hb16⟩:∃ r,r=b / 16:=⟨_,rfl⟩;obtain ⟨q,hq⟩:∃ r,r=b4 % 4:=⟨_,rfl⟩;obtain ⟨x,hx⟩:∃ r,r=b16 % 2:=⟨_,rfl⟩;obtain ⟨q8,hq8⟩:∃ r,r=b4 % 8:=⟨_,rfl⟩;obtain ⟨c4,hc4⟩:∃ r,r=b16 % 4:=⟨_,rfl⟩;obtain ⟨g3,hg3⟩:∃ r,r=b % 3:=⟨_,rfl⟩;obtain ⟨am,ham⟩:∃ r,r=a % 36:=⟨_,rfl⟩;obtain ⟨o,ho⟩:∃ o,opsL[am]?=some o:=⟨_,List.getElem?_eq_getElem (by simp [opsL]; omega)⟩
  have e1:(b:Int).tmod 4=(r:Int):=by rw [Int.tmod_eq_emod_of_nonneg (by omega)]; omega
  have e2:(b:Int).tdiv 4=(b4:Int):=by rw [Int.tdiv_eq_ediv_of_nonneg (by omega)]; omega
  have e3:(b:Int).tdiv 16=(b16:Int):=by rw [Int.tdiv_eq_ediv_of_nonneg (by omega)]; omega
  have e4:(b4:Int).tmod 4=(q:Int):=by rw [Int.tmod_eq_emod_of_nonneg (by omega)]; omega
  have e5:(b16:Int).tmod 2=(x:Int):=by rw [Int.tmod_eq_emod_of_nonneg (by omega)]; omega
  have e6:(b4:Int).tmod 8=(q8:Int):=by rw [Int.tmod_eq_emod_of_nonneg (by omega)]; omega
  have e7:(b16:Int).tmod 4=(c4:Int):=by rw [Int.tmod_eq_emod_of_nonneg (by omega)]; omega
  have e8:(b:Int).tmod 3=(g3:Int):=by rw [Int.tmod_eq_emod_of_nonneg (by omega)]; omega
  have e9:(a:Int).tmod 36=(am:Int):=by rw [Int.tmod_eq_emod_of_nonneg (by omega)]; omega
  have w1:IntKind.u8.wrap (b4:Int)=b4:=qOb (by omega) (by omega)
  have w2:IntKind.u8.wrap (b16:Int)=b16:=qOb (by omega) (by omega)
  have w3:IntKind.i64.wrap (r:Int)=r:=qCo (by omega) (by omega)
  have w4:IntKind.i64.wrap (q:Int)=q:=qCo (by omega) (by omega)
  have w5:IntKind.i64.wrap (x:Int)=x:=qCo (by omega) (by omega)
  have w6:IntKind.i64.wrap (q8:Int)=q8:=qCo (by omega) (by omega)
  have w7:IntKind.i64.wrap (c4:Int)=c4:=qCo (by omega) (by omega)
  have w8:IntKind.i64.wrap (a:Int)=a:=qCo (by omega) (by omega)
  have w9:IntKind.i64.wrap ((at_:Int)+1)=at_+1:=qCo (by omega) (by omega)
  have w10:IntKind.i64.wrap ((at_:Int)+1+q)=at_+1+q:=qCo (by omega) (by omega)
  have w11:IntKind.i64.wrap ((at_:Int) - q)=at_ - q:=qCo (by omega) (by omega)
  have w12:IntKind.i64.wrap (g3:Int)=g3:=qCo (by omega) (by omega)
  have w13:IntKind.i64.wrap ((g3:Int) - 1)=g3 - 1:=qCo (by omega) (by omega)
  obtain ⟨orow,horow⟩:∃ r:Row,r=⟨[.int .u8 7,.int .u8 8,.int .u8 9,.int .u8 1,.int .u8 3,.int .u8 7,.int .u8 8,.int .u8 9,.int .u8 13,.int .u8 14,.int .u8 15,.int .u8 16,.int .u8 17,.int .u8 18,.int .u8 19,.int .u8 20,.int .u8 21,.int .u8 22,.int .u8 23,.int .u8 24,.int .u8 25,.int .u8 26,.int .u8 27,.int .u8 11,.int .u8 10,.int .u8 0,.int .u8 2,.int .u8 4,.int .u8 5,.int .u8 6,.int .u8 7,.int .u8 8,.int .u8 13,.int .u8 14,.int .u8 9,.int .u8 8],1,0,true⟩:=⟨_,rfl⟩
  have hcell:∀ r:Row,(h++[Ob.row r,Ob.row orow]).cell? (h.length+1) am 0=some (v8 o):=by
    intro r;rw [horow];have:(opsL.map v8)[am]?=some (v8 o):=by rw [List.getElem?_map,ho]; rfl
    simp only [Heap.cell?,Heap.row?,app_at,List.getElem?_cons_succ,List.getElem?_cons_zero,if_true];exact this
  have hm:qOi a b at_ n=qOi a b at_ n:=rfl
  conv at hm=>rhs; unfold qOi
  rw [← ham,ho,← hr,← hb4,← hb16,← hq,← hx,← hq8,← hc4,← hg3] at hm;simp only [Option.getD_some] at hm;have ha36:(am:Int) < 36:=by omega
  simp [c_MkIns,Am.newRow,e9,w8,ha36,-qAy];rw [← horow];simp [hcell,e1,e2,e3,e4,e5,e6,e7,e8,w1,w2,w3,w4,w5,w6,w7,w9,w10,w11,w12,w13,-qAy];rw [qAy];simp [-qAy]
  by_cases n1:o=1
  . have z:(o:Int)=1:=by omega
    simp [z,e1,e2,e3,e4,e5,e6,e7,e8,w1,w2,w3,w4,w5,w6,w7,w9,w10,w11,w12,w13,qDm,qDn,qAu,qAv,resV,retV];subst n1;exact hfin ⟨1,r,q8,0⟩ _ (by rw [hm]; rfl)
  have z1:¬ (o:Int)=1:=by omega
  simp [z1,-qAy]
  by_cases n2:o=2
  . have z:(o:Int)=2:=by omega
    simp [z,e1,e2,e3,e4,e5,e6,e7,e8,w1,w2,w3,w4,w5,w6,w7,w9,w10,w11,w12,w13,qDm,qDn,qAu,qAv,resV,retV];subst n2;exact hfin ⟨2,r,q,0⟩ _ (by rw [hm]; rfl)
  have z2:¬ (o:Int)=2:=by omega
  simp [z2,-qAy];rw [qAy];simp [-qAy]
  by_cases n3:o=3∨o=4∨o=5∨o=6
  . have key:∃ k:Nat,o=k∧(k=3∨k=4∨k=5∨k=6):=⟨o,rfl,n3⟩
    rcases n3 with rfl | rfl | rfl | rfl
    all_goals
      simp [e1,e2,e3,e4,e5,e6,e7,e8,w1,w2,w3,w4,w5,w6,w7,w9,w10,w11,w12,w13,qDm,qDn,qAu,qAv,resV,retV];exact hfin ⟨_,r,q,c4⟩ _ (by rw [hm]; rfl)
  have z3:¬ (o:Int)=3∧¬ (o:Int)=4∧¬ (o:Int)=5∧¬ (o:Int)=6:=by omega
  simp [z3,-qAy]
  by_cases n7:o=7
  . have z:(o:Int)=7:=by omega
    simp [z,e1,e2,e3,e4,e5,e6,e7,e8,w1,w2,w3,w4,w5,w6,w7,w9,w10,w11,w12,w13,qDm,qDn,qAu,qAv,resV,retV];subst n7;exact hfin ⟨7,r,x,0⟩ _ (by rw [hm]; rfl)
  have z7:¬ (o:Int)=7:=by omega
  simp [z7,-qAy]
  by_cases n8:o=8
  . have z:(o:Int)=8:=by omega
    simp [z,e1,e2,e3,e4,e5,e6,e7,e8,w1,w2,w3,w4,w5,w6,w7,w9,w10,w11,w12,w13,qDm,qDn,qAu,qAv,resV,retV];subst n8;exact hfin ⟨8,x,r,0⟩ _ (by rw [hm]; rfl)
  have z8:¬ (o:Int)=8:=by omega
  simp [z8,-qAy]
  by_cases n9:o=9
  . have z:(o:Int)=9:=by omega
    simp [z,e1,e2,e3,e4,e5,e6,e7,e8,w1,w2,w3,w4,w5,w6,w7,w9,w10,w11,w12,w13,qDm,qDn,qAu,qAv,resV,retV];subst n9;exact hfin ⟨9,r,0,0⟩ _ (by rw [hm]; rfl)
  have z9:¬ (o:Int)=9:=by omega
  simp [z9,-qAy]
  by_cases n10:o=10
  . have z:(o:Int)=10:=by omega
    simp [z,e1,e2,e3,e4,e5,e6,e7,e8,w1,w2,w3,w4,w5,w6,w7,w9,w10,w11,w12,w13,qDm,qDn,qAu,qAv,resV,retV];subst n10;exact hfin ⟨10,if (n:Int) < (at_:Int)+1+q then n else (at_:Int)+1+q,0,0⟩ _ (by rw [hm]; simp; omega)
  have z10:¬ (o:Int)=10:=by omega
  simp [z10,-qAy]
  by_cases n11:o=11
  . have z:(o:Int)=11:=by omega
    by_cases c:200≤b
    . have c':(200:Int)≤b:=by omega
      simp [z,c',e1,e2,e3,e4,e5,e6,e7,e8,w1,w2,w3,w4,w5,w6,w7,w9,w10,w11,w12,w13,qDm,qDn,qAu,qAv,resV,retV];subst n11;exact hfin ⟨11,r,if (at_:Int) - q < 0 then 0 else (at_:Int) - q,0⟩ _ (by rw [hm]; simp [c]; omega)
    . have c':¬ (200:Int)≤b:=by omega
      simp [z,c',e1,e2,e3,e4,e5,e6,e7,e8,w1,w2,w3,w4,w5,w6,w7,w9,w10,w11,w12,w13,qDm,qDn,qAu,qAv,resV,retV];subst n11;exact hfin ⟨11,r,if (n:Int) < (at_:Int)+1+q then n else (at_:Int)+1+q,0⟩ _ (by rw [hm]; simp [c]; omega)
  have z11:¬ (o:Int)=11:=by omega
  simp [z11,-qAy]
  by_cases n18:o=18
  . have z:(o:Int)=18:=by omega
    simp [z,e1,e2,e3,e4,e5,e6,e7,e8,w1,w2,w3,w4,w5,w6,w7,w9,w10,w11,w12,w13,qDm,qDn,qAu,qAv,resV,retV];subst n18;exact hfin ⟨18,0,r,0⟩ _ (by rw [hm]; rfl)
  have z18:¬ (o:Int)=18:=by omega
  simp [z18,-qAy]
  by_cases n19:o=19
  . have z:(o:Int)=19:=by omega
    simp [z,e1,e2,e3,e4,e5,e6,e7,e8,w1,w2,w3,w4,w5,w6,w7,w9,w10,w11,w12,w13,qDm,qDn,qAu,qAv,resV,retV];subst n19;exact hfin ⟨19,r,0,q⟩ _ (by rw [hm]; rfl)
  have z19:¬ (o:Int)=19:=by omega
  simp [z19,-qAy]
  by_cases n20:o=20
  . have z:(o:Int)=20:=by omega
    simp [z,e1,e2,e3,e4,e5,e6,e7,e8,w1,w2,w3,w4,w5,w6,w7,w9,w10,w11,w12,w13,qDm,qDn,qAu,qAv,resV,retV];subst n20;exact hfin ⟨20,0,r,0⟩ _ (by rw [hm]; rfl)
  have z20:¬ (o:Int)=20:=by omega
  simp [z20,-qAy];rw [qAy];simp [-qAy]
  by_cases n17:o=17∨o=21∨o=26
  . rcases n17 with rfl | rfl | rfl
    all_goals
      simp [e1,e2,e3,e4,e5,e6,e7,e8,w1,w2,w3,w4,w5,w6,w7,w9,w10,w11,w12,w13,qDm,qDn,qAu,qAv,resV,retV];exact hfin ⟨_,r,0,0⟩ _ (by rw [hm]; rfl)
  have z17:¬ (o:Int)=17∧¬ (o:Int)=21∧¬ (o:Int)=26:=by omega
  simp [z17,-qAy]
  by_cases n22:o=22
  . have z:(o:Int)=22:=by omega
    simp [z,e1,e2,e3,e4,e5,e6,e7,e8,w1,w2,w3,w4,w5,w6,w7,w9,w10,w11,w12,w13,qDm,qDn,qAu,qAv,resV,retV];subst n22;exact hfin ⟨22,r,0,q⟩ _ (by rw [hm]; rfl)
  have z22:¬ (o:Int)=22:=by omega
  simp [z22,-qAy]
  by_cases n24:o=24
  . have z:(o:Int)=24:=by omega
    simp [z,e1,e2,e3,e4,e5,e6,e7,e8,w1,w2,w3,w4,w5,w6,w7,w9,w10,w11,w12,w13,qDm,qDn,qAu,qAv,resV,retV];subst n24;exact hfin ⟨24,0,g3 - 1,0⟩ _ (by rw [hm]; rfl)
  have z24:¬ (o:Int)=24:=by omega
  simp [z24,e1,e2,e3,e4,e5,e6,e7,e8,w1,w2,w3,w4,w5,w6,w7,w9,w10,w11,w12,w13,qDm,qDn,qAu,qAv,resV,retV];exact hfin ⟨o,0,0,0⟩ _ (by rw [hm]; simp [n1,n2,n3,n7,n8,n9,n10,n11,n18,n19,n20,n17,n22,n24])
end
end Pm

/- A program out of choices: the whole.
   No condition: plain lemmas. -/
namespace Pm
set_option linter.unusedSimpArgs false
set_option linter.unusedVariables false
open Go Am
open Go.Proofs.Try (prog)

structure Prog where
  vars:Int
  atoms:Int
  locks:Int
  chans:List Int
  groups:Int
  onces:Int
  threads:List (List Ins)
def qDo (p:Prog):List Value:=[vI p.vars,vI p.atoms,vI p.locks,vL vI p.chans,vI p.groups,vI p.onces,vL (vM 4 vIns) p.threads]

def nThr (l:List (List Nat)):Nat:=max (min l.length 3) 1
def qOl (n i:Nat):List Ins:=if i=0 then (List.range' 1 (n - 1)).map fun (k:Nat)=>⟨12,(k:Int),0,0⟩ else []
def qLa (c:List Nat):Nat:=min (c.length / 2) 9
def qJd (c:List Nat) (hd:Nat) (m:Nat):List Ins:=(List.range m).map fun k=>qOi (c[2 * k]?.getD 0) (c[2 * k+1]?.getD 0) ((hd+k:Nat):Int) ((hd+qLa c:Nat):Int)
def qNj (l:List (List Nat)) (i:Nat):List Ins:=qOl (nThr l) i++qJd (l[i]?.getD []) (qOl (nThr l) i).length (qLa (l[i]?.getD []))
def qFf (l:List (List Nat)):Prog:=⟨2,1,1,[1],1,1,(List.range (nThr l)).map (qNj l)⟩

theorem AccM.len {α:Type} {F:α→List Value} {e b:Nat} {h:Heap} {v:Value} {l:List α} (ha:AccM e F b h v l):pLen v=some (.int .i64 l.length):=Acc.len ha
theorem AccL.len {α:Type} {f:α→Value} {b:Nat} {h:Heap} {v:Value} {l:List α} (ha:AccL f b h v l):pLen v=some (.int .i64 l.length):=Acc.len ha
theorem qQh (l:List (List Nat)):1≤nThr l∧nThr l≤3:=by unfold nThr; omega
theorem qKw (n i:Nat):(qOl n i).length=if i=0 then n - 1 else 0:=by unfold qOl; split<;>simp
theorem qNd (c:List Nat) (hd m:Nat):(qJd c hd m).length=m:=by simp [qJd]
theorem codeOf_len (l:List (List Nat)) (i:Nat):(qNj l i).length≤11:=by
  have:=qQh l;have h1:=qKw (nThr l) i;have h2:qLa (l[i]?.getD [])≤9:=by unfold qLa; omega
  rw [qNj,List.length_append,h1,qNd]
  split<;>omega
theorem bodyOf_succ (c:List Nat) (hd k:Nat):qJd c hd (k+1)=qJd c hd k++[qOi (c[2 * k]?.getD 0) (c[2 * k+1]?.getD 0) ((hd+k:Nat):Int) ((hd+qLa c:Nat):Int)]:=by
  simp [qJd,List.range_succ]

section
variable {h : Heap} {K : Value → Heap → Prop}
set_option maxHeartbeats 4000000 in
theorem Make_call {l:List (List Nat)} (hl:l.length < 9223372036854775808) (hll:∀ c∈l,c.length < 9223372036854775808) (hb:∀ c∈l,∀ x∈c,x≤255) (hk:K (.agg (qDo (qFf l)).toArray) h):qBu prog 13 [vL (vL v8) l] h K:=by
  refine qBu.forget ?_;refine call_Make (by simp) ?_
  obtain ⟨n,hn⟩:∃ n,n=nThr l:=⟨_,rfl⟩;have hn13:=qQh l;rw [← hn] at hn13;obtain ⟨m3,hm3⟩:∃ m,m=min l.length 3:=⟨_,rfl⟩;have hm1:mmV false (.int .i64 (l.length:Int)) [.int .i64 3]=some (.int .i64 (m3:Int)):=by
    rw [qMb,qSj,hm3];simp only [Bool.false_eq_true,if_false]
    congr 2
    split<;>omega
  have hm2:mmV true (.int .i64 (m3:Int)) [.int .i64 1]=some (vI n):=by
    rw [qMb,qSj,hn,nThr,← hm3];simp only [if_true]
    congr 2
    split<;>omega
  let pr:Value→Ob:=fun t=>Ob.row ⟨[vI 2,vI 1,vI 1,.slice (some ⟨h.length+1,0,none⟩) 1 0,vI 1,vI 1,t],7,0,true⟩
  let z7:Ob:=Ob.row ⟨[vI 0,vI 0,vI 0,nilS,vI 0,vI 0,nilS],7,0,true⟩
  let ch:Ob:=Ob.row ⟨[vI 1],1,0,true⟩
  have hprl:(qFf l).threads.length=n:=by simp [qFf,hn]
  simp [c_Make,Am.newRow,qCm,Heap.row?,-qMb,hm1,hm2];refine qIw (σ:=Nat×Value) (fun x fr h1=>fr 0=vL (vL v8) l∧fr 2=.pointer (some ⟨h.length,0,some 0⟩)∧fr 3=.pointer (some ⟨h.length+2,0,some 0⟩)∧fr 4=vI n∧fr 5=vI x.1∧x.1≤n∧qCx h.length h h1∧h1[h.length]?=some z7∧h1[h.length+1]?=some ch∧h1[h.length+2]?=some (pr x.2)∧AccL (vM 4 vIns) (h.length+3) h1 x.2 ((qFf l).threads.take x.1))
    (fun x=>n - x.1) ?_ (0,nilS) ⟨by simp,by simp,by simp,by simp,by simp,by simp,.app,by simp [z7],by simp [ch],by simp [pr],by simpa using AccL.nil⟩
  rintro ⟨i,thr⟩ fr h1 ⟨h0,h2,h3,h4,h5,hi,hkp,hz,hc,hp,hthr⟩;simp only at h5 hi hp hthr
  by_cases hlt:i < n
  . have hif:(i:Int) < n:=by omega
    obtain ⟨c,hcc⟩:∃ c,c=l[i]?.getD []:=⟨_,rfl⟩;obtain ⟨hd,hhd⟩:∃ hd,hd=qOl n i:=⟨_,rfl⟩;obtain ⟨many,hmany⟩:∃ m,m=qLa c:=⟨_,rfl⟩;have hmany9:many≤9:=by rw [hmany]; unfold qLa; omega
    have hhl:hd.length≤2:=by rw [hhd,qKw]; split<;>omega
    have hcode:(qFf l).threads.take (i+1)=(qFf l).threads.take i++[hd++qJd c hd.length many]:=by
      rw [← List.take_append_getElem (by rw [hprl]; exact hlt)]
      congr 2
      simp [qFf,qNj,hhd,hn,hcc,hmany]
    have hcb:∀ x∈c,x≤255:=by
      intro x hx;rw [hcc] at hx;cases hci:l[i]? with
      | none=>rw [hci] at hx; simp at hx
      | some c'=>rw [hci] at hx; exact hb c' (List.mem_of_getElem? hci) x (by simpa using hx)
    simp [h4,h5,hlt];refine qIw (σ:=Nat) (fun k fr h'=>fr 0=vL (vL v8) l∧fr 2=.pointer (some ⟨h.length,0,some 0⟩)∧fr 3=.pointer (some ⟨h.length+2,0,some 0⟩)∧fr 4=vI n∧fr 5=vI i∧fr 7=vI k∧1≤k∧k≤n∧qCx (h.length+3) h1 h'∧AccL (vM 4 vIns) (h.length+3) h' thr ((qFf l).threads.take i)∧AccM 4 vIns (h.length+3) h' (fr 6) (hd.take (k - 1))∧qLq (fr 6) thr)
      (fun k=>n - k) ?_ 1 ⟨by simp [h0],by simp [h2],by simp [h3],by simp [h4],by simp [h5],by simp,by simp,by omega,.refl _ _,hthr,by simpa using AccM.nil,.nil⟩
    clear h0 h2 h3 h4 h5 fr;rintro k fr h' ⟨h0,h2,h3,h4,h5,h7,hk1,hkn,hkp',hthr',hacc,hap⟩;have hlen1:h.length+3≤h1.length:=(List.getElem?_eq_some_iff.1 hp).1;have hlen':h.length+3≤h'.length:=by have:=hkp'.1; omega
    rw [qAy]
    by_cases hc1:k < n∧i=0
    . obtain ⟨hkn',hi0⟩:=hc1
      subst hi0;have hkf:(k:Int) < n:=by omega
      obtain ⟨k1,hk1',wk⟩:=qCj (show k < lim by simp [lim]; omega)
      simp [h0,h2,h3,h4,h5,h7,hkn',hkf];refine hacc.push hlen' (by simp [lim]; omega) (x:=⟨12,k,0,0⟩) rfl fun v' h'' q1 q2 q3 q4=>?_
      simp [h0,h2,h3,h4,h5,h7,wk];refine .go k1 (by omega) ⟨by simp [h0],by simp [h2],by simp [h3],by simp [h4],by simp [h5],by simp,by omega,by omega,hkp'.trans q2,Acc.keep hthr' fun i hi=>q3 i (Acc.lt hthr' hi) (hap.symm i hi),?_,fun i h1 h2=>(q4 i (by simpa using h1)).elim (fun x=>hap i x h2) (fun x=>by have:=Acc.lt hthr' h2; omega)⟩
      have e:hd.take (k1 - 1)=hd.take (k - 1)++[⟨12,k,0,0⟩]:=by
        have hkl:k - 1 < hd.length:=by rw [hhd,qKw]; simp; omega
        rw [show k1 - 1=(k - 1)+1 by omega,← List.take_append_getElem hkl]
        congr 2
        simp only [hhd,qOl,if_true,List.getElem_map,List.getElem_range',Nat.one_mul]
        congr 1; omega
      rw [e]
      simpa using q1
    . have hex:hd.take (k - 1)=hd:=by
        apply List.take_of_length_le;rw [hhd,qKw]
        split<;>omega
      rw [hex] at hacc;have hgo:∀ (Q:Exit→Fr→Heap→Prop) (fr:Fr),fr 7=vI k→fr 4=vI n→fr 5=vI i→(∀ fr',(∀ t,t < 23→fr' t=fr t)→Q (.exit 2) fr' h')→pwp prog (O [V 23 7,V 24 4,B 25 .lss 23 24,V 26 25,Gd 26 true (V 27 5),Gd 26 true (Bn 28 .eql 27 0),Pk 29 26 28 false] (.cond (.tmp 29) .skip (.exit 2))) Q fr h':=by
        intro Q fr g7 g4 g5 hq
        by_cases ckn:k < n
        . have:¬ i=0:=fun e=>hc1 ⟨ckn,e⟩
          have hi0:¬ (i:Int)=0:=by omega
          simp [g7,g4,g5,ckn,hi0,this];exact hq _ fun t ht=>by simp [show t≠29 by omega,show t≠28 by omega,show t≠27 by omega,show t≠26 by omega,show t≠25 by omega,show t≠24 by omega,show t≠23 by omega]
        . simp [g7,g4,g5,ckn]
          exact hq _ fun t ht=>by simp [show t≠29 by omega,show t≠28 by omega,show t≠27 by omega,show t≠26 by omega,show t≠25 by omega,show t≠24 by omega,show t≠23 by omega]
      refine hgo _ fr h7 h4 h5 fun fr' hfr=>?_
      have g0:=(hfr 0 (by omega)).trans h0
      have g2:=(hfr 2 (by omega)).trans h2
      have g3:=(hfr 3 (by omega)).trans h3
      have g4:=(hfr 4 (by omega)).trans h4
      have g5:=(hfr 5 (by omega)).trans h5
      have g6:=hfr 6 (by omega)
      have hacc:AccM 4 vIns (h.length+3) h' (fr' 6) hd:=by rw [g6]; exact hacc
      have hap:qLq (fr' 6) thr:=by rw [g6]; exact hap
      obtain ⟨v6,hv6⟩:∃ v,v=fr' 6:=⟨_,rfl⟩;rw [← hv6] at hacc hap;simp [← hv6,hacc.len,-qAy];refine qPw (fun fr H=>H=h'∧fr 0=vL (vL v8) l∧fr 2=.pointer (some ⟨h.length,0,some 0⟩)∧fr 3=.pointer (some ⟨h.length+2,0,some 0⟩)∧fr 4=vI n∧fr 5=vI i∧fr 6=v6∧fr 8=vI hd.length∧((fr 9=nilS∧c=[])∨fr 9=vL v8 c)) ?_ ?_
      . by_cases hil:i < l.length
        . have hilf:(i:Int) < l.length:=by omega
          have hci:l[i]?=some c:=by rw [hcc,List.getElem?_eq_getElem hil]; rfl
          simp [g0,g2,g3,g4,g5,← hv6,hilf,hci]
        . have hilf:¬ (i:Int) < l.length:=by omega
          have hc0:c=[]:=by rw [hcc,List.getElem?_eq_none (by omega)]; rfl
          simp [g0,g2,g3,g4,g5,← hv6,hilf,hc0]
      . rintro fr H ⟨rfl,h0,h2,h3,h4,h5,h6,h8,h9⟩
        have hclen:c.length < 9223372036854775808:=by
          rw [hcc];cases hci:l[i]? with
          | none=>simp
          | some c'=>simpa using hll c' (List.mem_of_getElem? hci)
        have h9l:pLen (fr 9)=some (vI c.length):=by
          rcases h9 with ⟨e1,e2⟩ | e1
          . rw [e1,e2]; rfl
          . rw [e1]; simp
        obtain ⟨ch2,hch2⟩:∃ m,m=c.length / 2:=⟨_,rfl⟩;have ed:((c.length:Int)).tdiv 2=(ch2:Int):=by rw [Int.tdiv_eq_ediv_of_nonneg (by omega)]; omega
        have ew:IntKind.i64.wrap (ch2:Int)=ch2:=qCo (by omega) (by omega)
        have em:mmV false (.int .i64 (ch2:Int)) [.int .i64 9]=some (vI many):=by
          rw [qMb,qSj,hmany,qLa,← hch2];simp only [Bool.false_eq_true,if_false]
          congr 2
          split<;>omega
        simp [h9l,ed,ew,em,-qMb];refine qIw (σ:=Nat) (fun k fr H=>fr 0=vL (vL v8) l∧fr 2=.pointer (some ⟨h.length,0,some 0⟩)∧fr 3=.pointer (some ⟨h.length+2,0,some 0⟩)∧fr 4=vI n∧fr 5=vI i∧fr 8=vI hd.length∧fr 10=vI many∧fr 11=vI k∧k≤many∧((fr 9=nilS∧c=[])∨fr 9=vL v8 c)∧qCx (h.length+3) h1 H∧AccL (vM 4 vIns) (h.length+3) H thr ((qFf l).threads.take i)∧AccM 4 vIns (h.length+3) H (fr 6) (hd++qJd c hd.length k)∧qLq (fr 6) thr)
          (fun k=>many - k) ?_ 0 ⟨by simp [h0],by simp [h2],by simp [h3],by simp [h4],by simp [h5],by simp [h8],by simp,by simp,by simp,by simpa using h9,hkp',hthr',by simpa [h6,qJd] using hacc,by simpa [h6] using hap⟩
        rintro k fr H ⟨h0,h2,h3,h4,h5,h8,h10,h11,hkm,h9,hkp',hthr',hacc,hap⟩;have hlenH:h.length+3≤H.length:=by have:=hkp'.1; omega
        by_cases hkl:k < many
        . have h9':fr 9=vL v8 c:=by
            rcases h9 with ⟨_,e⟩ | e
            . subst e; simp [hmany,qLa] at hkl
            . exact e
          have hml:2 * many≤c.length:=by rw [hmany]; unfold qLa; omega
          obtain ⟨k1,hk1',wk⟩:=qCj (show k < lim by simp [lim]; omega)
          obtain ⟨k2,hk2⟩:∃ m,m=2 * k:=⟨_,rfl⟩;obtain ⟨k3,hk3⟩:∃ m,m=2 * k+1:=⟨_,rfl⟩;have w2:IntKind.i64.wrap (2 * (k:Int))=k2:=by rw [qCo (by omega) (by omega)]; omega
          have w3:IntKind.i64.wrap ((k2:Int)+1)=k3:=by rw [qCo (by omega) (by omega)]; omega
          obtain ⟨x,hx⟩:∃ x,c[k2]?=some x:=⟨_,List.getElem?_eq_getElem (by omega)⟩
          obtain ⟨y,hy⟩:∃ x,c[k3]?=some x:=⟨_,List.getElem?_eq_getElem (by omega)⟩
          have hxb:=hcb x (List.mem_of_getElem? hx);have hyb:=hcb y (List.mem_of_getElem? hy);obtain ⟨at_,hat⟩:∃ m,m=hd.length+k:=⟨_,rfl⟩;obtain ⟨tot,htot⟩:∃ m,m=hd.length+many:=⟨_,rfl⟩;have w4:IntKind.i64.wrap ((hd.length:Int)+(k:Int))=at_:=by rw [qCo (by omega) (by omega)]; omega
          have w5:IntKind.i64.wrap ((hd.length:Int)+(many:Int))=tot:=by rw [qCo (by omega) (by omega)]; omega
          simp [h0,h2,h3,h4,h5,h8,h10,h11,h9',hkl,w2,w3,w4,w5,hx,hy];refine MkIns_call hxb hyb (by omega) ?_
          simp [callK_def,vIns];refine hacc.push hlenH (by simp [lim,qNd]; omega) (x:=qOi x y at_ tot) rfl fun v' h'' q1 q2 q3 q4=>?_
          simp [h0,h2,h3,h4,h5,h8,h10,h11,wk];refine .go k1 (by omega) ⟨by simp [h0],by simp [h2],by simp [h3],by simp [h4],by simp [h5],by simp [h8],by simp [h10],by simp,by omega,by simpa using h9,hkp'.trans q2,Acc.keep hthr' fun i hi=>q3 i (Acc.lt hthr' hi) (hap.symm i hi),?_,fun i h1 h2=>(q4 i (by simpa using h1)).elim (fun x=>hap i x h2) (fun x=>by have:=Acc.lt hthr' h2; omega)⟩
          have eb:qJd c hd.length k1=qJd c hd.length k++[qOi x y at_ tot]:=by
            rw [hk1',bodyOf_succ,← hk3,← hk2,hx,hy,← hat,← hmany,← htot]; rfl
          rw [eb,← List.append_assoc]
          simpa using q1
        . have hkm':k=many:=by omega
          subst hkm';obtain ⟨i1,hi1,wi⟩:=qCj (show i < lim by simp [lim]; omega)
          have hpH:H[h.length+2]?=some (pr thr):=by rw [hkp'.2 _ (by omega)]; exact hp
          have hpr:∀ H':Heap,H'[h.length+2]?=some (pr thr)→H'.cell? (h.length+2) 6 0=some thr:=by
            intro H' hh; simp only [Heap.cell?,Heap.row?,hh]; rfl
          simp [h0,h2,h3,h4,h5,h10,h11,hkl,hpr H hpH];refine hacc.frz (by simp [vIns]) fun H1 q1 q2 q3=>?_
          have hth1:AccL (vM 4 vIns) (h.length+3) H1 thr ((qFf l).threads.take i):=Acc.keep hthr' fun i hi=>q3 i (hap.symm i hi)
          simp;refine hth1.push (by omega) (by simp [hprl,lim]; omega) (x:=hd++qJd c hd.length k) fun v' H2 r1 r2 r3 r4=>?_
          have hp2:H2[h.length+2]?=some (pr thr):=by rw [r2.2 _ (by omega),q1.2 _ (by omega)]; exact hpH
          have hv'c:cellsOf v'=some [v']:=by
            rcases r1 with ⟨rfl,_⟩ | ⟨_,_,rfl,_⟩<;>rfl
          have hlp:h.length+2 < H2.length:=(List.getElem?_eq_some_iff.1 hp2).1;have hst:qCm H2 1 (.pointer (some ⟨h.length+2,6,some 0⟩)) v'=some (H2.set (h.length+2) (pr v')):=by
            simp only [qCm,hv'c,Heap.row?,hp2,pr];simp
          simp [h0,h2,h3,h4,h5,hst,wi];have hne:∀ j,j≠h.length+2→(H2.set (h.length+2) (pr v'))[j]?=H2[j]?:=fun j hj=>by rw [List.getElem?_set_ne (Ne.symm hj)]
          have hold:∀ j,j < h.length+2→(H2.set (h.length+2) (pr v'))[j]?=h1[j]?:=fun j hj=>by
            rw [hne j (by omega),r2.2 j (by omega),q1.2 j (by omega),hkp'.2 j (by omega)]
          refine .go (i1,v') (by simp; omega) ⟨by simp [h0],by simp [h2],by simp [h3],by simp [h4],by simp,(by simp; omega),⟨?_,fun j hj=>?_⟩,by rw [hold _ (by omega)]; exact hz,by rw [hold _ (by omega)]; exact hc,by simp [hlp],?_⟩
          . have a1:=r2.1; have a2:=hkp'.1; have a3:=hkp.1
            simp; omega
          . rw [hold j (by omega)]; exact hkp.2 j hj
          . simp only [hi1]
            rw [hcode];exact Acc.keep r1 fun j hj=>hne j fun e=>by
              subst e;rcases r1 with ⟨rfl,_⟩ | ⟨id,_,rfl,hb,_⟩
              . simp [rid] at hj
              . simp [rid] at hj; omega
  . have hin:i=n:=by omega
    have hpr:h1.row? (h.length+2) 0=some ⟨[vI 2,vI 1,vI 1,.slice (some ⟨h.length+1,0,none⟩) 1 0,vI 1,vI 1,thr],7,0,true⟩:=by simp only [Heap.row?,hp]; rfl
    have hzr:h1.row? h.length 0=some ⟨[vI 0,vI 0,vI 0,nilS,vI 0,vI 0,nilS],7,0,true⟩:=by simp only [Heap.row?,hz]; rfl
    have hthc:cellLike thr=true:=by
      rcases hthr with ⟨rfl,_⟩ | ⟨_,_,rfl,_⟩<;>rfl
    have hlt1:h.length < h1.length:=(List.getElem?_eq_some_iff.1 hz).1;obtain ⟨H2,hst,hH2⟩:∃ H2,qCm h1 7 (.pointer (some ⟨h.length,0,some 0⟩)) (.agg #[vI 2,vI 1,vI 1,.slice (some ⟨h.length+1,0,none⟩) 1 0,vI 1,vI 1,thr])=some H2∧H2=h1.set h.length (pr thr):=by
      refine ⟨_,?_,rfl⟩;simp [qCm,hzr,hthc,pr]
    have hr2:H2.cells? h.length 0 0 7=some [vI 2,vI 1,vI 1,.slice (some ⟨h.length+1,0,none⟩) 1 0,vI 1,vI 1,thr]:=by
      rw [hH2]; simp [Heap.cells?,Heap.row?,hlt1,pr]
    have hcell:h1.cells? (h.length+2) 0 0 7=some [vI 2,vI 1,vI 1,.slice (some ⟨h.length+1,0,none⟩) 1 0,vI 1,vI 1,thr]:=by
      simp [Heap.cells?,hpr]
    simp [h2,h3,h4,h5,hlt,hcell,hst,hr2,qAu,qAv,resV,retV];have hk2:qCx h.length h H2:=⟨by rw [hH2]; simpa using hkp.1,fun j hj=>by rw [hH2,List.getElem?_set_ne (by omega)]; exact hkp.2 j hj⟩
    refine ⟨hk2.ext,_,?_,hk⟩;have hl3:∀ j,j≠h.length→H2[j]?=h1[j]?:=fun j hj=>by rw [hH2,List.getElem?_set_ne (Ne.symm hj)]
    have hth2:AccL (vM 4 vIns) (h.length+3) H2 thr (qFf l).threads:=by
      rw [hin,← hprl,List.take_length] at hthr;exact Acc.keep hthr fun j hj=>hl3 j fun e=>by
        subst e;rcases hthr with ⟨rfl,_⟩ | ⟨id,_,rfl,hb,_⟩
        . simp [rid] at hj
        . simp [rid] at hj; omega
    have hinl:Inl h.length H2 thr (vL (vM 4 vIns) (qFf l).threads):=by
      have:=hth2.inl (by simp)
      rcases hth2 with ⟨rfl,h5,h6⟩ | ⟨id,ver,rfl,h5,h6,h7⟩
      . have h9:(qFf l).threads=[]:=List.length_eq_zero_iff.1 h5
        rw [h9]; exact .nil
      . exact Acc.inl (.inr ⟨id,ver,rfl,by omega,h6,h7⟩) (qHv (by simp) _)
    have hch:Inl h.length H2 (.slice (some ⟨h.length+1,0,none⟩) 1 0) (vL vI [1]):=by
      have hr:H2.row? (h.length+1) 0=some ⟨[vI 1],1,0,true⟩:=by simp only [Heap.row?]; rw [hl3 _ (by omega),hc]; rfl
      exact .row (r:=⟨[vI 1],1,0,true⟩) (by omega) hr (by simp) rfl fun j c c' h5 h6=>by
        simp only [Nat.zero_add] at h5;have h6:[vI 1][j]?=some c':=h6;rw [h5] at h6; cases h6;have:=List.mem_of_getElem? h5;simp at this; subst this; exact .cell rfl
    exact Inls.agg ⟨.cell rfl,.cell rfl,.cell rfl,hch,.cell rfl,.cell rfl,hinl,trivial⟩
end
end Pm
