/- A program out of choices.
   No condition: plain lemmas. -/
import Derived.Test.YtdiggaadgjkgkaaGreatDoorZNPmCfgC
import Derived.Test.YtdiggaadgjkgkaaGreatDoorZNPmSuccs
namespace Pm
set_option linter.unusedSimpArgs false
set_option linter.unusedVariables false
open Go Am
open Go.Proofs.Tryz (prog)

section
variable {h g : Heap} {e ver n : Nat} {rw : Bool} {z cs : List Value}
theorem qCs (hz:z.length=n) (hc:cs.length=n) (hl:cs.all cellLike=true):qBu (h++Ob.row ⟨z,e,ver,true⟩ :: g) n (.pointer (some ⟨h.length,0,some ver⟩)) (.agg cs.toArray)=some (h++Ob.row ⟨cs,e,ver,true⟩ :: g):=by
  have h1:setAll z 0 cs=cs:=by
    rw [qEv _ _ _ (by omega)]
    unfold over;rw [List.take_zero,List.nil_append,List.drop_eq_nil_of_le (by omega),List.append_nil]
  simp [qBu,cellsOf,hl,Heap.row?,hz,hc,h1]
theorem qCt (hc:cs.length=n):(h++Ob.row ⟨cs,e,ver,rw⟩ :: g).cells? h.length 0 ver n=some cs:=by
  simp [Heap.cells?,Heap.row?,hc,List.take_of_length_le]
end

def opsL:List Nat:=[7,8,9,1,3,7,8,9,13,14,15,16,17,18,19,20,21,22,23,24,25,26,27,11,10,0,2,4,5,6,7,8,13,14,9,8]
def qMv (a b:Nat) (at_ n:Int):Ins :=
  let o:=opsL[a % 36]?.getD 0
  let r:Int:=(b % 4:Nat)
  let q:Int:=(b / 4 % 4:Nat)
  let x:Int:=(b / 16 % 2:Nat)
  if o=1 then ⟨o,r,(b / 4 % 8:Nat),0⟩
  else if o=2 then ⟨o,r,q,0⟩
  else if o=3∨o=4∨o=5∨o=6 then ⟨o,r,q,(b / 16 % 4:Nat)⟩
  else if o=7 then ⟨o,r,x,0⟩
  else if o=8 then ⟨o,x,r,0⟩
  else if o=9 then ⟨o,r,0,0⟩
  else if o=10 then ⟨o,min (at_+1+q) n,0,0⟩
  else if o=11 then (if 200≤b then ⟨o,r,max (at_ - q) 0,0⟩ else ⟨o,r,min (at_+1+q) n,0⟩)
  else if o=18 then ⟨o,0,r,0⟩
  else if o=19 then ⟨o,r,0,q⟩
  else if o=20 then ⟨o,0,r,0⟩
  else if o=17∨o=21∨o=26 then ⟨o,r,0,0⟩
  else if o=22 then ⟨o,r,0,q⟩
  else if o=24 then ⟨o,0,(b % 3:Nat) - 1,0⟩
  else ⟨o,0,0,0⟩

section
variable {h : Heap} {K : Value → Heap → Prop}
set_option maxHeartbeats 4000000 in
theorem MkIns_call {a b at_ n:Nat} (ha:a≤255) (hb:b≤255) (hat:at_≤100) (hk:K (.agg (vIns (qMv a b at_ n)).toArray) h):qBl prog 13 [v8 a,v8 b,vI at_,vI n] h K:=by
  refine qBl.forget ?_;have hfin:∀ (i:Ins) (H':Heap),i=qMv a b at_ n→∃ p,Inl h.length H' (.agg #[v8 i.op,vI i.a,vI i.b,vI i.c]) p∧K p h:=by
    intro i H' hi;refine ⟨_,?_,hk⟩;rw [← hi];exact .agg rfl fun j x y hx hy=>by
      have:(vIns i).toArray[j]?=some x:=hx;rw [hy] at this; cases this;have:=List.mem_of_getElem? (l:=vIns i) (i:=j) (by simpa using hy)
      simp [vIns] at this;rcases this with rfl | rfl | rfl | rfl<;>exact .cell rfl
  refine call_MkIns (by simp) ?_
  obtain ⟨r,hr⟩:∃ r,r=b % 4:=⟨_,rfl⟩;obtain ⟨b4,hb4⟩:∃ r,r=b / 4:=⟨_,rfl⟩;obtain ⟨b16,hb16⟩:∃ r,r=b / 16:=⟨_,rfl⟩;obtain ⟨q,hq⟩:∃ r,r=b4 % 4:=⟨_,rfl⟩;obtain ⟨x,hx⟩:∃ r,r=b16 % 2:=⟨_,rfl⟩;obtain ⟨q8,hq8⟩:∃ r,r=b4 % 8:=⟨_,rfl⟩;obtain ⟨c4,hc4⟩:∃ r,r=b16 % 4:=⟨_,rfl⟩;obtain ⟨g3,hg3⟩:∃ r,r=b % 3:=⟨_,rfl⟩;obtain ⟨am,ham⟩:∃ r,r=a % 36:=⟨_,rfl⟩;obtain ⟨o,ho⟩:∃ o,opsL[am]?=some o:=⟨_,List.getElem?_eq_getElem (by simp [opsL]; omega)⟩
  have e1:(b:Int).tmod 4=(r:Int):=by rw [Int.tmod_eq_emod_of_nonneg (by omega)]; omega
  have e2:(b:Int).tdiv 4=(b4:Int):=by rw [Int.tdiv_eq_ediv_of_nonneg (by omega)]; omega
  have e3:(b:Int).tdiv 16=(b16:Int):=by rw [Int.tdiv_eq_ediv_of_nonneg (by omega)]; omega
  have e4:(b4:Int).tmod 4=(q:Int):=by rw [Int.tmod_eq_emod_of_nonneg (by omega)]; omega
  have e5:(b16:Int).tmod 2=(x:Int):=by rw [Int.tmod_eq_emod_of_nonneg (by omega)]; omega
  have e6:(b4:Int).tmod 8=(q8:Int):=by rw [Int.tmod_eq_emod_of_nonneg (by omega)]; omega
  have e7:(b16:Int).tmod 4=(c4:Int):=by rw [Int.tmod_eq_emod_of_nonneg (by omega)]; omega
  have e8:(b:Int).tmod 3=(g3:Int):=by rw [Int.tmod_eq_emod_of_nonneg (by omega)]; omega
  have e9:(a:Int).tmod 36=(am:Int):=by rw [Int.tmod_eq_emod_of_nonneg (by omega)]; omega
  have w1:IntKind.u8.wrap (b4:Int)=b4:=qGk (by omega) (by omega)
  have w2:IntKind.u8.wrap (b16:Int)=b16:=qGk (by omega) (by omega)
  have w3:IntKind.i64.wrap (r:Int)=r:=wrap_i64 (by omega) (by omega)
  have w4:IntKind.i64.wrap (q:Int)=q:=wrap_i64 (by omega) (by omega)
  have w5:IntKind.i64.wrap (x:Int)=x:=wrap_i64 (by omega) (by omega)
  have w6:IntKind.i64.wrap (q8:Int)=q8:=wrap_i64 (by omega) (by omega)
  have w7:IntKind.i64.wrap (c4:Int)=c4:=wrap_i64 (by omega) (by omega)
  have w8:IntKind.i64.wrap (a:Int)=a:=wrap_i64 (by omega) (by omega)
  have w9:IntKind.i64.wrap ((at_:Int)+1)=at_+1:=wrap_i64 (by omega) (by omega)
  have w10:IntKind.i64.wrap ((at_:Int)+1+q)=at_+1+q:=wrap_i64 (by omega) (by omega)
  have w11:IntKind.i64.wrap ((at_:Int) - q)=at_ - q:=wrap_i64 (by omega) (by omega)
  have w12:IntKind.i64.wrap (g3:Int)=g3:=wrap_i64 (by omega) (by omega)
  have w13:IntKind.i64.wrap ((g3:Int) - 1)=g3 - 1:=wrap_i64 (by omega) (by omega)
  obtain ⟨orow,horow⟩:∃ r:Row,r=⟨[.int .u8 7,.int .u8 8,.int .u8 9,.int .u8 1,.int .u8 3,.int .u8 7,.int .u8 8,.int .u8 9,.int .u8 13,.int .u8 14,.int .u8 15,.int .u8 16,.int .u8 17,.int .u8 18,.int .u8 19,.int .u8 20,.int .u8 21,.int .u8 22,.int .u8 23,.int .u8 24,.int .u8 25,.int .u8 26,.int .u8 27,.int .u8 11,.int .u8 10,.int .u8 0,.int .u8 2,.int .u8 4,.int .u8 5,.int .u8 6,.int .u8 7,.int .u8 8,.int .u8 13,.int .u8 14,.int .u8 9,.int .u8 8],1,0,true⟩:=⟨_,rfl⟩
  have hcell:∀ r:Row,(h++[Ob.row r,Ob.row orow]).cell? (h.length+1) am 0=some (v8 o):=by
    intro r;rw [horow];have:(opsL.map v8)[am]?=some (v8 o):=by rw [List.getElem?_map,ho]; rfl
    simp only [Heap.cell?,Heap.row?,app_at,List.getElem?_cons_succ,List.getElem?_cons_zero,if_true];exact this
  have hm:qMv a b at_ n=qMv a b at_ n:=rfl
  conv at hm=>rhs; unfold qMv
  rw [← ham,ho,← hr,← hb4,← hb16,← hq,← hx,← hq8,← hc4,← hg3] at hm;simp only [Option.getD_some] at hm;have ha36:(am:Int) < 36:=by omega
  simp [c_MkIns,Am.newRow,e9,w8,ha36,-qAt];rw [← horow];simp [hcell,e1,e2,e3,e4,e5,e6,e7,e8,w1,w2,w3,w4,w5,w6,w7,w9,w10,w11,w12,w13,-qAt];rw [qAt];simp [-qAt]
  by_cases n1:o=1
  . have z:(o:Int)=1:=by omega
    simp [z,e1,e2,e3,e4,e5,e6,e7,e8,w1,w2,w3,w4,w5,w6,w7,w9,w10,w11,w12,w13,qCs,qCt,qAs,qAu,resV,retV];subst n1;exact hfin ⟨1,r,q8,0⟩ _ (by rw [hm]; rfl)
  have z1:¬ (o:Int)=1:=by omega
  simp [z1,-qAt]
  by_cases n2:o=2
  . have z:(o:Int)=2:=by omega
    simp [z,e1,e2,e3,e4,e5,e6,e7,e8,w1,w2,w3,w4,w5,w6,w7,w9,w10,w11,w12,w13,qCs,qCt,qAs,qAu,resV,retV];subst n2;exact hfin ⟨2,r,q,0⟩ _ (by rw [hm]; rfl)
  have z2:¬ (o:Int)=2:=by omega
  simp [z2,-qAt];rw [qAt];simp [-qAt]
  by_cases n3:o=3∨o=4∨o=5∨o=6
  . have key:∃ k:Nat,o=k∧(k=3∨k=4∨k=5∨k=6):=⟨o,rfl,n3⟩
    rcases n3 with rfl | rfl | rfl | rfl
    all_goals
      simp [e1,e2,e3,e4,e5,e6,e7,e8,w1,w2,w3,w4,w5,w6,w7,w9,w10,w11,w12,w13,qCs,qCt,qAs,qAu,resV,retV];exact hfin ⟨_,r,q,c4⟩ _ (by rw [hm]; rfl)
  have z3:¬ (o:Int)=3∧¬ (o:Int)=4∧¬ (o:Int)=5∧¬ (o:Int)=6:=by omega
  simp [z3,-qAt]
  by_cases n7:o=7
  . have z:(o:Int)=7:=by omega
    simp [z,e1,e2,e3,e4,e5,e6,e7,e8,w1,w2,w3,w4,w5,w6,w7,w9,w10,w11,w12,w13,qCs,qCt,qAs,qAu,resV,retV];subst n7;exact hfin ⟨7,r,x,0⟩ _ (by rw [hm]; rfl)
  have z7:¬ (o:Int)=7:=by omega
  simp [z7,-qAt]
  by_cases n8:o=8
  . have z:(o:Int)=8:=by omega
    simp [z,e1,e2,e3,e4,e5,e6,e7,e8,w1,w2,w3,w4,w5,w6,w7,w9,w10,w11,w12,w13,qCs,qCt,qAs,qAu,resV,retV];subst n8;exact hfin ⟨8,x,r,0⟩ _ (by rw [hm]; rfl)
  have z8:¬ (o:Int)=8:=by omega
  simp [z8,-qAt]
  by_cases n9:o=9
  . have z:(o:Int)=9:=by omega
    simp [z,e1,e2,e3,e4,e5,e6,e7,e8,w1,w2,w3,w4,w5,w6,w7,w9,w10,w11,w12,w13,qCs,qCt,qAs,qAu,resV,retV];subst n9;exact hfin ⟨9,r,0,0⟩ _ (by rw [hm]; rfl)
  have z9:¬ (o:Int)=9:=by omega
  simp [z9,-qAt]
  by_cases n10:o=10
  . have z:(o:Int)=10:=by omega
    simp [z,e1,e2,e3,e4,e5,e6,e7,e8,w1,w2,w3,w4,w5,w6,w7,w9,w10,w11,w12,w13,qCs,qCt,qAs,qAu,resV,retV];subst n10;exact hfin ⟨10,if (n:Int) < (at_:Int)+1+q then n else (at_:Int)+1+q,0,0⟩ _ (by rw [hm]; simp; omega)
  have z10:¬ (o:Int)=10:=by omega
  simp [z10,-qAt]
  by_cases n11:o=11
  . have z:(o:Int)=11:=by omega
    by_cases c:200≤b
    . have c':(200:Int)≤b:=by omega
      simp [z,c',e1,e2,e3,e4,e5,e6,e7,e8,w1,w2,w3,w4,w5,w6,w7,w9,w10,w11,w12,w13,qCs,qCt,qAs,qAu,resV,retV];subst n11;exact hfin ⟨11,r,if (at_:Int) - q < 0 then 0 else (at_:Int) - q,0⟩ _ (by rw [hm]; simp [c]; omega)
    . have c':¬ (200:Int)≤b:=by omega
      simp [z,c',e1,e2,e3,e4,e5,e6,e7,e8,w1,w2,w3,w4,w5,w6,w7,w9,w10,w11,w12,w13,qCs,qCt,qAs,qAu,resV,retV];subst n11;exact hfin ⟨11,r,if (n:Int) < (at_:Int)+1+q then n else (at_:Int)+1+q,0⟩ _ (by rw [hm]; simp [c]; omega)
  have z11:¬ (o:Int)=11:=by omega
  simp [z11,-qAt]
  by_cases n18:o=18
  . have z:(o:Int)=18:=by omega
    simp [z,e1,e2,e3,e4,e5,e6,e7,e8,w1,w2,w3,w4,w5,w6,w7,w9,w10,w11,w12,w13,qCs,qCt,qAs,qAu,resV,retV];subst n18;exact hfin ⟨18,0,r,0⟩ _ (by rw [hm]; rfl)
  have z18:¬ (o:Int)=18:=by omega
  simp [z18,-qAt]
  by_cases n19:o=19
  . have z:(o:Int)=19:=by omega
    simp [z,e1,e2,e3,e4,e5,e6,e7,e8,w1,w2,w3,w4,w5,w6,w7,w9,w10,w11,w12,w13,qCs,qCt,qAs,qAu,resV,retV];subst n19;exact hfin ⟨19,r,0,q⟩ _ (by rw [hm]; rfl)
  have z19:¬ (o:Int)=19:=by omega
  simp [z19,-qAt]
  by_cases n20:o=20
  . have z:(o:Int)=20:=by omega
    simp [z,e1,e2,e3,e4,e5,e6,e7,e8,w1,w2,w3,w4,w5,w6,w7,w9,w10,w11,w12,w13,qCs,qCt,qAs,qAu,resV,retV];subst n20;exact hfin ⟨20,0,r,0⟩ _ (by rw [hm]; rfl)
  have z20:¬ (o:Int)=20:=by omega
  simp [z20,-qAt];rw [qAt];simp [-qAt]
  by_cases n17:o=17∨o=21∨o=26
  . rcases n17 with rfl | rfl | rfl
    all_goals
      simp [e1,e2,e3,e4,e5,e6,e7,e8,w1,w2,w3,w4,w5,w6,w7,w9,w10,w11,w12,w13,qCs,qCt,qAs,qAu,resV,retV];exact hfin ⟨_,r,0,0⟩ _ (by rw [hm]; rfl)
  have z17:¬ (o:Int)=17∧¬ (o:Int)=21∧¬ (o:Int)=26:=by omega
  simp [z17,-qAt]
  by_cases n22:o=22
  . have z:(o:Int)=22:=by omega
    simp [z,e1,e2,e3,e4,e5,e6,e7,e8,w1,w2,w3,w4,w5,w6,w7,w9,w10,w11,w12,w13,qCs,qCt,qAs,qAu,resV,retV];subst n22;exact hfin ⟨22,r,0,q⟩ _ (by rw [hm]; rfl)
  have z22:¬ (o:Int)=22:=by omega
  simp [z22,-qAt]
  by_cases n24:o=24
  . have z:(o:Int)=24:=by omega
    simp [z,e1,e2,e3,e4,e5,e6,e7,e8,w1,w2,w3,w4,w5,w6,w7,w9,w10,w11,w12,w13,qCs,qCt,qAs,qAu,resV,retV];subst n24;exact hfin ⟨24,0,g3 - 1,0⟩ _ (by rw [hm]; rfl)
  have z24:¬ (o:Int)=24:=by omega
  simp [z24,e1,e2,e3,e4,e5,e6,e7,e8,w1,w2,w3,w4,w5,w6,w7,w9,w10,w11,w12,w13,qCs,qCt,qAs,qAu,resV,retV];exact hfin ⟨o,0,0,0⟩ _ (by rw [hm]; simp [n1,n2,n3,n7,n8,n9,n10,n11,n18,n19,n20,n17,n22,n24])
end
end Pm
