/- Rows of plain instructions: where they begin, walked.
   No condition: plain lemmas. -/

import Derived.Test.YtdiggaadgjkgkaaGreatDoorZNPmIr2
import Derived.Test.YtdiggaadgjkgkaaGreatDoorZNPmVal7
import Derived.Test.YtdiggaadgjkgkaaGreatDoorZNPmLoop
import Derived.Test.YtdiggaadgjkgkaaGreatDoorZNPmFlow1
import Derived.Test.YtdiggaadgjkgkaaGreatDoorZNPmEdit
import Derived.Test.YtdiggaadgjkgkaaGreatDoorZNPmCfgC
namespace Pm
set_option linter.unusedSimpArgs false
set_option linter.unusedVariables false
open Go Am
open Go.Proofs.Tryz (prog)

theorem wN_0 {c:Ins}:(vIns c)[0]?=some (v8 c.op):=Eq.trans rfl rfl
theorem wN_1 {c:Ins}:(vIns c)[1]?=some (vI c.a):=Eq.trans rfl rfl
theorem wN_2 {c:Ins}:(vIns c)[2]?=some (vI c.b):=Eq.trans rfl rfl
theorem wN_3 {c:Ins}:(vIns c)[3]?=some (vI c.c):=Eq.trans rfl rfl
section
variable {h : Heap} {K : Value → Heap → Prop}
theorem irPlain_call {op:Nat} (ho:op≤255) (hk:K (vB (qDa op)) h):qBl prog 92 [v8 op] h K:=by
  refine Pure.go (Pure.one (p:=vB (qDa op)) rfl fun h=>?_) hk
  refine call_irPlain (by simp) ?_
  simp [qAk,qAn,qAl,qAh,qAg,qAe,qAb,qAd,qAa,qAi,qAf,qAc,qAs,qAu,resV,retV,qAm,qAj,qAr,qAq,qAp,qAo,qNr];refine irOf_call ho ?_;have hc:cellsOf (.agg (qCo op).toArray)=some (qCo op):=by
    simp only [qAy];rw [if_pos (by simpa using qJa op)]
  have hl:(qCo op).length=7:=by unfold qCo; split<;>rfl
  have hs:∀ a b c d e f g:Value,setAll [a,b,c,d,e,f,g] 0 (qCo op)=qCo op:=fun a b c d e f g=>by unfold qCo; split<;>rfl
  have h6:∀ hh,(qCo op)[4]'hh=vB (qDa op):=by
    unfold qCo
    split
    . intro _; rfl
    . intro _
      have:qDa op=false:=by unfold qDa; simp; omega
      rw [this]; rfl
  simp [qAk,qAn,qAl,qAh,qAg,qAe,qAb,qAd,qAa,qAi,qAf,qAc,qAs,qAu,resV,retV,qAm,qAj,qAr,qAq,qAp,qAo,-qAy,callK_def,hc,hl,hs,h6]
def qDo (l:List Bool) (x:Int):List Bool:=if 0≤x∧x < (l.length:Int) then l.set x.toNat true else l
theorem qFt (l:List Bool) (x:Int):(qDo l x).length=l.length:=by unfold qDo; split<;>simp
def slB (h:Heap) (n:Nat):Value:=.slice (some ⟨h.length,0,none⟩) n 0
theorem cells_slB {n:Nat}:cellsOf (slB h n)=some [slB h n]:=rfl
theorem callMark:qCg prog 127=true:=by kernel_rfl
theorem qFy {l:List Bool} {x:Int} {n:Nat} {g:Heap} (hn:n=l.length) (hk:K (.tuple #[]) (h++(bxL vB (qDo l x) :: bx [slB h n] 1 :: g))) :
    qBl prog 127 [vI x,ptr (h.length+1)] (h++(bxL vB l :: bx [slB h n] 1 :: g)) K:=by
  refine call_sgMark (by simp) ?_
  subst hn
  by_cases h0:0≤x∧x < (l.length:Int)
  . obtain ⟨j,rfl⟩:∃ j:Nat,x=j:=⟨x.toNat,by omega⟩
    have hj:j < l.length:=by omega
    have e:qDo l (j:Int)=l.set j true:=by unfold qDo; rw [if_pos h0]; simp
    rw [e] at hk;have hjI:(j:Int) < l.length:=by omega
    simp [qAk,qAn,qAl,qAh,qAg,qAe,qAb,qAd,qAa,qAi,qAf,qAc,qAs,qAu,resV,retV,qAm,qAj,qAr,qAq,qAp,qAo,qCa,qBd,qBn,qAv,qAw,qBg,qBw,qBz,qBe,qBb,qBf,qBc,qBp,qBo,qBi,qCm,qBy,qCn,qBx,qAz,qBm,qBq,qBj,qBk,qKh,slB,hj,hjI];exact hk
  . have e:qDo l x=l:=by unfold qDo; rw [if_neg h0]
    rw [e] at hk
    by_cases h1:0≤x
    . have h2:¬ x < (l.length:Int):=by omega
      simp [qAk,qAn,qAl,qAh,qAg,qAe,qAb,qAd,qAa,qAi,qAf,qAc,qAs,qAu,resV,retV,qAm,qAj,qAr,qAq,qAp,qAo,qCa,qBd,qBn,qAv,qAw,qBg,qBw,qBz,qBe,qBb,qBf,qBc,qBp,qBo,qBi,qCm,qBy,qCn,qBx,qAz,qBm,qBq,qBj,qBk,qKh,slB,h1,h2];exact hk
    . simp [qAk,qAn,qAl,qAh,qAg,qAe,qAb,qAd,qAa,qAi,qAf,qAc,qAs,qAu,resV,retV,qAm,qAj,qAr,qAq,qAp,qAo,qCa,qBd,qBn,qAv,qAw,qBg,qBw,qBz,qBe,qBb,qBf,qBc,qBp,qBo,qBi,qCm,qBy,qCn,qBx,qAz,qBm,qBq,qBj,qBk,qKh,slB,h1]
      exact hk
def qNx (l:List Bool) (i:Nat) (c:Ins):List Bool :=
  let l1:=if c.op=10 then qDo l c.a else if c.op=11 then qDo l c.b else l
  if qDa c.op=true then l1 else qDo (qDo l1 i) ((i:Int)+1)
def qCr (code:List Ins):Nat→List Bool
  | 0=>qDo (List.replicate code.length false) 0
  | i+1=>match code[i]? with | some c=>qNx (qCr code i) i c | none=>qCr code i
theorem stepH_len (l:List Bool) (i:Nat) (c:Ins):(qNx l i c).length=l.length:=by
  unfold qNx;simp only
  split<;>split<;>(try split)<;>simp [qFt]
theorem qEy (code:List Ins):∀ i,(qCr code i).length=code.length
  | 0=>by simp [qCr,qFt]
  | i+1=>by
    unfold qCr
    split
    . rw [stepH_len,qEy]
    . exact qEy code i
theorem headsTo_next {code:List Ins} {i i1:Nat} {c:Ins} (hc:code[i]?=some c) (hi:i1=i+1):qCr code i1=qNx (qCr code i) i c:=by
  subst hi;show (match code[i]? with | some c=>qNx (qCr code i) i c | none=>qCr code i)=_
  rw [hc]
set_option maxHeartbeats 4000000 in
theorem sgHeads_call {code:List Ins} (hl:code.length < lim) (ho:∀ i∈code,i.op≤255) (hk:∀ g,K (slB h code.length) (h++(bxL vB (qCr code code.length) :: g))):qBl prog 87 [vM 4 vIns code] h K:=by
  refine call_sgHeads (by simp) ?_
  have hlim:lim=1048576:=rfl;have hmk:∀ H:Heap,qIc H [vB false] 1 (vI code.length) (vI code.length)=some (slB H code.length,H++[bxL vB (List.replicate code.length false)]):=fun H=>by
    have:(0:Int)≤code.length∧(code.length:Int)≤code.length∧(code.length:Int)≤lim:=by omega
    simp only [qIc];rw [if_pos this];simp [slB,Am.newRow,bxL,bx,qRf]
  have hcm:=callMark;simp [-qAt,qAk,qAn,qAl,qAh,qAg,qAe,qAb,qAd,qAa,qAi,qAf,qAc,qAs,qAu,resV,retV,qAm,qAj,qAr,qAq,qAp,qAo,qCa,qBd,qBn,qAv,qAw,qBg,qBw,qBz,qBe,qBb,qBf,qBc,qBp,qBo,qBi,qCm,qBy,qCn,qBx,qAz,qBm,qBq,qBj,qBk,qNk,hmk,cells_slB];rw [qDn (f:=127) (first:=#[]) (caps:=#[ptr (h.length+1)]) (by simp) hcm]
  simp [-qAt,qAk,qAn,qAl,qAh,qAg,qAe,qAb,qAd,qAa,qAi,qAf,qAc,qAs,qAu,resV,retV,qAm,qAj,qAr,qAq,qAp,qAo,qCa,qBd,qBn,qAv,qAw,qBg,qBw,qBz,qBe,qBb,qBf,qBc,qBp,qBo,qBi,qCm,qBy,qCn,qBx,qAz,qBm,qBq,qBj,qBk];refine qFy (g:=[]) (by simp) ?_
  simp [-qAt,qAk,qAn,qAl,qAh,qAg,qAe,qAb,qAd,qAa,qAi,qAf,qAc,qAs,qAu,resV,retV,qAm,qAj,qAr,qAq,qAp,qAo,qCa,qBd,qBn,qAv,qAw,qBg,qBw,qBz,qBe,qBb,qBf,qBc,qBp,qBo,qBi,qCm,qBy,qCn,qBx,qAz,qBm,qBq,qBj,qBk,callK_def];rw [qAt];simp [-qAt,qAk,qAn,qAl,qAh,qAg,qAe,qAb,qAd,qAa,qAi,qAf,qAc,qAs,qAu,resV,retV,qAm,qAj,qAr,qAq,qAp,qAo,qCa,qBd,qBn,qAv,qAw,qBg,qBw,qBz,qBe,qBb,qBf,qBc,qBp,qBo,qBi,qCm,qBy,qCn,qBx,qAz,qBm,qBq,qBj,qBk]
  refine qDh (σ:=Nat×Heap) (fun x=>[(13,vM 4 vIns code),(14,vI code.length),(15,vI x.1),(3,ptr (h.length+1)),(4,.func (.func 127) #[] #[ptr (h.length+1)])]) (fun x=>h++(bxL vB (qCr code x.1) :: bx [slB h code.length] 1 :: x.2)) (fun x=>x.1≤code.length) (fun x=>code.length - x.1) (0,[]) (by simp) (by simp [qCr]) (by simp) ?_
  rintro ⟨i,g⟩ fr hi;simp only at hi ⊢
  by_cases hlt:i < code.length
  . obtain ⟨i1,hi1,wi⟩:=qBr (show i < lim by omega)
    have hif:(i:Int) < code.length:=by omega
    obtain ⟨c,hc⟩:∃ c,code[i]?=some c:=⟨_,List.getElem?_eq_getElem hlt⟩;have hop:=ho c (List.mem_of_getElem? hc);have hnx:=headsTo_next hc hi1;have hL:=qEy code i;obtain ⟨l,hle⟩:∃ l,l=qCr code i:=⟨_,rfl⟩;rw [← hle] at hL hnx ⊢;have cl:∀ l':List Bool,(h++(bxL vB l' :: bx [slB h code.length] 1 :: g)).length=h.length+(g.length+2):=fun l'=>by simp
    simp [-qAt,qAk,qAn,qAl,qAh,qAg,qAe,qAb,qAd,qAa,qAi,qAf,qAc,qAs,qAu,resV,retV,qAm,qAj,qAr,qAq,qAp,qAo,qCa,qBd,qBn,qAv,qAw,qBg,qBw,qBz,qBe,qBb,qBf,qBc,qBp,qBo,qBi,qCm,qBy,qCn,qBx,qAz,qBm,qBq,qBj,qBk,hif,hc,-qAy,qAw,qAv,qAx,qBa,wN_0,wN_1,wN_2,wN_3];rw [qAt];simp [-qAt,qAk,qAn,qAl,qAh,qAg,qAe,qAb,qAd,qAa,qAi,qAf,qAc,qAs,qAu,resV,retV,qAm,qAj,qAr,qAq,qAp,qAo,qCa,qBd,qBn,qAv,qAw,qBg,qBw,qBz,qBe,qBb,qBf,qBc,qBp,qBo,qBi,qCm,qBy,qCn,qBx,qAz,qBm,qBq,qBj,qBk,hif,hc,-qAy,qAw,qAv,qAx,qBa,wN_0,wN_1,wN_2,wN_3]
    rw [qAt];simp [-qAt,qAk,qAn,qAl,qAh,qAg,qAe,qAb,qAd,qAa,qAi,qAf,qAc,qAs,qAu,resV,retV,qAm,qAj,qAr,qAq,qAp,qAo,qCa,qBd,qBn,qAv,qAw,qBg,qBw,qBz,qBe,qBb,qBf,qBc,qBp,qBo,qBi,qCm,qBy,qCn,qBx,qAz,qBm,qBq,qBj,qBk,hif,hc,-qAy,qAw,qAv,qAx,qBa,wN_0,wN_1,wN_2,wN_3];refine qUa (σ:=Unit) (fun _=>[(13,vM 4 vIns code),(14,vI code.length),(15,vI i),(3,ptr (h.length+1)),(4,.func (.func 127) #[] #[ptr (h.length+1)]),(5,vI i),(6,ptr (h.length+(g.length+2)))])
      (fun _=>h++(bxL vB (if c.op=10 then qDo l c.a else if c.op=11 then qDo l c.b else l) :: bx [slB h code.length] 1 :: (g++[bx (vIns c) 4]))) (fun _=>True) ?_ ?_
    . simp [-qAt,qAk,qAn,qAl,qAh,qAg,qAe,qAb,qAd,qAa,qAi,qAf,qAc,qAs,qAu,resV,retV,qAm,qAj,qAr,qAq,qAp,qAo,qCa,qBd,qBn,qAv,qAw,qBg,qBw,qBz,qBe,qBb,qBf,qBc,qBp,qBo,qBi,qCm,qBy,qCn,qBx,qAz,qBm,qBq,qBj,qBk,-qAy,qAw,qAv,qAx,qBa,wN_0,wN_1,wN_2,wN_3]
      by_cases h10:c.op=10
      . have h10I:(c.op:Int)=10:=by omega
        simp [-qAt,qAk,qAn,qAl,qAh,qAg,qAe,qAb,qAd,qAa,qAi,qAf,qAc,qAs,qAu,resV,retV,qAm,qAj,qAr,qAq,qAp,qAo,qCa,qBd,qBn,qAv,qAw,qBg,qBw,qBz,qBe,qBb,qBf,qBc,qBp,qBo,qBi,qCm,qBy,qCn,qBx,qAz,qBm,qBq,qBj,qBk,h10,h10I,-qAy,qAw,qAv,qAx,qBa,wN_0,wN_1,wN_2,wN_3];rw [qDn (f:=127) (first:=#[]) (caps:=#[ptr (h.length+1)]) (by simp) hcm]
        simp [-qAt,qAk,qAn,qAl,qAh,qAg,qAe,qAb,qAd,qAa,qAi,qAf,qAc,qAs,qAu,resV,retV,qAm,qAj,qAr,qAq,qAp,qAo,qCa,qBd,qBn,qAv,qAw,qBg,qBw,qBz,qBe,qBb,qBf,qBc,qBp,qBo,qBi,qCm,qBy,qCn,qBx,qAz,qBm,qBq,qBj,qBk];refine qFy (g:=g++[bx (vIns c) 4]) hL.symm ?_;simp [qAk,qAn,qAl,qAh,qAg,qAe,qAb,qAd,qAa,qAi,qAf,qAc,qAs,qAu,resV,retV,qAm,qAj,qAr,qAq,qAp,qAo,qCa,qBd,qBn,qAv,qAw,qBg,qBw,qBz,qBe,qBb,qBf,qBc,qBp,qBo,qBi,qCm,qBy,qCn,qBx,qAz,qBm,qBq,qBj,qBk,callK_def]
        exact .go () (by simp) rfl trivial
      . have h10I:¬ (c.op:Int)=10:=by omega
        by_cases h11:c.op=11
        . have h11I:(c.op:Int)=11:=by omega
          simp [-qAt,qAk,qAn,qAl,qAh,qAg,qAe,qAb,qAd,qAa,qAi,qAf,qAc,qAs,qAu,resV,retV,qAm,qAj,qAr,qAq,qAp,qAo,qCa,qBd,qBn,qAv,qAw,qBg,qBw,qBz,qBe,qBb,qBf,qBc,qBp,qBo,qBi,qCm,qBy,qCn,qBx,qAz,qBm,qBq,qBj,qBk,h11,h11I,-qAy,qAw,qAv,qAx,qBa,wN_0,wN_1,wN_2,wN_3];rw [qDn (f:=127) (first:=#[]) (caps:=#[ptr (h.length+1)]) (by simp) hcm]
          simp [-qAt,qAk,qAn,qAl,qAh,qAg,qAe,qAb,qAd,qAa,qAi,qAf,qAc,qAs,qAu,resV,retV,qAm,qAj,qAr,qAq,qAp,qAo,qCa,qBd,qBn,qAv,qAw,qBg,qBw,qBz,qBe,qBb,qBf,qBc,qBp,qBo,qBi,qCm,qBy,qCn,qBx,qAz,qBm,qBq,qBj,qBk];refine qFy (g:=g++[bx (vIns c) 4]) hL.symm ?_;simp [qAk,qAn,qAl,qAh,qAg,qAe,qAb,qAd,qAa,qAi,qAf,qAc,qAs,qAu,resV,retV,qAm,qAj,qAr,qAq,qAp,qAo,qCa,qBd,qBn,qAv,qAw,qBg,qBw,qBz,qBe,qBb,qBf,qBc,qBp,qBo,qBi,qCm,qBy,qCn,qBx,qAz,qBm,qBq,qBj,qBk,callK_def]
          exact .go () (by simp) rfl trivial
        . have h11I:¬ (c.op:Int)=11:=by omega
          simp [qAk,qAn,qAl,qAh,qAg,qAe,qAb,qAd,qAa,qAi,qAf,qAc,qAs,qAu,resV,retV,qAm,qAj,qAr,qAq,qAp,qAo,qCa,qBd,qBn,qAv,qAw,qBg,qBw,qBz,qBe,qBb,qBf,qBc,qBp,qBo,qBi,qCm,qBy,qCn,qBx,qAz,qBm,qBq,qBj,qBk,h10,h10I,h11,h11I,-qAy,qAw,qAv,qAx,qBa,wN_0,wN_1,wN_2,wN_3];exact .go () (by simp) rfl trivial
    . rintro ⟨⟩ fr _
      obtain ⟨l1,hl1⟩:∃ l1,l1=(if c.op=10 then qDo l c.a else if c.op=11 then qDo l c.b else l):=⟨_,rfl⟩
      have hL1:l1.length=code.length:=by rw [hl1]; split<;>(try split)<;>simp [qFt,hL]
      rw [← hl1];have hst:qNx l i c=if qDa c.op=true then l1 else qDo (qDo l1 i) ((i:Int)+1):=by unfold qNx; simp only; rw [← hl1]
      rw [hst] at hnx;simp [-qAt,qAk,qAn,qAl,qAh,qAg,qAe,qAb,qAd,qAa,qAi,qAf,qAc,qAs,qAu,resV,retV,qAm,qAj,qAr,qAq,qAp,qAo,qCa,qBd,qBn,qAv,qAw,qBg,qBw,qBz,qBe,qBb,qBf,qBc,qBp,qBo,qBi,qCm,qBy,qCn,qBx,qAz,qBm,qBq,qBj,qBk,-qAy,qAw,qAv,qAx,qBa,wN_0,wN_1,wN_2,wN_3];refine irPlain_call hop ?_;cases hpl:qDa c.op with
      | true =>
        rw [hpl,if_pos rfl] at hnx;simp [qAk,qAn,qAl,qAh,qAg,qAe,qAb,qAd,qAa,qAi,qAf,qAc,qAs,qAu,resV,retV,qAm,qAj,qAr,qAq,qAp,qAo,qCa,qBd,qBn,qAv,qAw,qBg,qBw,qBz,qBe,qBb,qBf,qBc,qBp,qBo,qBi,qCm,qBy,qCn,qBx,qAz,qBm,qBq,qBj,qBk,callK_def,wi];exact .go (i1,g++[bx (vIns c) 4]) (by simp only []; omega) (by simp) (by rw [hnx]) (by simp only []; omega)
      | false =>
        rw [hpl,if_neg (by simp)] at hnx
        simp [-qAt,qAk,qAn,qAl,qAh,qAg,qAe,qAb,qAd,qAa,qAi,qAf,qAc,qAs,qAu,resV,retV,qAm,qAj,qAr,qAq,qAp,qAo,qCa,qBd,qBn,qAv,qAw,qBg,qBw,qBz,qBe,qBb,qBf,qBc,qBp,qBo,qBi,qCm,qBy,qCn,qBx,qAz,qBm,qBq,qBj,qBk,callK_def];rw [qDn (f:=127) (first:=#[]) (caps:=#[ptr (h.length+1)]) (by simp) hcm]
        simp [-qAt,qAk,qAn,qAl,qAh,qAg,qAe,qAb,qAd,qAa,qAi,qAf,qAc,qAs,qAu,resV,retV,qAm,qAj,qAr,qAq,qAp,qAo,qCa,qBd,qBn,qAv,qAw,qBg,qBw,qBz,qBe,qBb,qBf,qBc,qBp,qBo,qBi,qCm,qBy,qCn,qBx,qAz,qBm,qBq,qBj,qBk];refine qFy (g:=g++[bx (vIns c) 4]) hL1.symm ?_;simp [-qAt,qAk,qAn,qAl,qAh,qAg,qAe,qAb,qAd,qAa,qAi,qAf,qAc,qAs,qAu,resV,retV,qAm,qAj,qAr,qAq,qAp,qAo,qCa,qBd,qBn,qAv,qAw,qBg,qBw,qBz,qBe,qBb,qBf,qBc,qBp,qBo,qBi,qCm,qBy,qCn,qBx,qAz,qBm,qBq,qBj,qBk,callK_def,wi]
        rw [qDn (f:=127) (first:=#[]) (caps:=#[ptr (h.length+1)]) (by simp) hcm]
        simp [-qAt,qAk,qAn,qAl,qAh,qAg,qAe,qAb,qAd,qAa,qAi,qAf,qAc,qAs,qAu,resV,retV,qAm,qAj,qAr,qAq,qAp,qAo,qCa,qBd,qBn,qAv,qAw,qBg,qBw,qBz,qBe,qBb,qBf,qBc,qBp,qBo,qBi,qCm,qBy,qCn,qBx,qAz,qBm,qBq,qBj,qBk];refine qFy (g:=g++[bx (vIns c) 4]) (by rw [qFt,hL1]) ?_
        simp [qAk,qAn,qAl,qAh,qAg,qAe,qAb,qAd,qAa,qAi,qAf,qAc,qAs,qAu,resV,retV,qAm,qAj,qAr,qAq,qAp,qAo,qCa,qBd,qBn,qAv,qAw,qBg,qBw,qBz,qBe,qBb,qBf,qBc,qBp,qBo,qBi,qCm,qBy,qCn,qBx,qAz,qBm,qBq,qBj,qBk,callK_def,wi];exact .go (i1,g++[bx (vIns c) 4]) (by simp only []; omega) (by simp) (by rw [hnx,hi1]; simp) (by simp only []; omega)
  . obtain rfl:i=code.length:=by omega
    simp [qAk,qAn,qAl,qAh,qAg,qAe,qAb,qAd,qAa,qAi,qAf,qAc,qAs,qAu,resV,retV,qAm,qAj,qAr,qAq,qAp,qAo,qCa,qBd,qBn,qAv,qAw,qBg,qBw,qBz,qBe,qBb,qBf,qBc,qBp,qBo,qBi,qCm,qBy,qCn,qBx,qAz,qBm,qBq,qBj,qBk,cells_slB];exact hk _
end
end Pm

/- Rows of plain instructions: where the row of a place begins, walked.
   No condition: plain lemmas. -/

namespace Pm
set_option linter.unusedSimpArgs false
set_option linter.unusedVariables false
open Go Am
open Go.Proofs.Tryz (prog)

section
variable {h : Heap} {K : Value → Heap → Prop}
theorem sgThere_call {code:List Ins} {i:Int} (hk:K (vB (decide (0≤i∧i < (code.length:Int)))) h):qBl prog 86 [vM 4 vIns code,vI i] h K:=by
  refine Pure.go (Pure.one (p:=vB (decide (0≤i∧i < (code.length:Int)))) rfl fun h=>?_) hk
  refine call_sgThere (by simp) ?_
  by_cases h0:0≤i
  . by_cases h1:i < (code.length:Int)
    . simp [qAk,qAn,qAl,qAh,qAg,qAe,qAb,qAd,qAa,qAi,qAf,qAc,qAs,qAu,resV,retV,qAm,qAj,qAr,qAq,qAp,qAo,qIg,h0,h1]
    . simp [qAk,qAn,qAl,qAh,qAg,qAe,qAb,qAd,qAa,qAi,qAf,qAc,qAs,qAu,resV,retV,qAm,qAj,qAr,qAq,qAp,qAo,qIg,h0,h1]
  . simp [qAk,qAn,qAl,qAh,qAg,qAe,qAb,qAd,qAa,qAi,qAf,qAc,qAs,qAu,resV,retV,qAm,qAj,qAr,qAq,qAp,qAo,qIg,h0]
structure RevT (l:List Bool) (m i:Nat) (r:List Bool):Prop where
  len:r.length=l.length
  at':∀ p,r[p]?=if p < m∧(p < i∨m≤p+i) then l[m - 1 - p]? else l[p]?
theorem RevT.start {l:List Bool} {m:Nat}:RevT l m 0 l:=⟨rfl,fun p=>by rw [if_neg (by omega)]⟩
theorem RevT.next {l r:List Bool} {m i:Nat} {x y:Bool} (v:RevT l m i r) (hm:m≤l.length) (hi:i < m - 1 - i) (hx:r[i]?=some x) (hy:r[m - 1 - i]?=some y):RevT l m (i+1) ((r.set i y).set (m - 1 - i) x):=by
  refine ⟨by simp [v.len],fun p=>?_⟩
  have ex:l[i]?=some x:=by rw [v.at' i,if_neg (by omega)] at hx; exact hx
  have ey:l[m - 1 - i]?=some y:=by rw [v.at' (m - 1 - i),if_neg (by omega)] at hy; exact hy
  have hl:=v.len
  by_cases e1:p=m - 1 - i
  . subst e1
    rw [List.getElem?_set_self (by simp; omega),if_pos (by omega),show m - 1 - (m - 1 - i)=i by omega,ex]
  . rw [List.getElem?_set_ne (by omega)]
    by_cases e2:p=i
    . subst e2
      rw [List.getElem?_set_self (by omega),if_pos (by omega),ey]
    . rw [List.getElem?_set_ne (by omega),v.at' p]
      by_cases e3:p < m∧(p < i∨m≤p+i)
      . rw [if_pos e3,if_pos (by omega)]
      . rw [if_neg e3,if_neg (by omega)]
theorem RevT.fin {l r:List Bool} {m i:Nat} (v:RevT l m i r) (hi:¬ i < m - 1 - i):∀ p,p < m→r[p]?=l[m - 1 - p]?:=fun p hp=>by
  rw [v.at' p]
  split
  . rfl
  . congr 1; omega
set_option maxHeartbeats 4000000 in
theorem RevB_call {l:List Bool} {m:Nat} {g:Heap} (hm:m≤l.length) (hl:l.length < lim) (hk:∀ r,r.length=l.length→(∀ p,p < m→r[p]?=l[m - 1 - p]?)→K (.tuple #[]) (h++(bxL vB r :: g))) :
    qBl prog 88 [slB h m] (h++(bxL vB l :: g)) K:=by
  refine call_RevB (by simp) ?_
  have hlim:lim=1048576:=rfl;have hll:pLen (slB h m)=some (vI m):=rfl;have hix:∀ i:Nat,i < m→qGa 1 (slB h m) (vI i)=some (.pointer (some ⟨h.length,i,some 0⟩)):=fun i hi=>by
    simp [qGa,qDx,qGf,slB,hi]
  have w1:IntKind.i64.wrap ((m:Int) - 1)=(m:Int) - 1:=wrap_i64 (by omega) (by omega)
  simp [qAk,qAn,qAl,qAh,qAg,qAe,qAb,qAd,qAa,qAi,qAf,qAc,qAs,qAu,resV,retV,qAm,qAj,qAr,qAq,qAp,qAo,qCa,qBd,qBn,qAv,qAw,qBg,qBw,qBz,qBe,qBb,qBf,qBc,qBp,qBo,qBi,qCm,qBy,qCn,qBx,qAz,qBm,qBq,qBj,qBk,qTi,hll,w1];refine qDh (σ:=Nat×List Bool) (fun x=>[(0,slB h m),(2,vI x.1),(3,vI ((m:Int) - 1 - x.1))]) (fun x=>h++(bxL vB x.2 :: g)) (fun x=>2 * x.1≤m+1∧RevT l m x.1 x.2) (fun x=>m+1 - 2 * x.1) (0,l) (by simp) rfl ⟨by simp,.start⟩ ?_
  rintro ⟨i,r⟩ fr ⟨hi,v⟩;simp only at hi v ⊢;have hrl:=v.len
  by_cases hlt:i < m - 1 - i
  . have hltI:(i:Int) < (m:Int) - 1 - i:=by omega
    obtain ⟨j,hj⟩:∃ j:Nat,j=m - 1 - i:=⟨_,rfl⟩;have hjI:(m:Int) - 1 - i=j:=by omega
    have hjl:j < r.length:=by omega
    have hil:i < r.length:=by omega
    obtain ⟨x,hx⟩:∃ x,r[i]?=some x:=⟨_,List.getElem?_eq_getElem hil⟩;obtain ⟨y,hy⟩:∃ y,r[j]?=some y:=⟨_,List.getElem?_eq_getElem hjl⟩;have nx:=v.next hm hlt hx (by rw [← hj]; exact hy)
    rw [← hj] at nx;have xi:=hix i (by omega)
    have xj:=hix j (by omega)
    obtain ⟨i1,hi1,wi⟩:=qBr (show i < lim by omega)
    have wj:IntKind.i64.wrap ((j:Int) - 1)=(m:Int) - 1 - i1:=by rw [wrap_i64 (by omega) (by omega)]; omega
    have hijI:(i:Int) < j:=by omega
    have hne:i≠j:=by omega
    simp [qAk,qAn,qAl,qAh,qAg,qAe,qAb,qAd,qAa,qAi,qAf,qAc,qAs,qAu,resV,retV,qAm,qAj,qAr,qAq,qAp,qAo,qCa,qBd,qBn,qAv,qAw,qBg,qBw,qBz,qBe,qBb,qBf,qBc,qBp,qBo,qBi,qCm,qBy,qCn,qBx,qAz,qBm,qBq,qBj,qBk,hjI,hijI,xi,xj,hx,hy,hjl,hil,wi,wj];refine .go (i1,(r.set i y).set j x) (by simp only []; omega) (by simp) ?_ ⟨by simp only []; omega,by rw [hi1]; exact nx⟩
    rw [(List.getElem?_eq_some_iff.1 hx).2,(List.getElem?_eq_some_iff.1 hy).2]
  . have hltI:¬ (i:Int) < (m:Int) - 1 - i:=by omega
    simp [qAk,qAn,qAl,qAh,qAg,qAe,qAb,qAd,qAa,qAi,qAf,qAc,qAs,qAu,resV,retV,qAm,qAj,qAr,qAq,qAp,qAo,qCa,qBd,qBn,qAv,qAw,qBg,qBw,qBz,qBe,qBb,qBf,qBc,qBp,qBo,qBi,qCm,qBy,qCn,qBx,qAz,qBm,qBq,qBj,qBk,hltI];exact hk r hrl (v.fin hlt)
def FstT (r:List Bool) (m:Nat) (d:Int):Prop:=(∃ k:Nat,d=k∧k < m∧r[k]?=some true∧∀ j,j < k→r[j]?=some false)∨(d=-1∧∀ j,j < m→r[j]?=some false)
theorem IdxB_call {r:List Bool} {m:Nat} {g:Heap} (hm:m≤r.length) (hl:r.length < lim) (hk:∀ d,FstT r m d→K (vI d) (h++(bxL vB r :: g))) :
    qBl prog 89 [slB h m,vB true] (h++(bxL vB r :: g)) K:=by
  refine call_IdxB (by simp) ?_
  have hlim:lim=1048576:=rfl;have hll:pLen (slB h m)=some (vI m):=rfl;have hix:∀ i:Nat,i < m→qGa 1 (slB h m) (vI i)=some (.pointer (some ⟨h.length,i,some 0⟩)):=fun i hi=>by
    simp [qGa,qDx,qGf,slB,hi]
  simp [qAk,qAn,qAl,qAh,qAg,qAe,qAb,qAd,qAa,qAi,qAf,qAc,qAs,qAu,resV,retV,qAm,qAj,qAr,qAq,qAp,qAo,qCa,qBd,qBn,qAv,qAw,qBg,qBw,qBz,qBe,qBb,qBf,qBc,qBp,qBo,qBi,qCm,qBy,qCn,qBx,qAz,qBm,qBq,qBj,qBk,qTk,hll];refine qDh (σ:=Nat) (fun x=>[(0,slB h m),(1,vB true),(7,vI m),(8,vI x)]) (fun _=>h++(bxL vB r :: g)) (fun x=>x≤m∧∀ j,j < x→r[j]?=some false) (fun x=>m - x) 0 (by simp) rfl ⟨by simp,fun j hj=>by omega⟩ ?_
  rintro i fr ⟨hi,hf⟩
  by_cases hlt:i < m
  . obtain ⟨i1,hi1,wi⟩:=qBr (show i < lim by omega)
    have hif:(i:Int) < m:=by omega
    have hil:i < r.length:=by omega
    obtain ⟨x,hx⟩:∃ x,r[i]?=some x:=⟨_,List.getElem?_eq_getElem hil⟩;have xi:=hix i hlt;cases x with
    | true =>
      simp [qAk,qAn,qAl,qAh,qAg,qAe,qAb,qAd,qAa,qAi,qAf,qAc,qAs,qAu,resV,retV,qAm,qAj,qAr,qAq,qAp,qAo,qCa,qBd,qBn,qAv,qAw,qBg,qBw,qBz,qBe,qBb,qBf,qBc,qBp,qBo,qBi,qCm,qBy,qCn,qBx,qAz,qBm,qBq,qBj,qBk,hif,xi,hx];exact hk i (.inl ⟨i,rfl,hlt,hx,hf⟩)
    | false =>
      simp [qAk,qAn,qAl,qAh,qAg,qAe,qAb,qAd,qAa,qAi,qAf,qAc,qAs,qAu,resV,retV,qAm,qAj,qAr,qAq,qAp,qAo,qCa,qBd,qBn,qAv,qAw,qBg,qBw,qBz,qBe,qBb,qBf,qBc,qBp,qBo,qBi,qCm,qBy,qCn,qBx,qAz,qBm,qBq,qBj,qBk,hif,xi,hx,wi];refine .go i1 (by omega) (by simp) rfl ⟨by omega,fun j hj=>?_⟩
      by_cases e:j=i
      . rw [e,hx]
      . exact hf j (by omega)
  . have hif:¬ (i:Int) < m:=by omega
    simp [qAk,qAn,qAl,qAh,qAg,qAe,qAb,qAd,qAa,qAi,qAf,qAc,qAs,qAu,resV,retV,qAm,qAj,qAr,qAq,qAp,qAo,qCa,qBd,qBn,qAv,qAw,qBg,qBw,qBz,qBe,qBb,qBf,qBc,qBp,qBo,qBi,qCm,qBy,qCn,qBx,qAz,qBm,qBq,qBj,qBk,hif];exact hk (-1) (.inr ⟨rfl,fun j hj=>hf j (by omega)⟩)
def qJj (l:List Bool):Nat→Nat
  | 0=>0
  | i+1=>if l[i+1]?=some true then i+1 else qJj l i
theorem qOm {l:List Bool}:∀ {i q:Nat},q≤i→l[q]?=some true→(∀ j,q < j→j≤i→l[j]?=some false)→qJj l i=q
  | 0,q,h,_,_=>by show 0=q; omega
  | i+1,q,h,h1,h2=>by
    unfold qJj
    by_cases e:q=i+1
    . rw [e] at h1; rw [if_pos h1,e]
    . rw [if_neg (by rw [h2 (i+1) (by omega) (Nat.le_refl _)]; simp)]
      exact qOm (by omega) h1 fun j a b=>h2 j a (by omega)
theorem headsTo_0 (code:List Ins) (h0:0 < code.length):∀ i,(qCr code i)[0]?=some true:=by
  have mk:∀ (l:List Bool) (x:Int),l[0]?=some true→(qDo l x)[0]?=some true:=fun l x h=>by
    unfold qDo
    split
    . rename_i hx
      by_cases e:x.toNat=0
      . rw [e,List.getElem?_set_self (by omega)]
      . rw [List.getElem?_set_ne e]; exact h
    . exact h
  intro i
  induction i with
  | zero =>
    unfold qCr qDo;rw [if_pos (by simp; omega)]
    rw [show ((0:Int)).toNat=0 from rfl,List.getElem?_set_self (by simp; omega)]
  | succ i ih =>
    unfold qCr
    split
    . unfold qNx
      simp only
      split<;>split<;>(try split)<;>first | exact ih | exact mk _ _ ih | exact mk _ _ (mk _ _ ih) | exact mk _ _ (mk _ _ (mk _ _ ih))
    . exact ih
set_option maxHeartbeats 4000000 in
theorem sgHead_call {code:List Ins} {i:Nat} (hl:code.length < lim) (hi:i < code.length) (ho:∀ i∈code,i.op≤255) (hk:K (vI (qJj (qCr code code.length) i)) h):qBl prog 45 [vM 4 vIns code,vI i] h K:=by
  refine qBl.forget ?_;refine call_sgHead (by simp) ?_
  have hlim:lim=1048576:=rfl;have hd:decide ((0:Int)≤i∧(i:Int) < (code.length:Int))=true:=by simp; omega
  simp [-qAt,qAk,qAn,qAl,qAh,qAg,qAe,qAb,qAd,qAa,qAi,qAf,qAc,qAs,qAu,resV,retV,qAm,qAj,qAr,qAq,qAp,qAo,qCa,qBd,qBn,qAv,qAw,qBg,qBw,qBz,qBe,qBb,qBf,qBc,qBp,qBo,qBi,qCm,qBy,qCn,qBx,qAz,qBm,qBq,qBj,qBk,qPn];rw [qAt];simp [-qAt,qAk,qAn,qAl,qAh,qAg,qAe,qAb,qAd,qAa,qAi,qAf,qAc,qAs,qAu,resV,retV,qAm,qAj,qAr,qAq,qAp,qAo,qCa,qBd,qBn,qAv,qAw,qBg,qBw,qBz,qBe,qBb,qBf,qBc,qBp,qBo,qBi,qCm,qBy,qCn,qBx,qAz,qBm,qBq,qBj,qBk]
  refine sgThere_call ?_;rw [hd];simp [-qAt,qAk,qAn,qAl,qAh,qAg,qAe,qAb,qAd,qAa,qAi,qAf,qAc,qAs,qAu,resV,retV,qAm,qAj,qAr,qAq,qAp,qAo,qCa,qBd,qBn,qAv,qAw,qBg,qBw,qBz,qBe,qBb,qBf,qBc,qBp,qBo,qBi,qCm,qBy,qCn,qBx,qAz,qBm,qBq,qBj,qBk,callK_def];refine sgHeads_call hl ho fun g=>?_
  have hL:=qEy code code.length;obtain ⟨l,hle⟩:∃ l,l=qCr code code.length:=⟨_,rfl⟩;have h0:=headsTo_0 code (by omega) code.length
  rw [← hle] at hL h0 hk ⊢;obtain ⟨i1,hi1,wi⟩:=qBr (show i < lim by omega)
  have hcut:∀ H:Heap,H=h++(bxL vB l :: g)→pCut H 1 (slB h code.length) none (some (vI i1))=some (slB h i1):=fun H hH=>by
    subst hH;have hle1:i1≤code.length:=by omega
    simp [pCut,qDx,cutV,slB,Heap.row?,bxL,bx,hle1]
  simp [-qAt,qAk,qAn,qAl,qAh,qAg,qAe,qAb,qAd,qAa,qAi,qAf,qAc,qAs,qAu,resV,retV,qAm,qAj,qAr,qAq,qAp,qAo,qCa,qBd,qBn,qAv,qAw,qBg,qBw,qBz,qBe,qBb,qBf,qBc,qBp,qBo,qBi,qCm,qBy,qCn,qBx,qAz,qBm,qBq,qBj,qBk,callK_def,wi,hcut _ rfl];refine RevB_call (by omega) (by omega) fun r hr1 hr2=>?_
  simp [-qAt,qAk,qAn,qAl,qAh,qAg,qAe,qAb,qAd,qAa,qAi,qAf,qAc,qAs,qAu,resV,retV,qAm,qAj,qAr,qAq,qAp,qAo,qCa,qBd,qBn,qAv,qAw,qBg,qBw,qBz,qBe,qBb,qBf,qBc,qBp,qBo,qBi,qCm,qBy,qCn,qBx,qAz,qBm,qBq,qBj,qBk,callK_def];refine IdxB_call (by omega) (by omega) fun d hd=>?_
  have hrow:∃ q:Nat,d=q∧q≤i∧qJj l i=i - q:=by
    rcases hd with ⟨q,e1,e2,e3,e4⟩ | ⟨e1,e2⟩
    . refine ⟨q,e1,by omega,qOm (by omega) ?_ fun j j1 j2=>?_⟩
      . rw [hr2 q e2,show i1 - 1 - q=i - q by omega] at e3; exact e3
      . have:=e4 (i - j) (by omega)
        rw [hr2 _ (by omega),show i1 - 1 - (i - j)=j by omega] at this
        exact this
    . exfalso
      have:=e2 i (by omega)
      rw [hr2 i (by omega),show i1 - 1 - i=0 by omega,h0] at this
      cases this
  obtain ⟨q,rfl,hq,he⟩:=hrow;have wq:IntKind.i64.wrap ((i:Int) - q)=((qJj l i:Nat):Int):=by rw [he,wrap_i64 (by omega) (by omega)]; omega
  simp [qAk,qAn,qAl,qAh,qAg,qAe,qAb,qAd,qAa,qAi,qAf,qAc,qAs,qAu,resV,retV,qAm,qAj,qAr,qAq,qAp,qAo,qCa,qBd,qBn,qAv,qAw,qBg,qBw,qBz,qBe,qBb,qBf,qBc,qBp,qBo,qBi,qCm,qBy,qCn,qBx,qAz,qBm,qBq,qBj,qBk,callK_def,wq];exact ⟨_,.cell rfl,hk⟩
end
end Pm
