/- Registers that are yet to be read: the program's solution.
   No condition: plain lemmas. -/

import Derived.Test.YtdiggaadgjkgkaaGreatDoorZNPmFlow1
import Derived.Test.YtdiggaadgjkgkaaGreatDoorZNPmCfgC
import Derived.Test.YtdiggaadgjkgkaaGreatDoorZNPmSuccsR
namespace Pm
set_option linter.unusedSimpArgs false
set_option linter.unusedVariables false
open Go Am
open Go.Proofs.Tryz (prog)

theorem qAx {c:Ins}:cellsOf (.agg (vIns c).toArray)=some (vIns c):=rfl
theorem qBa {a b d e:Value} {c:Ins}:setAll [a,b,d,e] 0 (vIns c)=vIns c:=rfl
theorem qMh (i:Ins):qEj i < big:=qGq 3 i 3
theorem qMj (i:Ins):qGg i < big:=qGq 2 i 3
theorem RowV.cellA {H:Heap} {k ver e:Nat} {rs:List Ob} {cs:List Value} {off:Nat} (h:RowV H k ver e cs):(H++rs).cell? k off ver=cs[off]?:=by
  rw [cell_old h.lt,h.cell]
theorem RowV.at_ {H H':Heap} {k ver e:Nat} {cs:List Value} (h:RowV H k ver e cs) (h':H'[k]?=H[k]?):RowV H' k ver e cs:=h.keep h'
theorem AccL.frzC {α:Type} {f:α→Value} {b:Nat} {H:Heap} {v:Value} {l:List α} (ha:AccL f b H v l) (hc:∀ x,qCf (f x)=true) :
    ∃ v' H',Pm.frzC H v=some (v',H')∧Cv v' (vL f l)∧qBs b H H'∧H'.length=H.length∧∀ i,rid v≠some i→H'[i]?=H[i]?:=by
  rcases ha with ⟨rfl,h1,h2⟩ | ⟨id,ver,rfl,h2,h3,h4⟩
  . have e:l=[]:=List.length_eq_zero_iff.1 h1
    subst e;exact ⟨nilS,H,rfl,.nil,.refl _ _,rfl,fun _ _=>rfl⟩
  . obtain ⟨H',k1,k2,k3,k4⟩:=Acc.frz (e:=1) (b:=b) (h:=H) (v:=.slice (some ⟨id,0,none⟩) l.length ver) (n:=l.length) (cs:=l.map f) (.inr ⟨id,ver,rfl,h2,h3,h4⟩) (qHa hc l)
    exact ⟨vL f l,H',k1,.same _,k2,k3,k4⟩
section
variable {h : Heap} {K : Value → Heap → Prop}
theorem irUses_call {i:Ins} (ho:i.op≤255) (hk:K (vU (qEj i)) h):qBl prog 54 [.agg (vIns i).toArray] h K:=by
  refine Pure.go (Pure.one (p:=vU (qEj i)) rfl fun h=>?_) hk
  refine call_irUses (by simp) ?_
  simp [qAk,qAn,qAl,qAh,qAg,qAe,qAb,qAd,qAa,qAi,qAf,qAc,qAs,qAu,resV,retV,qAm,qAj,qAr,qAq,qAp,qAo,qPy,vIns];refine registers_call (i:=i) (w:=3) ho ?_;simp [qAk,qAn,qAl,qAh,qAg,qAe,qAb,qAd,qAa,qAi,qAf,qAc,qAs,qAu,resV,retV,qAm,qAj,qAr,qAq,qAp,qAo,callK_def,qEj]
theorem R2Uses_call {i:Ins} (hk:K (vU (qEj i)) h):qBl prog 76 [.agg (vIns i).toArray] h K:=by
  refine Pure.go (Pure.one (p:=vU (qEj i)) rfl fun h=>?_) hk
  refine call_R2Uses (by simp) ?_
  simp [qAk,qAn,qAl,qAh,qAg,qAe,qAb,qAd,qAa,qAi,qAf,qAc,qAs,qAu,resV,retV,qAm,qAj,qAr,qAq,qAp,qAo,qQd,vIns];refine R2of_call (i:=i) (w:=3) ?_;simp [qAk,qAn,qAl,qAh,qAg,qAe,qAb,qAd,qAa,qAi,qAf,qAc,qAs,qAu,resV,retV,qAm,qAj,qAr,qAq,qAp,qAo,callK_def,qEj]
end
end Pm

/- Registers that are yet to be read: what Ahead and Behind tell, by ways.
   No condition: plain lemmas. -/

namespace Pm
set_option linter.unusedSimpArgs false
set_option linter.unusedVariables false
open Go Am
open Go.Proofs.Tryz (prog)

inductive Lv (code:List Ins) (r:Nat):Nat→Prop
  | use {i:Nat} {c:Ins} (hc:code[i]?=some c) (hu:(qEj c).testBit r=true):Lv code r i
  | pass {i j:Nat} {c:Ins} (hc:code[i]?=some c) (hs:(qGg c).testBit r=false) (hj:(j:Int)∈qCu i c) (h:Lv code r j):Lv code r i
theorem Lv.lt {code:List Ins} {r i:Nat} (h:Lv code r i):i < code.length:=by
  cases h with
  | use hc _=>exact (List.getElem?_eq_some_iff.1 hc).1
  | pass hc _ _ _=>exact (List.getElem?_eq_some_iff.1 hc).1
theorem high_bit {x k:Nat} (hx:x < big) (hk:64≤k):x.testBit k=false:=by
  have e:big≤2 ^ k:=Nat.pow_le_pow_right (n:=2) (by omega) hk
  exact Nat.testBit_lt_two_pow (Nat.lt_of_lt_of_le hx e)
theorem Lv.low {code:List Ins} {r i:Nat} (h:Lv code r i):r < 64:=by
  induction h with
  | @use i c hc hu =>
    rcases Nat.lt_or_ge r 64 with h | h
    . exact h
    . rw [high_bit (qMh c) h] at hu; cases hu
  | pass _ _ _ _ ih=>exact ih
theorem Lv.step {code:List Ins} {r i:Nat} {c:Ins} (hc:code[i]?=some c):Lv code r i↔(qEj c).testBit r=true∨(qGg c).testBit r=false∧∃ j:Nat,(j:Int)∈qCu i c∧Lv code r j:=by
  constructor
  . intro h
    cases h with
    | use hc' hu=>rw [hc] at hc'; cases hc'; exact .inl hu
    | pass hc' hs hj h=>rw [hc] at hc'; cases hc'; exact .inr ⟨hs,_,hj,h⟩
  . rintro (h | ⟨h1,j,h2,h3⟩)
    . exact .use hc h
    . exact .pass hc h1 h2 h3
theorem qJq {code:List Ins} {i:Nat} {c:Ins} (hc:code[i]?=some c):qDr (succs code) i=qCu i c:=qEe (by rw [qIo,hc]; rfl)
section
variable {code : List Ins} {inn out : List Nat}
structure Aheads (code:List Ins) (a:List Nat):Prop where
  len:a.length=code.length
  lt:∀ i,gN a i < big
  bit:∀ i r,(gN a i).testBit r=true↔Lv code r i
structure Behinds (code:List Ins) (b:List Nat):Prop where
  len:b.length=code.length
  lt:∀ i,gN b i < big
  bit:∀ i r,(gN b i).testBit r=true↔i < code.length∧∃ j:Nat,(j:Int)∈qDr (succs code) i∧Lv code r j
theorem ext_gN {a b:List Nat} (hl:a.length=b.length) (h:∀ i,i < a.length→gN a i=gN b i):a=b:=by
  apply List.ext_getElem hl;intro i h1 h2;have:=h i h1
  rwa [gN_of (List.getElem?_eq_getElem h1),gN_of (List.getElem?_eq_getElem h2)] at this
theorem Aheads.unique {a b:List Nat} (ha:Aheads code a) (hb:Aheads code b):a=b :=
  ext_gN (by rw [ha.len,hb.len]) fun i _=>Nat.eq_of_testBit_eq fun r=>by rw [Bool.eq_iff_iff,ha.bit,hb.bit]
theorem Behinds.unique {a b:List Nat} (ha:Behinds code a) (hb:Behinds code b):a=b :=
  ext_gN (by rw [ha.len,hb.len]) fun i _=>Nat.eq_of_testBit_eq fun r=>by rw [Bool.eq_iff_iff,ha.bit,hb.bit]
end
section
variable {h : Heap} {K : Value → Heap → Prop}
end
end Pm
