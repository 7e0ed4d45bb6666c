/- Registers that are yet to be read: the program's solution.
   No condition: plain lemmas. -/

import Derived.Test.YtdiggaadgjkgkaaDoorZMPmFlow1
import Derived.Test.YtdiggaadgjkgkaaDoorZMPmCfgC
import Derived.Test.YtdiggaadgjkgkaaDoorZMPmSuccs
import Derived.Test.YtdiggaadgjkgkaaDoorZMPmCfg3
namespace Pm
set_option linter.unusedSimpArgs false
set_option linter.unusedVariables false
open Go Am
open Go.Proofs.Tryd (prog)

theorem qAx {c:Ins}:cellsOf (.agg (vIns c).toArray)=some (vIns c):=rfl
theorem qBa {a b d e:Value} {c:Ins}:setAll [a,b,d,e] 0 (vIns c)=vIns c:=rfl
theorem usesOf_lt (i:Ins):qHc i < big:=qHg 3 i 3
theorem setsOf_lt (i:Ins):qJb i < big:=qHg 2 i 3
theorem RowV.cellA {H:Heap} {k ver e:Nat} {rs:List Ob} {cs:List Value} {off:Nat} (h:RowV H k ver e cs):(H++rs).cell? k off ver=cs[off]?:=by
  rw [cell_old h.lt,h.cell]
theorem RowV.at_ {H H':Heap} {k ver e:Nat} {cs:List Value} (h:RowV H k ver e cs) (h':H'[k]?=H[k]?):RowV H' k ver e cs:=h.keep h'
theorem AccL.frzC {α:Type} {f:α→Value} {b:Nat} {H:Heap} {v:Value} {l:List α} (ha:AccL f b H v l) (hc:∀ x,qBw (f x)=true) :
    ∃ v' H',Pm.frzC H v=some (v',H')∧Cv v' (vL f l)∧qBn b H H'∧H'.length=H.length∧∀ i,rid v≠some i→H'[i]?=H[i]?:=by
  rcases ha with ⟨rfl,h1,h2⟩ | ⟨id,ver,rfl,h2,h3,h4⟩
  . have e:l=[]:=List.length_eq_zero_iff.1 h1
    subst e;exact ⟨nilS,H,rfl,.nil,.refl _ _,rfl,fun _ _=>rfl⟩
  . obtain ⟨H',k1,k2,k3,k4⟩:=Acc.frz (e:=1) (b:=b) (h:=H) (v:=.slice (some ⟨id,0,none⟩) l.length ver) (n:=l.length) (cs:=l.map f) (.inr ⟨id,ver,rfl,h2,h3,h4⟩) (qId hc l)
    exact ⟨vL f l,H',k1,.same _,k2,k3,k4⟩
section
variable {h : Heap} {K : Value → Heap → Prop}
theorem irUses_call {i:Ins} (ho:i.op≤255) (hk:K (vU (qHc i)) h):qBj prog 35 [.agg (vIns i).toArray] h K:=by
  refine Pure.go (Pure.one (p:=vU (qHc i)) rfl fun h=>?_) hk
  refine call_irUses (by simp) ?_
  simp [qAk,qAn,qAl,qAh,qAg,qAe,qAb,qAd,qAa,qAi,qAf,qAc,qAs,qAt,resV,retV,qAm,qAj,qAr,qAq,qAp,qAo,qOh,vIns];refine registers_call (i:=i) (w:=3) ho ?_;simp [qAk,qAn,qAl,qAh,qAg,qAe,qAb,qAd,qAa,qAi,qAf,qAc,qAs,qAt,resV,retV,qAm,qAj,qAr,qAq,qAp,qAo,callK_def,qHc]
end
end Pm

/- Registers that are yet to be read: what Ahead and Behind tell, by ways.
   No condition: plain lemmas. -/

namespace Pm
set_option linter.unusedSimpArgs false
set_option linter.unusedVariables false
open Go Am
open Go.Proofs.Tryd (prog)

inductive Lv (code:List Ins) (r:Nat):Nat→Prop
  | use {i:Nat} {c:Ins} (hc:code[i]?=some c) (hu:(qHc c).testBit r=true):Lv code r i
  | pass {i j:Nat} {c:Ins} (hc:code[i]?=some c) (hs:(qJb c).testBit r=false) (hj:(j:Int)∈qDi i c) (h:Lv code r j):Lv code r i
theorem Lv.lt {code:List Ins} {r i:Nat} (h:Lv code r i):i < code.length:=by
  cases h with
  | use hc _=>exact (List.getElem?_eq_some_iff.1 hc).1
  | pass hc _ _ _=>exact (List.getElem?_eq_some_iff.1 hc).1
theorem high_bit {x k:Nat} (hx:x < big) (hk:64≤k):x.testBit k=false:=by
  have e:big≤2 ^ k:=Nat.pow_le_pow_right (n:=2) (by omega) hk
  exact Nat.testBit_lt_two_pow (Nat.lt_of_lt_of_le hx e)
theorem Lv.low {code:List Ins} {r i:Nat} (h:Lv code r i):r < 64:=by
  induction h with
  | @use i c hc hu =>
    rcases Nat.lt_or_ge r 64 with h | h
    . exact h
    . rw [high_bit (usesOf_lt c) h] at hu; cases hu
  | pass _ _ _ _ ih=>exact ih
theorem Lv.step {code:List Ins} {r i:Nat} {c:Ins} (hc:code[i]?=some c):Lv code r i↔(qHc c).testBit r=true∨(qJb c).testBit r=false∧∃ j:Nat,(j:Int)∈qDi i c∧Lv code r j:=by
  constructor
  . intro h
    cases h with
    | use hc' hu=>rw [hc] at hc'; cases hc'; exact .inl hu
    | pass hc' hs hj h=>rw [hc] at hc'; cases hc'; exact .inr ⟨hs,_,hj,h⟩
  . rintro (h | ⟨h1,j,h2,h3⟩)
    . exact .use hc h
    . exact .pass hc h1 h2 h3
theorem qIq {code:List Ins} {i:Nat} {c:Ins} (hc:code[i]?=some c):qDl (succs code) i=qDi i c:=qFu (by rw [qJa,hc]; rfl)
section
variable {code : List Ins} {inn out : List Nat}
end
section
variable {h : Heap} {K : Value → Heap → Prop}
end
end Pm
