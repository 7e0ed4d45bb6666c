/- Rows of sets that are filled, number by number.
   No condition: plain lemmas. -/

import Derived.Test.YtmdnkninbkcmkaaZVPmRow
namespace Pm
set_option linter.unusedSimpArgs false
set_option linter.unusedVariables false
open Go Am

structure TabJ (P:Nat→Nat→Prop) (n i r:Nat) (c:Prop) (out:List Nat):Prop where
  len:out.length=n
  lt:∀ j,gN out j < big
  bit:∀ j k,(gN out j).testBit k=true↔((j < i∨j=i∧k < r)∧P j k)∨(j=i∧k=r∧c)
theorem withN_one {s r:Nat} (hr:r < 64):qPe s [(r:Int)]=s ||| 2 ^ r:=by
  show s ||| bitN (r:Int)=_
  rw [bitN_nat hr]
section
variable {P : Nat → Nat → Prop} {n i r : Nat} {c : Prop} {out : List Nat}
theorem TabJ.init:TabJ P n 0 0 False (List.replicate n 0):=by
  have hg:∀ j,gN (List.replicate n 0) j=0:=fun j=>by
    unfold gN; rw [List.getElem?_replicate]; split<;>rfl
  refine ⟨by simp,fun j=>by rw [hg]; decide,fun j k=>?_⟩
  rw [hg];simp
theorem TabJ.hit (v:TabJ P n i r c out) (hi:i < n) (hr:r < 64):TabJ P n i r True (out.set i (qPe (gN out i) [(r:Int)])):=by
  have hio:i < out.length:=by rw [v.len]; exact hi
  refine ⟨by simp [v.len],fun j=>?_,fun j k=>?_⟩
  . rw [qIj hio]; split
    . exact qPv _ _ (v.lt i)
    . exact v.lt j
  . rw [qIj hio]
    split
    . rename_i e; subst e
      rw [withN_one hr,Nat.testBit_or,Bool.or_eq_true,v.bit,Nat.testBit_two_pow];constructor
      . rintro ((h | h) | h)
        . exact .inl h
        . exact .inr ⟨rfl,h.2.1,trivial⟩
        . exact .inr ⟨rfl,(of_decide_eq_true h).symm,trivial⟩
      . rintro (h | ⟨_,h,_⟩)
        . exact .inl (.inl h)
        . exact .inr (decide_eq_true h.symm)
    . rename_i e
      rw [v.bit];simp [e]
theorem TabJ.same {c':Prop} (v:TabJ P n i r c out) (h:c↔c'):TabJ P n i r c' out:=⟨v.len,v.lt,fun j k=>by rw [v.bit,h]⟩
theorem TabJ.next (v:TabJ P n i r c out) (h:c↔P i r):TabJ P n i (r+1) False out:=by
  refine ⟨v.len,v.lt,fun j k=>?_⟩
  rw [v.bit];constructor
  . rintro (⟨h1 | ⟨h1,h2⟩,h3⟩ | ⟨rfl,rfl,h1⟩)
    . exact .inl ⟨.inl h1,h3⟩
    . exact .inl ⟨.inr ⟨h1,by omega⟩,h3⟩
    . exact .inl ⟨.inr ⟨rfl,by omega⟩,h.1 h1⟩
  . rintro (⟨h1 | ⟨h1,h2⟩,h3⟩ | ⟨_,_,h1⟩)
    . exact .inl ⟨.inl h1,h3⟩
    . rcases Nat.lt_or_ge k r with hk | hk
      . exact .inl ⟨.inr ⟨h1,hk⟩,h3⟩
      . obtain rfl:k=r:=by omega
        subst h1;exact .inr ⟨rfl,rfl,h.2 h3⟩
    . exact h1.elim
theorem TabJ.row (v:TabJ P n i r False out) (h:∀ k,P i k→k < r):TabJ P n (i+1) 0 False out:=by
  refine ⟨v.len,v.lt,fun j k=>?_⟩
  rw [v.bit];constructor
  . rintro (⟨h1 | ⟨h1,h2⟩,h3⟩ | ⟨_,_,h1⟩)
    . exact .inl ⟨.inl (by omega),h3⟩
    . exact .inl ⟨.inl (by omega),h3⟩
    . exact h1.elim
  . rintro (⟨h1 | ⟨h1,h2⟩,h3⟩ | ⟨_,_,h1⟩)
    . rcases Nat.lt_or_ge j i with hj | hj
      . exact .inl ⟨.inl hj,h3⟩
      . obtain rfl:j=i:=by omega
        exact .inl ⟨.inr ⟨rfl,h _ h3⟩,h3⟩
    . omega
    . exact h1.elim
theorem TabJ.end (v:TabJ P n n 0 False out):∀ j k,(gN out j).testBit k=true↔j < n∧P j k:=by
  intro j k;rw [v.bit];constructor
  . rintro (⟨h1 | ⟨h1,h2⟩,h3⟩ | ⟨_,_,h1⟩)
    . exact ⟨h1,h3⟩
    . omega
    . exact h1.elim
  . rintro ⟨h1,h2⟩; exact .inl ⟨.inl h1,h2⟩
end
end Pm
