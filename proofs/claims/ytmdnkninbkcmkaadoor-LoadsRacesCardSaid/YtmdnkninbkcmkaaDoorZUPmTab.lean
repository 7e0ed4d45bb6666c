/- Registers that are yet to be read: by the document, ways by places that were seen.
   No condition: plain lemmas. -/

import Derived.Test.YtmdnkninbkcmkaaDoorZUPmLive2
import Derived.Test.YtmdnkninbkcmkaaDoorZUPmCfgC
import Derived.Test.YtmdnkninbkcmkaaDoorZUPmLaw
import Derived.Test.YtmdnkninbkcmkaaDoorZUPmFlow1
namespace Pm
set_option linter.unusedSimpArgs false
set_option linter.unusedVariables false
open Go Am
open Go.Proofs.Tryd (prog)

structure Srch where
  n:Nat
  stop:Nat→Bool
  thru:Nat→Bool
  next:Nat→List Int
inductive Fnd (s:Srch):Nat→Prop
  | stop {i:Nat} (hi:i < s.n) (h:s.stop i=true):Fnd s i
  | pass {i j:Nat} (hi:i < s.n) (ht:s.thru i=true) (hj:(j:Int)∈s.next i) (h:Fnd s j):Fnd s i
theorem Fnd.lt {s:Srch} {i:Nat} (h:Fnd s i):i < s.n:=by cases h<;>assumption
structure SInv (s:Srch) (start:Int) (seen:List Bool) (left:List Int):Prop where
  len:seen.length=s.n
  all:∀ i,seen[i]?=some true→s.stop i=false∧(s.thru i=true→∀ x∈s.next i,x∈left∨x < 0∨(s.n:Int)≤x∨seen[x.toNat]?=some true)
  from_:start∈left∨start < 0∨(s.n:Int)≤start∨seen[start.toNat]?=some true
  back:∀ x∈left,∀ j:Nat,x=j→Fnd s j→∃ k:Nat,start=k∧Fnd s k
section
variable {s : Srch} {start : Int} {seen : List Bool} {left : List Int}
theorem SInv.init:SInv s start (List.replicate s.n false) [start]:=by
  refine ⟨by simp,fun i h=>?_,.inl (by simp),fun x hx j e h=>?_⟩
  . rw [List.getElem?_replicate] at h
    split at h<;>simp at h
  . rw [List.mem_singleton.1 hx] at e
    exact ⟨j,e,h⟩
theorem SInv.skip {x:Int} (v:SInv s start seen (left++[x])) (hx:x < 0∨(s.n:Int)≤x∨seen[x.toNat]?=some true):SInv s start seen left:=by
  refine ⟨v.len,fun i h=>⟨(v.all i h).1,fun ht y hy=>?_⟩,?_,fun y hy=>v.back y (by simp [hy])⟩
  . rcases (v.all i h).2 ht y hy with h | h
    . rcases List.mem_append.1 h with h | h
      . exact .inl h
      . rw [List.mem_singleton.1 h]; exact .inr hx
    . exact .inr h
  . rcases v.from_ with h | h
    . rcases List.mem_append.1 h with h | h
      . exact .inl h
      . rw [List.mem_singleton.1 h]; exact .inr hx
    . exact .inr h
theorem SInv.found {i:Nat} (v:SInv s start seen (left++[(i:Int)])) (hi:i < s.n) (h:s.stop i=true):∃ k:Nat,start=k∧Fnd s k:=v.back i (by simp) i rfl (.stop hi h)
theorem SInv.new {i:Nat} (v:SInv s start seen (left++[(i:Int)])) (hi:i < s.n) (h:s.stop i=false):SInv s start (seen.set i true) (if s.thru i=true then left++s.next i else left):=by
  have hil:i < seen.length:=by rw [v.len]; exact hi
  have hsub:∀ y,y∈left→y∈(if s.thru i=true then left++s.next i else left):=fun y hy=>by split<;>simp [hy]
  have hst:∀ x:Int,(x∈left++[(i:Int)]∨x < 0∨(s.n:Int)≤x∨seen[x.toNat]?=some true)→(x∈(if s.thru i=true then left++s.next i else left)∨x < 0∨(s.n:Int)≤x∨(seen.set i true)[x.toNat]?=some true):=by
    intro x hx;rcases hx with h | h | h | h
    . rcases List.mem_append.1 h with h | h
      . exact .inl (hsub x h)
      . rw [List.mem_singleton.1 h]; exact .inr (.inr (.inr (by simp [hil])))
    . exact .inr (.inl h)
    . exact .inr (.inr (.inl h))
    . refine .inr (.inr (.inr ?_))
      by_cases e:i=x.toNat
      . rw [← e]; simp [hil]
      . rw [List.getElem?_set_ne e]; exact h
  refine ⟨by simp [v.len],fun j hj=>?_,hst _ v.from_,fun y hy j e hf=>?_⟩
  . rw [List.getElem?_set] at hj
    by_cases e:i=j
    . subst e
      refine ⟨h,fun ht y hy=>.inl ?_⟩
      rw [if_pos ht]; simp [hy]
    . rw [if_neg e] at hj
      exact ⟨(v.all j hj).1,fun ht y hy=>hst y ((v.all j hj).2 ht y hy)⟩
  . by_cases ht:s.thru i=true
    . rw [if_pos ht] at hy
      rcases List.mem_append.1 hy with hy | hy
      . exact v.back y (by simp [hy]) j e hf
      . subst e
        exact v.back i (by simp) i rfl (.pass hi ht hy hf)
    . rw [if_neg ht] at hy
      exact v.back y (by simp [hy]) j e hf
theorem SInv.end {k:Nat} (v:SInv s start seen []) (hk:start=k):¬ Fnd s k:=by
  have key:∀ j,Fnd s j→seen[j]?≠some true:=by
    intro j h
    induction h with
    | @stop i hi hs=>intro e; rw [(v.all i e).1] at hs; cases hs
    | @pass i j hi ht hj h ih =>
      intro e;rcases (v.all i e).2 ht _ hj with h1 | h1 | h1 | h1
      . simp at h1
      . omega
      . have:=h.lt; omega
      . exact ih (by simpa using h1)
  intro h;have hl:=h.lt;rcases v.from_ with h1 | h1 | h1 | h1
  . simp at h1
  . omega
  . omega
  . rw [hk] at h1; exact key k h (by simpa using h1)
end
end Pm

/- Rows of sets that are filled, number by number.
   No condition: plain lemmas. -/

namespace Pm
set_option linter.unusedSimpArgs false
set_option linter.unusedVariables false
open Go Am

structure TabJ (P:Nat→Nat→Prop) (n i r:Nat) (c:Prop) (out:List Nat):Prop where
  len:out.length=n
  lt:∀ j,gN out j < big
  bit:∀ j k,(gN out j).testBit k=true↔((j < i∨j=i∧k < r)∧P j k)∨(j=i∧k=r∧c)
theorem withN_one {s r:Nat} (hr:r < 64):qQm s [(r:Int)]=s ||| 2 ^ r:=by
  show s ||| bitN (r:Int)=_
  rw [bitN_nat hr]
section
variable {P : Nat → Nat → Prop} {n i r : Nat} {c : Prop} {out : List Nat}
theorem TabJ.init:TabJ P n 0 0 False (List.replicate n 0):=by
  have hg:∀ j,gN (List.replicate n 0) j=0:=fun j=>by
    unfold gN; rw [List.getElem?_replicate]; split<;>rfl
  refine ⟨by simp,fun j=>by rw [hg]; decide,fun j k=>?_⟩
  rw [hg];simp
theorem TabJ.hit (v:TabJ P n i r c out) (hi:i < n) (hr:r < 64):TabJ P n i r True (out.set i (qQm (gN out i) [(r:Int)])):=by
  have hio:i < out.length:=by rw [v.len]; exact hi
  refine ⟨by simp [v.len],fun j=>?_,fun j k=>?_⟩
  . rw [qJi hio]; split
    . exact qSu _ _ (v.lt i)
    . exact v.lt j
  . rw [qJi hio]
    split
    . rename_i e; subst e
      rw [withN_one hr,Nat.testBit_or,Bool.or_eq_true,v.bit,Nat.testBit_two_pow];constructor
      . rintro ((h | h) | h)
        . exact .inl h
        . exact .inr ⟨rfl,h.2.1,trivial⟩
        . exact .inr ⟨rfl,(of_decide_eq_true h).symm,trivial⟩
      . rintro (h | ⟨_,h,_⟩)
        . exact .inl (.inl h)
        . exact .inr (decide_eq_true h.symm)
    . rename_i e
      rw [v.bit];simp [e]
theorem TabJ.same {c':Prop} (v:TabJ P n i r c out) (h:c↔c'):TabJ P n i r c' out:=⟨v.len,v.lt,fun j k=>by rw [v.bit,h]⟩
theorem TabJ.next (v:TabJ P n i r c out) (h:c↔P i r):TabJ P n i (r+1) False out:=by
  refine ⟨v.len,v.lt,fun j k=>?_⟩
  rw [v.bit];constructor
  . rintro (⟨h1 | ⟨h1,h2⟩,h3⟩ | ⟨rfl,rfl,h1⟩)
    . exact .inl ⟨.inl h1,h3⟩
    . exact .inl ⟨.inr ⟨h1,by omega⟩,h3⟩
    . exact .inl ⟨.inr ⟨rfl,by omega⟩,h.1 h1⟩
  . rintro (⟨h1 | ⟨h1,h2⟩,h3⟩ | ⟨_,_,h1⟩)
    . exact .inl ⟨.inl h1,h3⟩
    . rcases Nat.lt_or_ge k r with hk | hk
      . exact .inl ⟨.inr ⟨h1,hk⟩,h3⟩
      . obtain rfl:k=r:=by omega
        subst h1;exact .inr ⟨rfl,rfl,h.2 h3⟩
    . exact h1.elim
theorem TabJ.row (v:TabJ P n i r False out) (h:∀ k,P i k→k < r):TabJ P n (i+1) 0 False out:=by
  refine ⟨v.len,v.lt,fun j k=>?_⟩
  rw [v.bit];constructor
  . rintro (⟨h1 | ⟨h1,h2⟩,h3⟩ | ⟨_,_,h1⟩)
    . exact .inl ⟨.inl (by omega),h3⟩
    . exact .inl ⟨.inl (by omega),h3⟩
    . exact h1.elim
  . rintro (⟨h1 | ⟨h1,h2⟩,h3⟩ | ⟨_,_,h1⟩)
    . rcases Nat.lt_or_ge j i with hj | hj
      . exact .inl ⟨.inl hj,h3⟩
      . obtain rfl:j=i:=by omega
        exact .inl ⟨.inr ⟨rfl,h _ h3⟩,h3⟩
    . omega
    . exact h1.elim
theorem TabJ.end (v:TabJ P n n 0 False out):∀ j k,(gN out j).testBit k=true↔j < n∧P j k:=by
  intro j k;rw [v.bit];constructor
  . rintro (⟨h1 | ⟨h1,h2⟩,h3⟩ | ⟨_,_,h1⟩)
    . exact ⟨h1,h3⟩
    . omega
    . exact h1.elim
  . rintro ⟨h1,h2⟩; exact .inl ⟨.inl h1,h2⟩
end
end Pm
