/- Registers that are yet to be read: by the document, ways by places that were seen.
   No condition: plain lemmas. -/

import Derived.Test.YtmdnkninbkcmkaaZVPmLive3
namespace Pm
set_option linter.unusedSimpArgs false
set_option linter.unusedVariables false
open Go Am
open Go.Proofs.Try (prog)

structure Srch where
  n:Nat
  stop:Nat→Bool
  thru:Nat→Bool
  next:Nat→List Int
inductive Fnd (s:Srch):Nat→Prop
  | stop {i:Nat} (hi:i < s.n) (h:s.stop i=true):Fnd s i
  | pass {i j:Nat} (hi:i < s.n) (ht:s.thru i=true) (hj:(j:Int)∈s.next i) (h:Fnd s j):Fnd s i
theorem Fnd.lt {s:Srch} {i:Nat} (h:Fnd s i):i < s.n:=by cases h<;>assumption
structure SInv (s:Srch) (start:Int) (seen:List Bool) (left:List Int):Prop where
  len:seen.length=s.n
  all:∀ i,seen[i]?=some true→s.stop i=false∧(s.thru i=true→∀ x∈s.next i,x∈left∨x < 0∨(s.n:Int)≤x∨seen[x.toNat]?=some true)
  from_:start∈left∨start < 0∨(s.n:Int)≤start∨seen[start.toNat]?=some true
  back:∀ x∈left,∀ j:Nat,x=j→Fnd s j→∃ k:Nat,start=k∧Fnd s k
section
variable {s : Srch} {start : Int} {seen : List Bool} {left : List Int}
theorem SInv.init:SInv s start (List.replicate s.n false) [start]:=by
  refine ⟨by simp,fun i h=>?_,.inl (by simp),fun x hx j e h=>?_⟩
  . rw [List.getElem?_replicate] at h
    split at h<;>simp at h
  . rw [List.mem_singleton.1 hx] at e
    exact ⟨j,e,h⟩
theorem SInv.skip {x:Int} (v:SInv s start seen (left++[x])) (hx:x < 0∨(s.n:Int)≤x∨seen[x.toNat]?=some true):SInv s start seen left:=by
  refine ⟨v.len,fun i h=>⟨(v.all i h).1,fun ht y hy=>?_⟩,?_,fun y hy=>v.back y (by simp [hy])⟩
  . rcases (v.all i h).2 ht y hy with h | h
    . rcases List.mem_append.1 h with h | h
      . exact .inl h
      . rw [List.mem_singleton.1 h]; exact .inr hx
    . exact .inr h
  . rcases v.from_ with h | h
    . rcases List.mem_append.1 h with h | h
      . exact .inl h
      . rw [List.mem_singleton.1 h]; exact .inr hx
    . exact .inr h
theorem SInv.new {i:Nat} (v:SInv s start seen (left++[(i:Int)])) (hi:i < s.n) (h:s.stop i=false):SInv s start (seen.set i true) (if s.thru i=true then left++s.next i else left):=by
  have hil:i < seen.length:=by rw [v.len]; exact hi
  have hsub:∀ y,y∈left→y∈(if s.thru i=true then left++s.next i else left):=fun y hy=>by split<;>simp [hy]
  have hst:∀ x:Int,(x∈left++[(i:Int)]∨x < 0∨(s.n:Int)≤x∨seen[x.toNat]?=some true)→(x∈(if s.thru i=true then left++s.next i else left)∨x < 0∨(s.n:Int)≤x∨(seen.set i true)[x.toNat]?=some true):=by
    intro x hx;rcases hx with h | h | h | h
    . rcases List.mem_append.1 h with h | h
      . exact .inl (hsub x h)
      . rw [List.mem_singleton.1 h]; exact .inr (.inr (.inr (by simp [hil])))
    . exact .inr (.inl h)
    . exact .inr (.inr (.inl h))
    . refine .inr (.inr (.inr ?_))
      by_cases e:i=x.toNat
      . rw [← e]; simp [hil]
      . rw [List.getElem?_set_ne e]; exact h
  refine ⟨by simp [v.len],fun j hj=>?_,hst _ v.from_,fun y hy j e hf=>?_⟩
  . rw [List.getElem?_set] at hj
    by_cases e:i=j
    . subst e
      refine ⟨h,fun ht y hy=>.inl ?_⟩
      rw [if_pos ht]; simp [hy]
    . rw [if_neg e] at hj
      exact ⟨(v.all j hj).1,fun ht y hy=>hst y ((v.all j hj).2 ht y hy)⟩
  . by_cases ht:s.thru i=true
    . rw [if_pos ht] at hy
      rcases List.mem_append.1 hy with hy | hy
      . exact v.back y (by simp [hy]) j e hf
      . subst e
        exact v.back i (by simp) i rfl (.pass hi ht hy hf)
    . rw [if_neg ht] at hy
      exact v.back y (by simp [hy]) j e hf
theorem SInv.end {k:Nat} (v:SInv s start seen []) (hk:start=k):¬ Fnd s k:=by
  have key:∀ j,Fnd s j→seen[j]?≠some true:=by
    intro j h
    induction h with
    | @stop i hi hs=>intro e; rw [(v.all i e).1] at hs; cases hs
    | @pass i j hi ht hj h ih =>
      intro e;rcases (v.all i e).2 ht _ hj with h1 | h1 | h1 | h1
      . simp at h1
      . omega
      . have:=h.lt; omega
      . exact ih (by simpa using h1)
  intro h;have hl:=h.lt;rcases v.from_ with h1 | h1 | h1 | h1
  . simp at h1
  . omega
  . omega
  . rw [hk] at h1; exact key k h (by simpa using h1)
end
end Pm
