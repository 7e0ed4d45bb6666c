/- Graphs: what the program's functions on them yield.
   No condition: plain lemmas. -/
import Derived.Test.YtmdnkninbkcmkaaZVAmRep
import Derived.Test.YtmdnkninbkcmkaaZVAmCfgC
namespace Am
set_option linter.unusedSimpArgs false
set_option linter.unusedVariables false
open Go
open Go.Proofs.Try (prog)

def Small (s:List (List Int)) (n k:Nat):Prop:=1≤s.length∧s.length≤n∧(s.map List.length).sum≤k

theorem le_sum:∀ {l:List Nat} {x:Nat},x∈l→x≤l.sum
  | a :: l,x,h=>by
    rcases List.mem_cons.1 h with rfl | h
    . simp
    . have:=le_sum h; simp; omega
theorem Small.one {s:List (List Int)} {i:Nat} (h:i < s.length):s[i].length≤(s.map List.length).sum:=by
  have:s[i].length∈s.map List.length:=List.mem_map.2 ⟨s[i],List.getElem_mem h,rfl⟩;exact le_sum this

theorem sum_set:∀ (l:List Nat) (i x y:Nat),l[i]?=some x→(l.set i y).sum+x=l.sum+y
  | [],i,x,y,h=>by simp at h
  | a :: l,0,x,y,h=>by simp at h; subst h; simp; omega
  | a :: l,i+1,x,y,h=>by
    have:=sum_set l i x y (by simpa using h)
    simp; omega

/-! ### What is come to -/
inductive Come (s:List (List Int)):Nat→Prop
  | start (h:0 < s.length):Come s 0
  | step {i j:Nat} {l:List Int} (h:Come s i) (hl:s[i]?=some l) (hj:(j:Int)∈l) (hlt:j < s.length):Come s j

abbrev vB:Bool→Value:=Value.bool
def work (s:List (List Int)) (seen:List Bool):Nat:=((s.zip seen).map fun p=>if p.2 then 0 else p.1.length+1).sum

theorem work_set {s:List (List Int)} {seen:List Bool} {i:Nat} {l:List Int} (hi:s[i]?=some l) (hs:seen[i]?=some false):work s (seen.set i true)+(l.length+1)=work s seen:=by
  unfold work;have e:((s.zip (seen.set i true)).map fun p=>if p.2 then 0 else p.1.length+1)=((s.zip seen).map fun p=>if p.2 then 0 else p.1.length+1).set i 0:=by
    apply List.ext_getElem?;intro j
    by_cases hj:j=i
    . subst hj
      have h1:=(List.getElem?_eq_some_iff.1 hi).1;have h2:=(List.getElem?_eq_some_iff.1 hs).1;rw [List.getElem?_set_self (by simp [List.zip]; omega)]
      simp [List.zip,List.getElem?_zipWith,h2,hi]
    . simp [List.zip,List.getElem?_set_ne (Ne.symm hj),List.getElem?_zipWith]
  rw [e];have:=sum_set ((s.zip seen).map fun p=>if p.2 then 0 else p.1.length+1) i (l.length+1) 0 (by simp [List.zip,List.getElem?_zipWith,hi,hs])
  omega
theorem work_new (s:List (List Int)):work s (List.replicate s.length false)=(s.map List.length).sum+s.length:=by
  unfold work
  induction s with
  | nil=>rfl
  | cons l s ih=>simp [List.replicate_succ] at ih ⊢; omega

theorem L2.mono' {H H':Heap} {v:Value} {s:List (List Int)} {S:Nat→Prop} (hv:L2 vI S H v s) (hS:∀ i,S i→i < H.length) (hlow:∀ i,i < H.length→H'[i]?=H[i]?):L2 vI S H' v s :=
  hv.mono (fun _ x=>x) fun i hi=>(hlow i (hS i hi)).symm
structure RInv (s:List (List Int)) (seen:List Bool) (L:List Int):Prop where
  len:seen.length=s.length
  big:L.length+work s seen≤lim
  k1:∀ i,seen[i]?=some true→Come s i
  k2:∀ i:Nat,(i:Int)∈L→i < s.length→Come s i
  k3:∀ (i:Nat) (l:List Int) (j:Nat),seen[i]?=some true→s[i]?=some l→(j:Int)∈l→j < s.length→seen[j]?=some true∨(j:Int)∈L
  k4:0 < s.length→(0:Int)∈L∨seen[0]?=some true

theorem RInv.new {s:List (List Int)} (hl:(s.map List.length).sum+s.length+1≤lim):RInv s (List.replicate s.length false) [0]:=by
  refine ⟨by simp,by rw [work_new]; simp; omega,fun i h=>?_,fun i h hi=>?_,fun i l j h=>?_,fun _=>by simp⟩
  . have:=List.getElem?_eq_some_iff.1 h; simp at this
  . simp at h; subst h; exact .start hi
  . have:=List.getElem?_eq_some_iff.1 h; simp at this
theorem RInv.skip {s:List (List Int)} {seen:List Bool} {L:List Int} {x:Int} (h:RInv s seen (L++[x])) (hx:∀ i:Nat,(i:Int)=x→i < s.length→seen[i]?=some true):RInv s seen L:=by
  refine ⟨h.len,by have:=h.big; simp at this; omega,h.k1,fun i hi=>h.k2 i (by simp [hi]),fun i l j h1 h2 h3 h4=>?_,fun hs=>?_⟩
  . rcases h.k3 i l j h1 h2 h3 h4 with h | h
    . exact .inl h
    . rcases List.mem_append.1 h with h | h
      . exact .inr h
      . exact .inl (hx j (List.mem_singleton.1 h) h4)
  . rcases h.k4 hs with h | h
    . rcases List.mem_append.1 h with h | h
      . exact .inl h
      . exact .inr (hx 0 (List.mem_singleton.1 h) hs)
    . exact .inr h
theorem RInv.go {s:List (List Int)} {seen:List Bool} {L:List Int} {i:Nat} {l:List Int} (h:RInv s seen (L++[(i:Int)])) (hi:s[i]?=some l) (hs:seen[i]?=some false):RInv s (seen.set i true) (L++l):=by
  have hil:=(List.getElem?_eq_some_iff.1 hi).1;have hsl:=(List.getElem?_eq_some_iff.1 hs).1;have hci:Come s i:=h.k2 i (by simp) hil
  have old:∀ {j:Nat},seen[j]?=some true→(seen.set i true)[j]?=some true:=by
    intro j hj
    by_cases e:j=i
    . subst e; rw [hs] at hj; cases hj
    . rw [List.getElem?_set_ne (Ne.symm e)]; exact hj
  refine ⟨by simpa using h.len,?_,fun j hj=>?_,fun j hj hjl=>?_,fun j l' k h1 h2 h3 h4=>?_,fun h0=>?_⟩
  . have:=h.big; have:=work_set hi hs; simp at *; omega
  . by_cases e:j=i
    . subst e; exact hci
    . rw [List.getElem?_set_ne (Ne.symm e)] at hj; exact h.k1 j hj
  . rcases List.mem_append.1 hj with hj | hj
    . exact h.k2 j (by simp [hj]) hjl
    . exact .step hci hi hj hjl
  . by_cases e:j=i
    . subst e; rw [hi] at h2; cases h2; exact .inr (by simp [h3])
    . rw [List.getElem?_set_ne (Ne.symm e)] at h1
      rcases h.k3 j l' k h1 h2 h3 h4 with q | q
      . exact .inl (old q)
      . rcases List.mem_append.1 q with q | q
        . exact .inr (by simp [q])
        . have:k=i:=by have:=List.mem_singleton.1 q; omega
          subst this; exact .inl (by simp [hsl])
  . rcases h.k4 h0 with q | q
    . rcases List.mem_append.1 q with q | q
      . exact .inl (by simp [q])
      . have:0=i:=by have:=List.mem_singleton.1 q; omega
        subst this; exact .inr (by simp [hsl])
    . exact .inr (old q)
theorem RInv.done {s:List (List Int)} {seen:List Bool} (h:RInv s seen []) (i:Nat):seen[i]?=some true↔Come s i:=by
  refine ⟨h.k1 i,fun hc=>?_⟩
  induction hc with
  | start h0=>simpa using h.k4 h0
  | step _ hl hj hlt ih=>simpa using h.k3 _ _ _ ih hl hj hlt

end Am
