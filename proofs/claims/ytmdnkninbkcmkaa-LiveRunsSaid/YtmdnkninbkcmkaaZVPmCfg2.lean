/- Graphs, the document's answer: rows compared, the way back, what is come to.
   No condition: plain lemmas. -/
import Derived.Test.YtmdnkninbkcmkaaZVPmCfgA
import Derived.Test.YtmdnkninbkcmkaaZVPmCfgC
namespace Pm
set_option linter.unusedSimpArgs false
set_option linter.unusedVariables false
open Go Am
open Go.Proofs.Try (prog)

theorem wrap_succ {i:Nat} (h:i < lim):IntKind.i64.wrap ((i:Int)+1)=((i+1:Nat):Int):=qCo (by omega) (by simp [lim] at h; omega)

theorem qCj {i:Nat} (h:i < lim):∃ j:Nat,j=i+1∧IntKind.i64.wrap ((i:Int)+1)=(j:Int):=⟨i+1,rfl,wrap_succ h⟩

theorem same_step {α:Type} {a b:List α} {i:Nat} (h:a.take i=b.take i) (h1:i < a.length) (h2:i < b.length):a.take (i+1)=b.take (i+1)↔a[i]=b[i]:=by
  rw [show b.take (i+1)=b.take i++[b[i]] from (List.take_append_getElem h2).symm,← List.take_append_getElem h1,h];simp only [List.append_right_inj,List.cons.injEq,and_true]

section
variable {h : Heap} {K : Value → Heap → Prop}
theorem RSame01_call {a b:List Int} (hl:a.length < lim) (hk:K (.bool (decide (a=b))) h):qBu prog 23 [vL vI a,vL vI b] h K:=by
  refine call_RSame01 (by simp) ?_
  by_cases hab:a.length=b.length
  . simp [c_RSame01,qDq,hab]
    refine loop_rule (fun n fr h'=>h'=h∧fr 0=vL vI a∧fr 1=vL vI b∧∃ i:Nat,fr 5=vI i∧n=a.length - i∧i≤a.length∧a.take i=b.take i) ?_ (n:=a.length) ⟨rfl,by simp [qDq],by simp [qDq],0,by simp⟩
    rintro n fr h' ⟨rfl,h0,h1,i,h5,rfl,hi,ht⟩
    by_cases hlt:i < a.length
    . have hlt':i < b.length:=by omega
      by_cases he:a[i]=b[i]
      . simp [h0,h1,h5,hlt,hlt',he,wrap_succ (show i < lim by omega)]
        exact ⟨_,by omega,i+1,by simp,rfl,by omega,(same_step ht hlt hlt').2 he⟩
      . simp [h0,h1,h5,hlt,hlt',he,qAu,qAv,resV,retV]
        have hne:¬ a=b:=fun e=>he (by subst e; rfl)
        simpa [hne] using hk
    . have hab':a=b:=by
        rw [List.take_of_length_le (by omega),List.take_of_length_le (by omega)] at ht; exact ht
      simp [h0,h1,h5,hlt,qAu,qAv,resV,retV]
      simpa [hab'] using hk
  . have hab':¬ a=b:=fun e=>hab (by rw [e])
    have hab2:¬ (a.length:Int)=b.length:=by omega
    simp [c_RSame01,qDq,hab,hab2,qAu,qAv,resV,retV]
    simpa [hab'] using hk
end
end Pm

/- Graphs, the document's answer: what is come to without a node; what each can not be come to without.
   No condition: plain lemmas. -/
namespace Pm
set_option linter.unusedSimpArgs false
set_option linter.unusedVariables false
open Go Am
open Go.Proofs.Try (prog)

/-! ### A row of one's own behind a heap -/
section
variable {α : Type} {f : α → Value} {l : List α} {h g : Heap} {ver : Nat} {rw : Bool}
@[simp] theorem own_cell {off:Nat}:(h++Ob.row ⟨l.map f,1,ver,rw⟩ :: g).cell? h.length off ver=(l[off]?).map f:=by simp [Heap.cell?,Heap.row?]
@[simp] theorem own_store {off:Nat} {x:α} (hx:cellsOf (f x)=some [f x]):qCm (h++Ob.row ⟨l.map f,1,ver,true⟩ :: g) 1 (.pointer (some ⟨h.length,off,some ver⟩)) (f x)=if off < l.length then some (h++Ob.row ⟨(l.set off x).map f,1,ver,true⟩ :: g) else none:=by
  simp only [qCm,hx]
  by_cases ho:off < l.length
  . have ho':off+1≤l.length:=ho
    simp [Heap.row?,ho,ho',setAll]
  . have ho':¬ off+1≤l.length:=ho
    simp [Heap.row?,ho,ho']
end

inductive Far (s:List (List Int)) (b:Int):Nat→Prop
  | start (h:0 < s.length) (hb:b≠0):Far s b 0
  | step {i j:Nat} {l:List Int} (h:Far s b i) (hl:s[i]?=some l) (hj:(j:Int)∈l) (hlt:j < s.length) (hb:(j:Int)≠b):Far s b j
theorem Far.lt {s:List (List Int)} {b:Int} {i:Nat} (h:Far s b i):i < s.length:=by cases h<;>assumption

theorem cnt_set:∀ {l:List Bool} {j:Nat},l[j]?=some false→(l.set j true).count false < l.count false
  | [],j,h=>by simp at h
  | a :: l,0,h=>by simp at h; subst h; simp
  | a :: l,j+1,h=>by
    have:=cnt_set (l:=l) (j:=j) (by simpa using h)
    simp only [List.set_cons_succ,List.count_cons]; omega

structure WInv (s:List (List Int)) (b:Int) (seen0 seen:List Bool) (more:Bool):Prop where
  len:seen.length=s.length
  far:∀ i,seen[i]?=some true→Far s b i
  zero:0 < s.length→b≠0→seen[0]?=some true
  more:(more=true∧seen.count false < seen0.count false)∨(more=false∧seen=seen0)
def Clo (s:List (List Int)) (b:Int) (seen:List Bool) (i k:Nat):Prop:=seen[i]?=some true→∀ (l:List Int) (k' j:Nat),s[i]?=some l→k' < k→l[k']?=some (j:Int)→j < s.length→(j:Int)≠b→seen[j]?=some true
theorem WInv.set {s:List (List Int)} {b:Int} {seen0 seen:List Bool} {more:Bool} (h:WInv s b seen0 seen more) {i j k:Nat} {l:List Int} (hi:seen[i]?=some true) (hl:s[i]?=some l) (hk:l[k]?=some (j:Int)) (hj:j < s.length) (hb:(j:Int)≠b) (hf:seen[j]?=some false) :
    WInv s b seen0 (seen.set j true) true:=by
  have hc:=cnt_set hf;refine ⟨by simpa using h.len,fun i' hi'=>?_,fun h0 hb0=>?_,.inl ⟨rfl,?_⟩⟩
  . by_cases e:i'=j
    . subst e; exact .step (h.far i hi) hl (List.mem_of_getElem? hk) hj hb
    . rw [List.getElem?_set_ne (fun x=>e x.symm)] at hi'; exact h.far i' hi'
  . by_cases e:0=j
    . subst e; rw [List.getElem?_set_self (by rw [h.len]; exact h0)]
    . rw [List.getElem?_set_ne (fun x=>e x.symm)]; exact h.zero h0 hb0
  . rcases h.more with ⟨_,h1⟩ | ⟨_,h1⟩
    . omega
    . subst h1; exact hc
theorem WInv.done {s:List (List Int)} {b:Int} {seen0 seen:List Bool} (h:WInv s b seen0 seen false) (hc:∀ i l,s[i]?=some l→Clo s b seen i l.length) (i:Nat):seen[i]?=some true↔Far s b i:=by
  refine ⟨h.far i,fun hf=>?_⟩
  induction hf with
  | start h0 hb=>exact h.zero h0 hb
  | step h1 hl hj hlt hb ih =>
    obtain ⟨k',hk'⟩:=List.mem_iff_getElem?.1 hj;exact hc _ _ hl ih _ k' _ hl (List.getElem?_eq_some_iff.1 hk').1 hk' hlt hb

section
variable {h : Heap} {K : Value → Heap → Prop}
end
end Pm
