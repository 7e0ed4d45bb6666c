/- Graphs, the document's answer: rows compared, the way back, what is come to.
   No condition: plain lemmas. -/
import Derived.Test.YtdiggaadgjkgkaaDoorZMPmCfgA
import Derived.Test.YtdiggaadgjkgkaaDoorZMPmCfgC
namespace Pm
set_option linter.unusedSimpArgs false
set_option linter.unusedVariables false
open Go Am
open Go.Proofs.Tryd (prog)

theorem wrap_succ {i:Nat} (h:i < lim):IntKind.i64.wrap ((i:Int)+1)=((i+1:Nat):Int):=wrap_i64 (by omega) (by simp [lim] at h; omega)

theorem qCg {i:Nat} (h:i < lim):∃ j:Nat,j=i+1∧IntKind.i64.wrap ((i:Int)+1)=(j:Int):=⟨i+1,rfl,wrap_succ h⟩

section
variable {h : Heap} {K : Value → Heap → Prop}
end
end Pm

/- Graphs, the document's answer: what is come to without a node; what each can not be come to without.
   No condition: plain lemmas. -/
namespace Pm
set_option linter.unusedSimpArgs false
set_option linter.unusedVariables false
open Go Am
open Go.Proofs.Tryd (prog)

/-! ### A row of one's own behind a heap -/
section
variable {α : Type} {f : α → Value} {l : List α} {h g : Heap} {ver : Nat} {rw : Bool}
@[simp] theorem own_cell {off:Nat}:(h++Ob.row ⟨l.map f,1,ver,rw⟩ :: g).cell? h.length off ver=(l[off]?).map f:=by simp [Heap.cell?,Heap.row?]
@[simp] theorem own_store {off:Nat} {x:α} (hx:cellsOf (f x)=some [f x]):qBx (h++Ob.row ⟨l.map f,1,ver,true⟩ :: g) 1 (.pointer (some ⟨h.length,off,some ver⟩)) (f x)=if off < l.length then some (h++Ob.row ⟨(l.set off x).map f,1,ver,true⟩ :: g) else none:=by
  simp only [qBx,hx]
  by_cases ho:off < l.length
  . have ho':off+1≤l.length:=ho
    simp [Heap.row?,ho,ho',setAll]
  . have ho':¬ off+1≤l.length:=ho
    simp [Heap.row?,ho,ho']
end

inductive Far (s:List (List Int)) (b:Int):Nat→Prop
  | start (h:0 < s.length) (hb:b≠0):Far s b 0
  | step {i j:Nat} {l:List Int} (h:Far s b i) (hl:s[i]?=some l) (hj:(j:Int)∈l) (hlt:j < s.length) (hb:(j:Int)≠b):Far s b j
theorem Far.lt {s:List (List Int)} {b:Int} {i:Nat} (h:Far s b i):i < s.length:=by cases h<;>assumption

theorem cnt_set:∀ {l:List Bool} {j:Nat},l[j]?=some false→(l.set j true).count false < l.count false
  | [],j,h=>by simp at h
  | a :: l,0,h=>by simp at h; subst h; simp
  | a :: l,j+1,h=>by
    have:=cnt_set (l:=l) (j:=j) (by simpa using h)
    simp only [List.set_cons_succ,List.count_cons]; omega

structure WInv (s:List (List Int)) (b:Int) (seen0 seen:List Bool) (more:Bool):Prop where
  len:seen.length=s.length
  far:∀ i,seen[i]?=some true→Far s b i
  zero:0 < s.length→b≠0→seen[0]?=some true
  more:(more=true∧seen.count false < seen0.count false)∨(more=false∧seen=seen0)
def Clo (s:List (List Int)) (b:Int) (seen:List Bool) (i k:Nat):Prop:=seen[i]?=some true→∀ (l:List Int) (k' j:Nat),s[i]?=some l→k' < k→l[k']?=some (j:Int)→j < s.length→(j:Int)≠b→seen[j]?=some true
theorem WInv.set {s:List (List Int)} {b:Int} {seen0 seen:List Bool} {more:Bool} (h:WInv s b seen0 seen more) {i j k:Nat} {l:List Int} (hi:seen[i]?=some true) (hl:s[i]?=some l) (hk:l[k]?=some (j:Int)) (hj:j < s.length) (hb:(j:Int)≠b) (hf:seen[j]?=some false) :
    WInv s b seen0 (seen.set j true) true:=by
  have hc:=cnt_set hf;refine ⟨by simpa using h.len,fun i' hi'=>?_,fun h0 hb0=>?_,.inl ⟨rfl,?_⟩⟩
  . by_cases e:i'=j
    . subst e; exact .step (h.far i hi) hl (List.mem_of_getElem? hk) hj hb
    . rw [List.getElem?_set_ne (fun x=>e x.symm)] at hi'; exact h.far i' hi'
  . by_cases e:0=j
    . subst e; rw [List.getElem?_set_self (by rw [h.len]; exact h0)]
    . rw [List.getElem?_set_ne (fun x=>e x.symm)]; exact h.zero h0 hb0
  . rcases h.more with ⟨_,h1⟩ | ⟨_,h1⟩
    . omega
    . subst h1; exact hc
theorem WInv.done {s:List (List Int)} {b:Int} {seen0 seen:List Bool} (h:WInv s b seen0 seen false) (hc:∀ i l,s[i]?=some l→Clo s b seen i l.length) (i:Nat):seen[i]?=some true↔Far s b i:=by
  refine ⟨h.far i,fun hf=>?_⟩
  induction hf with
  | start h0 hb=>exact h.zero h0 hb
  | step h1 hl hj hlt hb ih =>
    obtain ⟨k',hk'⟩:=List.mem_iff_getElem?.1 hj;exact hc _ _ hl ih _ k' _ hl (List.getElem?_eq_some_iff.1 hk').1 hk' hlt hb

section
variable {h : Heap} {K : Value → Heap → Prop}
end
end Pm
