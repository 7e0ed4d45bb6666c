/- The pure machine: loops by what stands in their live slots.
   No condition: plain lemmas. -/
import Derived.Test.YtdiggaadgjkgkaaDoorZMPmBox
import Derived.Test.YtdiggaadgjkgkaaDoorZMPmCfg2
namespace Pm
set_option linter.unusedSimpArgs false
set_option linter.unusedVariables false
open Go Am

def qKw:List (Nat×Value)→Fr→Prop
  | [],_=>True
  | p :: l,fr=>fr p.1=p.2∧qKw l fr
def putF:List (Nat×Value)→Fr→Fr
  | [],fr=>fr
  | p :: l,fr=>upd (putF l fr) p.1 p.2
@[simp] theorem Slots_nil {fr:Fr}:qKw [] fr=True:=Eq.trans rfl rfl
@[simp] theorem Slots_cons {fr:Fr} {t:Nat} {v:Value} {l:List (Nat×Value)}:qKw ((t,v) :: l) fr=(fr t=v∧qKw l fr):=Eq.trans rfl rfl
@[simp] theorem putF_nil {fr:Fr}:putF [] fr=fr:=Eq.trans rfl rfl
@[simp] theorem putF_cons {fr:Fr} {t:Nat} {v:Value} {l:List (Nat×Value)}:putF ((t,v) :: l) fr=upd (putF l fr) t v:=Eq.trans rfl rfl
theorem qKw.put {fr:Fr}:∀ {l:List (Nat×Value)},qKw l fr→putF l fr=fr
  | [],_=>rfl
  | (t,v) :: l,h=>by
    rw [putF_cons,h.2.put]
    funext x
    unfold upd
    split
    . rename_i e; rw [e]; exact h.1.symm
    . rfl
def qRu {σ:Type} (S:σ→List (Nat×Value)) (Hp:σ→Heap) (G:σ→Prop) (μ:σ→Nat) (x:σ) (fr:Fr) (h:Heap):Prop:=∃ y,μ y < μ x∧qKw (S y) fr∧h=Hp y∧G y
section
variable {σ : Type} {S : σ → List (Nat × Value)} {Hp : σ → Heap} {G : σ → Prop} {μ : σ → Nat} {x : σ} {fr fr' : Fr} {h h' : Heap}
@[congr] theorem NextL_congr (e:fr=fr') (k:h=h'):qRu S Hp G μ x fr h=qRu S Hp G μ x fr' h':=by rw [e,k]
theorem qRu.go (y:σ) (h1:μ y < μ x) (h2:qKw (S y) fr) (h3:h=Hp y) (h4:G y):qRu S Hp G μ x fr h:=⟨y,h1,h2,h3,h4⟩
theorem qFv {P:Program} {a:AC} {Q:Exit→Fr→Heap→Prop} (S:σ→List (Nat×Value)) (Hp:σ→Heap) (G:σ→Prop) (μ:σ→Nat) (x:σ) (h1:qKw (S x) fr) (h2:h=Hp x) (h3:G x)
    (step:∀ x fr,G x→pwp P a (SeqK (qRu S Hp G μ x) Q) (putF (S x) fr) (Hp x)):pwp P (.loop a) Q fr h:=by
  refine qIl (fun x fr h=>qKw (S x) fr∧h=Hp x∧G x) μ ?_ x ⟨h1,h2,h3⟩
  rintro x fr h ⟨k1,rfl,k3⟩;have:=step x fr k3;rw [k1.put] at this;exact this
def MidL {σ:Type} (S:σ→List (Nat×Value)) (Hp:σ→Heap) (G:σ→Prop) (fr:Fr) (h:Heap):Prop:=∃ y,qKw (S y) fr∧h=Hp y∧G y
@[congr] theorem MidL_congr (e:fr=fr') (k:h=h'):MidL S Hp G fr h=MidL S Hp G fr' h':=by rw [e,k]
theorem MidL.go (y:σ) (h2:qKw (S y) fr) (h3:h=Hp y) (h4:G y):MidL S Hp G fr h:=⟨y,h2,h3,h4⟩
theorem seq_l {P:Program} {a b:AC} {Q:Exit→Fr→Heap→Prop} (S:σ→List (Nat×Value)) (Hp:σ→Heap) (G:σ→Prop) (h1:pwp P a (SeqK (MidL S Hp G) Q) fr h)
    (h2:∀ x fr,G x→pwp P b Q (putF (S x) fr) (Hp x)):pwp P (.seq a b) Q fr h:=by
  refine seq_rule _ h1 ?_;rintro fr h ⟨y,k1,rfl,k3⟩;have:=h2 y fr k3;rw [k1.put] at this;exact this
end
@[simp] theorem pOps_slit {P:Program} {K:Fr→Heap→Prop} {is:List AIns} {d:Option Nat} {fl:List QOp} {fr:Fr} {H:Heap} {z:List Value} {e len:Nat} {ps:List (Nat×Nat×Operand)}:pOps P K (⟨d,none,.st (.e (.lit z e len ps)),fl⟩ :: is) fr H=optK ((qDs z (ps.map fun p=>(p.1,p.2.1,ev fr p.2.2))).map fun l=>(.slice (some ⟨H.length,0,none⟩) len 0,Am.newRow H l e)) fun x=>qNh fr H fl∧pOps P K is (updO fr d x.1) x.2:=pOps_se
end Pm

/- Graphs, the document's answer: small sets; what each can not be come to without; and that the program tells the same.
   No condition: plain lemmas. -/
namespace Pm
set_option linter.unusedSimpArgs false
set_option linter.unusedVariables false
open Go Am
open Go.Proofs.Tryd (prog)

abbrev big:Nat:=18446744073709551616
def hasB (s:Nat) (i:Int):Bool:=decide (0≤i) && decide (i < 64) && s.testBit i.toNat
theorem qLf {s i:Nat} (h:i < 64):hasB s i=s.testBit i:=by
  have h1:(0:Int)≤(i:Int):=by omega
  have h2:(i:Int) < 64:=by omega
  simp [hasB,h1,h2]
section
variable {h : Heap} {K : Value → Heap → Prop}
structure DUp (s:List (List Int)) (d:Nat) (out:List Nat):Prop where
  len:out.length=s.length
  lt:∀ x∈out,x < big
  bit:∀ i x k,out[i]?=some x→(x.testBit k=true↔k < d∧qMu s k i)
theorem DUp.set {s:List (List Int)} {d:Nat} {out:List Nat} {i x y:Nat} {P:Nat→Prop} (hl:out.length=s.length) (hlt:∀ x∈out,x < big) (hy:y < big) (hP:∀ j x k,out[j]?=some x→(x.testBit k=true↔(k < d∧qMu s k j)∨(k=d∧j < i∧qMu s d j))) (hi:out[i]?=some x)
    (hb:∀ k,y.testBit k=true↔x.testBit k=true∨(k=d∧qMu s d i)):∀ j x k,(out.set i y)[j]?=some x→(x.testBit k=true↔(k < d∧qMu s k j)∨(k=d∧j < i+1∧qMu s d j)):=by
  intro j z k hz;have hil:=(List.getElem?_eq_some_iff.1 hi).1
  by_cases e:j=i
  . subst e
    rw [List.getElem?_set_self hil] at hz; cases hz;rw [hb k,hP _ _ k hi];constructor
    . rintro ((h | ⟨h1,h2,_⟩) | ⟨h1,h2⟩)
      . exact .inl h
      . omega
      . exact .inr ⟨h1,by omega,h2⟩
    . rintro (h | ⟨h1,_,h2⟩)
      . exact .inl (.inl h)
      . exact .inr ⟨h1,h2⟩
  . rw [List.getElem?_set_ne (fun x=>e x.symm)] at hz
    rw [hP _ _ k hz];constructor
    . rintro (h | ⟨h1,h2,h3⟩)
      . exact .inl h
      . exact .inr ⟨h1,by omega,h3⟩
    . rintro (h | ⟨h1,h2,h3⟩)
      . exact .inl h
      . exact .inr ⟨h1,by omega,h3⟩
end
end Pm
