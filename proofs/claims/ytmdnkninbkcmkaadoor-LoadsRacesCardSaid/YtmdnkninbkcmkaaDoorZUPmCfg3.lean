/- The pure machine: loops by what stands in their live slots.
   No condition: plain lemmas. -/
import Derived.Test.YtmdnkninbkcmkaaDoorZUPmBox
import Derived.Test.YtmdnkninbkcmkaaDoorZUPmCfg2
namespace Pm
set_option linter.unusedSimpArgs false
set_option linter.unusedVariables false
open Go Am

def qMv:List (Nat×Value)→Fr→Prop
  | [],_=>True
  | p :: l,fr=>fr p.1=p.2∧qMv l fr
def putF:List (Nat×Value)→Fr→Fr
  | [],fr=>fr
  | p :: l,fr=>upd (putF l fr) p.1 p.2
@[simp] theorem Slots_nil {fr:Fr}:qMv [] fr=True:=Eq.trans rfl rfl
@[simp] theorem Slots_cons {fr:Fr} {t:Nat} {v:Value} {l:List (Nat×Value)}:qMv ((t,v) :: l) fr=(fr t=v∧qMv l fr):=Eq.trans rfl rfl
@[simp] theorem putF_nil {fr:Fr}:putF [] fr=fr:=Eq.trans rfl rfl
@[simp] theorem putF_cons {fr:Fr} {t:Nat} {v:Value} {l:List (Nat×Value)}:putF ((t,v) :: l) fr=upd (putF l fr) t v:=Eq.trans rfl rfl
theorem qMv.put {fr:Fr}:∀ {l:List (Nat×Value)},qMv l fr→putF l fr=fr
  | [],_=>rfl
  | (t,v) :: l,h=>by
    rw [putF_cons,h.2.put]
    funext x
    unfold upd
    split
    . rename_i e; rw [e]; exact h.1.symm
    . rfl
def qYj {σ:Type} (S:σ→List (Nat×Value)) (Hp:σ→Heap) (G:σ→Prop) (μ:σ→Nat) (x:σ) (fr:Fr) (h:Heap):Prop:=∃ y,μ y < μ x∧qMv (S y) fr∧h=Hp y∧G y
section
variable {σ : Type} {S : σ → List (Nat × Value)} {Hp : σ → Heap} {G : σ → Prop} {μ : σ → Nat} {x : σ} {fr fr' : Fr} {h h' : Heap}
@[congr] theorem NextL_congr (e:fr=fr') (k:h=h'):qYj S Hp G μ x fr h=qYj S Hp G μ x fr' h':=by rw [e,k]
theorem qYj.go (y:σ) (h1:μ y < μ x) (h2:qMv (S y) fr) (h3:h=Hp y) (h4:G y):qYj S Hp G μ x fr h:=⟨y,h1,h2,h3,h4⟩
theorem qEa {P:Program} {a:AC} {Q:Exit→Fr→Heap→Prop} (S:σ→List (Nat×Value)) (Hp:σ→Heap) (G:σ→Prop) (μ:σ→Nat) (x:σ) (h1:qMv (S x) fr) (h2:h=Hp x) (h3:G x)
    (step:∀ x fr,G x→pwp P a (SeqK (qYj S Hp G μ x) Q) (putF (S x) fr) (Hp x)):pwp P (.loop a) Q fr h:=by
  refine qJt (fun x fr h=>qMv (S x) fr∧h=Hp x∧G x) μ ?_ x ⟨h1,h2,h3⟩
  rintro x fr h ⟨k1,rfl,k3⟩;have:=step x fr k3;rw [k1.put] at this;exact this
def MidL {σ:Type} (S:σ→List (Nat×Value)) (Hp:σ→Heap) (G:σ→Prop) (fr:Fr) (h:Heap):Prop:=∃ y,qMv (S y) fr∧h=Hp y∧G y
@[congr] theorem MidL_congr (e:fr=fr') (k:h=h'):MidL S Hp G fr h=MidL S Hp G fr' h':=by rw [e,k]
theorem MidL.go (y:σ) (h2:qMv (S y) fr) (h3:h=Hp y) (h4:G y):MidL S Hp G fr h:=⟨y,h2,h3,h4⟩
theorem qVo {P:Program} {a b:AC} {Q:Exit→Fr→Heap→Prop} (S:σ→List (Nat×Value)) (Hp:σ→Heap) (G:σ→Prop) (h1:pwp P a (SeqK (MidL S Hp G) Q) fr h)
    (h2:∀ x fr,G x→pwp P b Q (putF (S x) fr) (Hp x)):pwp P (.seq a b) Q fr h:=by
  refine qSw _ h1 ?_;rintro fr h ⟨y,k1,rfl,k3⟩;have:=h2 y fr k3;rw [k1.put] at this;exact this
theorem cK_join {P:Program} {a b c:AC} {Q:Exit→Fr→Heap→Prop} {t:Bool} (S:List (Nat×Value)) (H1:Heap) (h1:t=true→pwp P a (SeqK (fun fr h=>qMv S fr∧h=H1) Q) fr h) (h2:t=false→pwp P b (SeqK (fun fr h=>qMv S fr∧h=H1) Q) fr h)
    (k:∀ fr,pwp P c Q (putF S fr) H1):cK P a b (SeqK (pwp P c Q) Q) fr h (.bool t):=by
  have key:∀ d,pwp P d (SeqK (fun fr h=>qMv S fr∧h=H1) Q) fr h→pwp P d (SeqK (pwp P c Q) Q) fr h:=fun d hd=>by
    refine qFi d _ _ (qHl ?_ fun _ _ _ x=>x) fr h hd
    rintro fr h ⟨k1,rfl⟩;have:=k fr;rw [k1.put] at this;exact this
  cases t with
  | true=>rw [cK_true]; exact key a (h1 rfl)
  | false=>rw [cK_false]; exact key b (h2 rfl)
end
@[simp] theorem pOps_slit {P:Program} {K:Fr→Heap→Prop} {is:List AIns} {d:Option Nat} {fl:List QOp} {fr:Fr} {H:Heap} {z:List Value} {e len:Nat} {ps:List (Nat×Nat×Operand)}:pOps P K (⟨d,none,.st (.e (.lit z e len ps)),fl⟩ :: is) fr H=optK ((qFv z (ps.map fun p=>(p.1,p.2.1,ev fr p.2.2))).map fun l=>(.slice (some ⟨H.length,0,none⟩) len 0,Am.newRow H l e)) fun x=>qSf fr H fl∧pOps P K is (updO fr d x.1) x.2:=pOps_se
theorem qFm.lend {P:Program} {f:FuncId} {args args':List Value} {h:Heap} {K:Value→Heap→Prop} (hv:Inls 0 h args args') {e:Nat} (he:∀ (id:Nat) (r:Row),h[id]?=some (.row r)→r.rw=true→r.esz≠e)
    (k:qBn P f args' (lockAll h) fun v _=>(∃ n cs,v=lst e n cs∧cs.all qDx=true)∧K v h):qFm P f args h K:=by
  intro m H vals hP hr;have hr':Rs (Wr m (lockAll h)) H m args' vals:=by
    obtain ⟨hl,hg⟩:=hv.get;refine .of_get (by rw [← hl]; exact hr.length) fun i p v hp hvv=>?_
    obtain ⟨x,hx⟩:∃ x,args[i]?=some x:=⟨_,List.getElem?_eq_getElem (by rw [hl]; exact (List.getElem?_eq_some_iff.1 hp).1)⟩
    have h1:=(hg i x p hx hp).R hP (W:=fun _=>False) (fun a h=>h.elim) (hr.get i x v hx hvv) (fun a h=>h.elim)
    exact h1.mono (Stp.less fun a ha=>(qMz ha).elim) (.none m)
  refine (k m H vals hP.lockAll hr').mono fun v H'=>?_
  rintro ⟨p,h',m',⟨⟨n,cs,rfl,k1⟩,k2⟩,k3,k4,k5,k6⟩;obtain ⟨ext,rfl⟩:∃ ext,H'=H++ext:=by
    refine ⟨H'.drop H.length,?_⟩;apply List.ext_getElem?;intro i
    by_cases hi:i < H.length
    . rw [k6.same i hi qMz,List.getElem?_append_left hi]
    . rw [List.getElem?_append_right (by omega),List.getElem?_drop]; congr 1; omega
  have hs:Stp (Wr m h) H (Wr m h) (H++ext):=⟨by simp,fun a ha _=>List.getElem?_append_left ha,fun a ha=>.inl ha⟩
  refine ⟨⟨ext,rfl⟩,lst e n cs,h,m,k2,⟨fun id r hr=>?_,hP.inj,fun id a ha=>⟨(hP.dom id a ha).1,Nat.lt_of_lt_of_le (hP.dom id a ha).2 (by simp)⟩⟩,?_,.refl _,hs⟩
  . obtain ⟨a,r',h1,h2,h3,h4,h5,h6⟩:=hP.row id r hr
    exact ⟨a,r',h1,by rw [List.getElem?_append_left (hP.dom id a h1).2]; exact h2,h3,h4,h5,h6.mono hs (.refl _)⟩
  . generalize hp:lst e n cs=p at k4
    cases k4 with
    | lstNil =>
      have e1:=congrArg qEr hp;simp only [qDa,Option.some.injEq,Prod.mk.injEq] at e1;obtain ⟨rfl,rfl,rfl⟩:=e1;exact .lstNil
    | @lst m0 e0 n0 cs0 a off ver r hr hf he' hl hb hc =>
      have e1:=congrArg qEr hp;simp only [qDa,Option.some.injEq,Prod.mk.injEq] at e1;obtain ⟨rfl,rfl,rfl⟩:=e1;refine .lst hr ?_ he' hl hb fun j c v h1 h2=>?_
      . rintro ⟨id,r0,q1,q2,q3⟩
        obtain ⟨a',r',w1,w2,w3,_⟩:=hP.row id r0 q1;rw [q3] at w1; cases w1;have q4:=(Heap.row?_some hr).1;rw [List.getElem?_append_left (hP.dom id a q3).2,w2] at q4;cases q4;exact he id r0 q1 q2 (by rw [← w3]; exact he')
      . have hcp:=List.all_eq_true.1 k1 c (List.mem_of_getElem? h1)
        rw [qIy hcp (hc j c v h1 h2)];exact qNu hcp
    | _=>exact absurd (congrArg qEr hp) (by simp [qDa]; try simp [qEr,Pm.fptr])
end Pm

/- Graphs, the document's answer: small sets; what each can not be come to without; and that the program tells the same.
   No condition: plain lemmas. -/
namespace Pm
set_option linter.unusedSimpArgs false
set_option linter.unusedVariables false
open Go Am
open Go.Proofs.Tryd (prog)

abbrev big:Nat:=18446744073709551616
def hasB (s:Nat) (i:Int):Bool:=decide (0≤i) && decide (i < 64) && s.testBit i.toNat
theorem hasB_nat {s i:Nat} (h:i < 64):hasB s i=s.testBit i:=by
  have h1:(0:Int)≤(i:Int):=by omega
  have h2:(i:Int) < 64:=by omega
  simp [hasB,h1,h2]
section
variable {h : Heap} {K : Value → Heap → Prop}
structure DUp (s:List (List Int)) (d:Nat) (out:List Nat):Prop where
  len:out.length=s.length
  lt:∀ x∈out,x < big
  bit:∀ i x k,out[i]?=some x→(x.testBit k=true↔k < d∧qVk s k i)
theorem DUp.set {s:List (List Int)} {d:Nat} {out:List Nat} {i x y:Nat} {P:Nat→Prop} (hl:out.length=s.length) (hlt:∀ x∈out,x < big) (hy:y < big) (hP:∀ j x k,out[j]?=some x→(x.testBit k=true↔(k < d∧qVk s k j)∨(k=d∧j < i∧qVk s d j))) (hi:out[i]?=some x)
    (hb:∀ k,y.testBit k=true↔x.testBit k=true∨(k=d∧qVk s d i)):∀ j x k,(out.set i y)[j]?=some x→(x.testBit k=true↔(k < d∧qVk s k j)∨(k=d∧j < i+1∧qVk s d j)):=by
  intro j z k hz;have hil:=(List.getElem?_eq_some_iff.1 hi).1
  by_cases e:j=i
  . subst e
    rw [List.getElem?_set_self hil] at hz; cases hz;rw [hb k,hP _ _ k hi];constructor
    . rintro ((h | ⟨h1,h2,_⟩) | ⟨h1,h2⟩)
      . exact .inl h
      . omega
      . exact .inr ⟨h1,by omega,h2⟩
    . rintro (h | ⟨h1,_,h2⟩)
      . exact .inl (.inl h)
      . exact .inr ⟨h1,h2⟩
  . rw [List.getElem?_set_ne (fun x=>e x.symm)] at hz
    rw [hP _ _ k hz];constructor
    . rintro (h | ⟨h1,h2,h3⟩)
      . exact .inl h
      . exact .inr ⟨h1,by omega,h3⟩
    . rintro (h | ⟨h1,h2,h3⟩)
      . exact .inl h
      . exact .inr ⟨h1,by omega,h3⟩
end
end Pm
