/- The pure machine: loops by what stands in their live slots.
   No condition: plain lemmas. -/
import Derived.Test.YtmdnkninbkcmkaaZVPmBox
import Derived.Test.YtmdnkninbkcmkaaZVPmCfg2
namespace Pm
set_option linter.unusedSimpArgs false
set_option linter.unusedVariables false
open Go Am

def qLo:List (Nat×Value)→Fr→Prop
  | [],_=>True
  | p :: l,fr=>fr p.1=p.2∧qLo l fr
def putF:List (Nat×Value)→Fr→Fr
  | [],fr=>fr
  | p :: l,fr=>upd (putF l fr) p.1 p.2
@[simp] theorem Slots_nil {fr:Fr}:qLo [] fr=True:=Eq.trans rfl rfl
@[simp] theorem Slots_cons {fr:Fr} {t:Nat} {v:Value} {l:List (Nat×Value)}:qLo ((t,v) :: l) fr=(fr t=v∧qLo l fr):=Eq.trans rfl rfl
@[simp] theorem putF_nil {fr:Fr}:putF [] fr=fr:=Eq.trans rfl rfl
@[simp] theorem putF_cons {fr:Fr} {t:Nat} {v:Value} {l:List (Nat×Value)}:putF ((t,v) :: l) fr=upd (putF l fr) t v:=Eq.trans rfl rfl
theorem qLo.put {fr:Fr}:∀ {l:List (Nat×Value)},qLo l fr→putF l fr=fr
  | [],_=>rfl
  | (t,v) :: l,h=>by
    rw [putF_cons,h.2.put]
    funext x
    unfold upd
    split
    . rename_i e; rw [e]; exact h.1.symm
    . rfl
def qUj {σ:Type} (S:σ→List (Nat×Value)) (Hp:σ→Heap) (G:σ→Prop) (μ:σ→Nat) (x:σ) (fr:Fr) (h:Heap):Prop:=∃ y,μ y < μ x∧qLo (S y) fr∧h=Hp y∧G y
section
variable {σ : Type} {S : σ → List (Nat × Value)} {Hp : σ → Heap} {G : σ → Prop} {μ : σ → Nat} {x : σ} {fr fr' : Fr} {h h' : Heap}
@[congr] theorem NextL_congr (e:fr=fr') (k:h=h'):qUj S Hp G μ x fr h=qUj S Hp G μ x fr' h':=by rw [e,k]
theorem qUj.go (y:σ) (h1:μ y < μ x) (h2:qLo (S y) fr) (h3:h=Hp y) (h4:G y):qUj S Hp G μ x fr h:=⟨y,h1,h2,h3,h4⟩
theorem qFe {P:Program} {a:AC} {Q:Exit→Fr→Heap→Prop} (S:σ→List (Nat×Value)) (Hp:σ→Heap) (G:σ→Prop) (μ:σ→Nat) (x:σ) (h1:qLo (S x) fr) (h2:h=Hp x) (h3:G x)
    (step:∀ x fr,G x→pwp P a (SeqK (qUj S Hp G μ x) Q) (putF (S x) fr) (Hp x)):pwp P (.loop a) Q fr h:=by
  refine qIw (fun x fr h=>qLo (S x) fr∧h=Hp x∧G x) μ ?_ x ⟨h1,h2,h3⟩
  rintro x fr h ⟨k1,rfl,k3⟩;have:=step x fr k3;rw [k1.put] at this;exact this
def MidL {σ:Type} (S:σ→List (Nat×Value)) (Hp:σ→Heap) (G:σ→Prop) (fr:Fr) (h:Heap):Prop:=∃ y,qLo (S y) fr∧h=Hp y∧G y
@[congr] theorem MidL_congr (e:fr=fr') (k:h=h'):MidL S Hp G fr h=MidL S Hp G fr' h':=by rw [e,k]
theorem MidL.go (y:σ) (h2:qLo (S y) fr) (h3:h=Hp y) (h4:G y):MidL S Hp G fr h:=⟨y,h2,h3,h4⟩
theorem qTw {P:Program} {a b:AC} {Q:Exit→Fr→Heap→Prop} (S:σ→List (Nat×Value)) (Hp:σ→Heap) (G:σ→Prop) (h1:pwp P a (SeqK (MidL S Hp G) Q) fr h)
    (h2:∀ x fr,G x→pwp P b Q (putF (S x) fr) (Hp x)):pwp P (.seq a b) Q fr h:=by
  refine qPw _ h1 ?_;rintro fr h ⟨y,k1,rfl,k3⟩;have:=h2 y fr k3;rw [k1.put] at this;exact this
theorem cK_join {P:Program} {a b c:AC} {Q:Exit→Fr→Heap→Prop} {t:Bool} (S:List (Nat×Value)) (H1:Heap) (h1:t=true→pwp P a (SeqK (fun fr h=>qLo S fr∧h=H1) Q) fr h) (h2:t=false→pwp P b (SeqK (fun fr h=>qLo S fr∧h=H1) Q) fr h)
    (k:∀ fr,pwp P c Q (putF S fr) H1):cK P a b (SeqK (pwp P c Q) Q) fr h (.bool t):=by
  have key:∀ d,pwp P d (SeqK (fun fr h=>qLo S fr∧h=H1) Q) fr h→pwp P d (SeqK (pwp P c Q) Q) fr h:=fun d hd=>by
    refine qFb d _ _ (qGx ?_ fun _ _ _ x=>x) fr h hd
    rintro fr h ⟨k1,rfl⟩;have:=k fr;rw [k1.put] at this;exact this
  cases t with
  | true=>rw [cK_true]; exact key a (h1 rfl)
  | false=>rw [cK_false]; exact key b (h2 rfl)
end
@[simp] theorem pOps_slit {P:Program} {K:Fr→Heap→Prop} {is:List AIns} {d:Option Nat} {fl:List QOp} {fr:Fr} {H:Heap} {z:List Value} {e len:Nat} {ps:List (Nat×Nat×Operand)}:pOps P K (⟨d,none,.st (.e (.lit z e len ps)),fl⟩ :: is) fr H=optK ((qGw z (ps.map fun p=>(p.1,p.2.1,ev fr p.2.2))).map fun l=>(.slice (some ⟨H.length,0,none⟩) len 0,Am.newRow H l e)) fun x=>qPi fr H fl∧pOps P K is (updO fr d x.1) x.2:=pOps_se
end Pm

/- Graphs, the document's answer: small sets; what each can not be come to without; and that the program tells the same.
   No condition: plain lemmas. -/
namespace Pm
set_option linter.unusedSimpArgs false
set_option linter.unusedVariables false
open Go Am
open Go.Proofs.Try (prog)

abbrev big:Nat:=18446744073709551616
def hasB (s:Nat) (i:Int):Bool:=decide (0≤i) && decide (i < 64) && s.testBit i.toNat
theorem qQr {s i:Nat} (h:i < 64):hasB s i=s.testBit i:=by
  have h1:(0:Int)≤(i:Int):=by omega
  have h2:(i:Int) < 64:=by omega
  simp [hasB,h1,h2]
section
variable {h : Heap} {K : Value → Heap → Prop}
theorem RHas_call {s:Nat} {i:Int} (hs:s < big) (hk:K (.bool (hasB s i)) h):qBu prog 20 [vU s,vI i] h K:=by
  refine call_RHas (by simp) ?_
  by_cases h0:0≤i
  . by_cases h2:i < 64
    . obtain ⟨n,rfl⟩:∃ n:Nat,i=n:=⟨i.toNat,by omega⟩
      have h1:n < 64:=by omega
      simp [c_RHas,h2];refine two_call h1 ?_;have hp:=qRs h1;have hp0:0 < 2 ^ n:=Nat.two_pow_pos n;obtain ⟨x,hx⟩:∃ x,x=2 ^ n:=⟨_,rfl⟩;obtain ⟨q,hq⟩:∃ q,q=s / x:=⟨_,rfl⟩;have hx0:¬ x=0:=by omega
      have hbit:s.testBit n=decide (q % 2=1):=by rw [Nat.testBit_eq_decide_div_mod_eq,← hx,← hq]
      rw [qQr h1,hbit] at hk;rw [← hx];have e1:((s:Int)).tdiv (x:Int)=(q:Int):=by rw [Int.tdiv_eq_ediv_of_nonneg (by omega),hq]; rfl
      have e2:((q:Int)).tmod 2=((q % 2:Nat):Int):=by rw [Int.tmod_eq_emod_of_nonneg (by omega)]; rfl
      have hqs:q≤s:=by rw [hq]; exact Nat.div_le_self _ _
      have e3:IntKind.u64.wrap (q:Int)=(q:Int):=by rw [qHw,Nat.mod_eq_of_lt (Nat.lt_of_le_of_lt hqs hs)]
      have e4:((((q % 2:Nat):Int)=1))↔q % 2=1:=by omega
      simp [callK_def,hx0,e1,e3,qAu,qAv,resV,retV];rw [e2]
      simpa only [e4] using hk
    . simp [c_RHas,h0,h2,qAu,qAv,resV,retV]
      simpa [hasB,h0,h2] using hk
  . simp [c_RHas,h0,qAu,qAv,resV,retV]
    simpa [hasB,h0] using hk
structure DUp (s:List (List Int)) (d:Nat) (out:List Nat):Prop where
  len:out.length=s.length
  lt:∀ x∈out,x < big
  bit:∀ i x k,out[i]?=some x→(x.testBit k=true↔k < d∧qSd s k i)
theorem DUp.set {s:List (List Int)} {d:Nat} {out:List Nat} {i x y:Nat} {P:Nat→Prop} (hl:out.length=s.length) (hlt:∀ x∈out,x < big) (hy:y < big) (hP:∀ j x k,out[j]?=some x→(x.testBit k=true↔(k < d∧qSd s k j)∨(k=d∧j < i∧qSd s d j))) (hi:out[i]?=some x)
    (hb:∀ k,y.testBit k=true↔x.testBit k=true∨(k=d∧qSd s d i)):∀ j x k,(out.set i y)[j]?=some x→(x.testBit k=true↔(k < d∧qSd s k j)∨(k=d∧j < i+1∧qSd s d j)):=by
  intro j z k hz;have hil:=(List.getElem?_eq_some_iff.1 hi).1
  by_cases e:j=i
  . subst e
    rw [List.getElem?_set_self hil] at hz; cases hz;rw [hb k,hP _ _ k hi];constructor
    . rintro ((h | ⟨h1,h2,_⟩) | ⟨h1,h2⟩)
      . exact .inl h
      . omega
      . exact .inr ⟨h1,by omega,h2⟩
    . rintro (h | ⟨h1,_,h2⟩)
      . exact .inl (.inl h)
      . exact .inr ⟨h1,h2⟩
  . rw [List.getElem?_set_ne (fun x=>e x.symm)] at hz
    rw [hP _ _ k hz];constructor
    . rintro (h | ⟨h1,h2,h3⟩)
      . exact .inl h
      . exact .inr ⟨h1,by omega,h3⟩
    . rintro (h | ⟨h1,h2,h3⟩)
      . exact .inl h
      . exact .inr ⟨h1,by omega,h3⟩
end
end Pm
