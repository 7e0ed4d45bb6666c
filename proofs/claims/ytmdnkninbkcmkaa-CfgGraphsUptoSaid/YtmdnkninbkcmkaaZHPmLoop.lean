/- The pure machine: loops by what stands in their live slots.
   No condition: plain lemmas. -/
import Derived.Test.YtmdnkninbkcmkaaZHPmBox
namespace Pm
set_option linter.unusedSimpArgs false
set_option linter.unusedVariables false
open Go Am

/-- These slots hold these. -/
def Slots : List (Nat × Value) → Fr → Prop
  | [], _ => True
  | p :: l, fr => fr p.1 = p.2 ∧ Slots l fr
/-- These slots are given these. -/
def putF : List (Nat × Value) → Fr → Fr
  | [], fr => fr
  | p :: l, fr => upd (putF l fr) p.1 p.2
@[simp] theorem Slots_nil {fr : Fr} : Slots [] fr = True := Eq.trans rfl rfl
@[simp] theorem Slots_cons {fr : Fr} {t : Nat} {v : Value} {l : List (Nat × Value)} : Slots ((t, v) :: l) fr = (fr t = v ∧ Slots l fr) := Eq.trans rfl rfl
@[simp] theorem putF_nil {fr : Fr} : putF [] fr = fr := Eq.trans rfl rfl
@[simp] theorem putF_cons {fr : Fr} {t : Nat} {v : Value} {l : List (Nat × Value)} : putF ((t, v) :: l) fr = upd (putF l fr) t v := Eq.trans rfl rfl
theorem Slots.put {fr : Fr} : ∀ {l : List (Nat × Value)}, Slots l fr → putF l fr = fr
  | [], _ => rfl
  | (t, v) :: l, h => by
    rw [putF_cons, h.2.put]
    funext x
    unfold upd
    split
    · rename_i e; rw [e]; exact h.1.symm
    · rfl
/-- Once more round, with less left. -/
def NextL {σ : Type} (S : σ → List (Nat × Value)) (Hp : σ → Heap) (G : σ → Prop) (μ : σ → Nat) (x : σ) (fr : Fr) (h : Heap) : Prop := ∃ y, μ y < μ x ∧ Slots (S y) fr ∧ h = Hp y ∧ G y
section
variable {σ : Type} {S : σ → List (Nat × Value)} {Hp : σ → Heap} {G : σ → Prop} {μ : σ → Nat} {x : σ} {fr fr' : Fr} {h h' : Heap}
@[congr] theorem NextL_congr (e : fr = fr') (k : h = h') : NextL S Hp G μ x fr h = NextL S Hp G μ x fr' h' := by rw [e, k]
theorem NextL.go (y : σ) (h1 : μ y < μ x) (h2 : Slots (S y) fr) (h3 : h = Hp y) (h4 : G y) : NextL S Hp G μ x fr h := ⟨y, h1, h2, h3, h4⟩
/-- A loop, by what changes in it: the live slots, and the heap. -/
theorem loop_l {P : Program} {a : AC} {Q : Exit → Fr → Heap → Prop} (S : σ → List (Nat × Value)) (Hp : σ → Heap) (G : σ → Prop) (μ : σ → Nat) (x : σ) (h1 : Slots (S x) fr) (h2 : h = Hp x) (h3 : G x)
    (step : ∀ x fr, G x → pwp P a (SeqK (NextL S Hp G μ x) Q) (putF (S x) fr) (Hp x)) : pwp P (.loop a) Q fr h := by
  refine loop_r (fun x fr h => Slots (S x) fr ∧ h = Hp x ∧ G x) μ ?_ x ⟨h1, h2, h3⟩
  rintro x fr h ⟨k1, rfl, k3⟩
  have := step x fr k3
  rw [k1.put] at this
  exact this
/-- What holds between two parts. -/
def MidL {σ : Type} (S : σ → List (Nat × Value)) (Hp : σ → Heap) (G : σ → Prop) (fr : Fr) (h : Heap) : Prop := ∃ y, Slots (S y) fr ∧ h = Hp y ∧ G y
@[congr] theorem MidL_congr (e : fr = fr') (k : h = h') : MidL S Hp G fr h = MidL S Hp G fr' h' := by rw [e, k]
theorem MidL.go (y : σ) (h2 : Slots (S y) fr) (h3 : h = Hp y) (h4 : G y) : MidL S Hp G fr h := ⟨y, h2, h3, h4⟩
/-- What holds between two parts: the live slots, and the heap. -/
theorem seq_l {P : Program} {a b : AC} {Q : Exit → Fr → Heap → Prop} (S : σ → List (Nat × Value)) (Hp : σ → Heap) (G : σ → Prop) (h1 : pwp P a (SeqK (MidL S Hp G) Q) fr h)
    (h2 : ∀ x fr, G x → pwp P b Q (putF (S x) fr) (Hp x)) : pwp P (.seq a b) Q fr h := by
  refine seq_rule _ h1 ?_
  rintro fr h ⟨y, k1, rfl, k3⟩
  have := h2 y fr k3
  rw [k1.put] at this
  exact this
end
@[simp] theorem pOps_slit {P : Program} {K : Fr → Heap → Prop} {is : List AIns} {d : Option Nat} {fl : List QOp} {fr : Fr} {H : Heap} {z : List Value} {e len : Nat} {ps : List (Nat × Nat × Operand)} : pOps P K (⟨d, none, .st (.e (.lit z e len ps)), fl⟩ :: is) fr H = optK ((fillL z (ps.map fun p => (p.1, p.2.1, ev fr p.2.2))).map fun l => (.slice (some ⟨H.length, 0, none⟩) len 0, Am.newRow H l e)) fun x => pSeen fr H fl ∧ pOps P K is (updO fr d x.1) x.2 := pOps_se
end Pm
