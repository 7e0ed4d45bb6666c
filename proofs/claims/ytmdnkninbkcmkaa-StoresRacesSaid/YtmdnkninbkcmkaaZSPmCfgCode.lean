/- Graphs: all that is told of any code is what the document says.
   No condition: plain lemmas. -/
import Derived.Test.YtmdnkninbkcmkaaZSPmMake2
import Derived.Test.YtmdnkninbkcmkaaZSPmSuccs
import Derived.Test.YtmdnkninbkcmkaaZSPmCfg3
namespace Pm
set_option linter.unusedSimpArgs false
set_option linter.unusedVariables false
open Go Am
open Go.Proofs.Try (prog)

theorem sum_succs (code : List Ins) : ((succs code).map List.length).sum ≤ 2 * code.length := by
  have h : ∀ (l : List (List Int)),(∀ x ∈ l,x.length ≤ 2) → (l.map List.length).sum ≤ 2 * l.length := by
    intro l
    induction l with
    | nil => intro _; simp
    | cons a l ih =>
      intro h
      have h1 := h a (by simp)
      have h2 := ih fun x hx => h x (by simp [hx])
      simp only [List.map_cons,List.sum_cons,List.length_cons]; omega
  have := h (succs code) fun x hx => by
    obtain ⟨i,hi⟩ := List.mem_iff_getElem?.1 hx
    rw [qJx] at hi
    obtain ⟨y,_,rfl⟩ := Option.map_eq_some_iff.1 hi
    exact nextsOf_len i y
  rw [qDa] at this; exact this
theorem succs_short (code : List Ins) : ∀ l ∈ succs code,l.length < lim := by
  intro l hl
  obtain ⟨i,hi⟩ := List.mem_iff_getElem?.1 hl
  rw [qJx] at hi
  obtain ⟨y,_,rfl⟩ := Option.map_eq_some_iff.1 hi
  have := nextsOf_len i y
  simp [lim]; omega

def Choices (l : List (List Nat)) : Prop := qVu l ∧ ∀ c ∈ l,qWs c
theorem Make_ok {l : List (List Nat)} (hl : Choices l) {h : Heap} {K : Value → Heap → Prop} (hk : K (.agg (qCq (qFx l)).toArray) h) : qBo prog 13 [vL (vL v8) l] h K :=
  Make_call hl.1 (fun c hc => (hl.2 c hc).1) (fun c hc => (hl.2 c hc).2) hk
end Pm
