/- Numbers that are asked for on some way,before they are taken away: what the solver tells.
   No condition: plain lemmas. -/

import Derived.Test.YtmdnkninbkcmkaaZSPmLive2
namespace Pm
set_option linter.unusedSimpArgs false
set_option linter.unusedVariables false
open Go Am

def wayP (f g : Ins → Nat) (code : List Ins) : Prob := ⟨succs code,code.map f,code.map g,0,false,true⟩
theorem wayP_ok {f g : Ins → Nat} (hf : ∀ c,f c < big) (hg : ∀ c,g c < big) {code : List Ins} (hl : code.length ≤ 64) : (wayP f g code).Ok :=
  ⟨fun i => gN_map_lt hf,fun i => gN_map_lt hg,(by show 0 < big; decide),by show (succs code).length ≤ 64; rw [qDa]; exact hl,succs_short code⟩
inductive Wy (f g : Ins → Nat) (code : List Ins) (r : Nat) : Nat → Prop
  | use {i : Nat} {c : Ins} (hc : code[i]? = some c) (hu : (f c).testBit r = true) : Wy f g code r i
  | pass {i j : Nat} {c : Ins} (hc : code[i]? = some c) (hs : (g c).testBit r = false) (hj : (j : Int) ∈ qDd i c) (h : Wy f g code r j) : Wy f g code r i
theorem Wy.lt {f g : Ins → Nat} {code : List Ins} {r i : Nat} (h : Wy f g code r i) : i < code.length := by
  cases h with
  | use hc _ => exact (List.getElem?_eq_some_iff.1 hc).1
  | pass hc _ _ _ => exact (List.getElem?_eq_some_iff.1 hc).1
theorem Wy.low {f g : Ins → Nat} {code : List Ins} {r i : Nat} (hf : ∀ c,f c < big) (h : Wy f g code r i) : r < 64 := by
  induction h with
  | @use i c hc hu =>
    rcases Nat.lt_or_ge r 64 with h | h
    · exact h
    · rw [qSi (hf c) h] at hu; cases hu
  | pass _ _ _ _ ih => exact ih
theorem Wy.step {f g : Ins → Nat} {code : List Ins} {r i : Nat} {c : Ins} (hc : code[i]? = some c) : Wy f g code r i ↔ (f c).testBit r = true ∨ (g c).testBit r = false ∧ ∃ j : Nat,(j : Int) ∈ qDd i c ∧ Wy f g code r j := by
  constructor
  · intro h
    cases h with
    | use hc' hu => rw [hc] at hc'; cases hc'; exact .inl hu
    | pass hc' hs hj h => rw [hc] at hc'; cases hc'; exact .inr ⟨hs,_,hj,h⟩
  · rintro (h | ⟨h1,j,h2,h3⟩)
    · exact .use hc h
    · exact .pass hc h1 h2 h3
section
variable {f g : Ins → Nat} {code : List Ins} {inn out : List Nat}
theorem qVl (f g : Ins → Nat) (code : List Ins) : (wayP f g code).n = code.length := qDa code
theorem way_mk {x k : Nat} : (wayP f g code).marked x k = x.testBit k := by simp [Prob.marked,wayP]
theorem way_iff {r : Nat} (hr : r < 64) : (∀ i,Mk (wayP f g code) r true i ↔ Wy f g code r i) ∧ ∀ i,Mk (wayP f g code) r false i ↔ i < code.length ∧ ∃ j : Nat,(j : Int) ∈ qEg (succs code) i ∧ Wy f g code r j := by
  have hfr : ∀ i (j : Nat),(j : Int) ∈ qEg (wayP f g code).froms i ↔ j < code.length ∧ (j : Int) ∈ qEg (succs code) i := by
    intro i j
    show (j : Int) ∈ qEg (qFb (succs code)) i ↔ _
    rw [qJk,qDa]
    constructor
    · rintro ⟨a,h1,h2,h3⟩
      obtain rfl : j = a := by omega
      exact ⟨h2,h3⟩
    · rintro ⟨h1,h2⟩; exact ⟨j,rfl,h1,h2⟩
  have key : ∀ b i,Mk (wayP f g code) r b i → if b then Wy f g code r i else i < code.length ∧ ∃ j : Nat,(j : Int) ∈ qEg (succs code) i ∧ Wy f g code r j := by
    intro b i h
    induction h with
    | start hi he hs => simp [Prob.marked,wayP] at hs
    | flow hi hj h ih =>
      simp only [if_true,Bool.false_eq_true,if_false] at ih ⊢
      rw [qVl] at hi
      exact ⟨hi,_,((hfr _ _).1 hj).2,ih⟩
    | @gen i hi hc =>
      simp only [if_true]
      rw [qVl] at hi
      have hci : code[i]? = some code[i] := List.getElem?_eq_getElem hi
      have e : gN (wayP f g code).gen i = f code[i] := by show gN (code.map f) i = _; rw [qTp,hci]
      simp only [Prob.genM,e] at hc
      exact .use hci hc
    | @pass i h hp ih =>
      simp only [if_true,Bool.false_eq_true,if_false] at ih ⊢
      obtain ⟨hi,j,hj,hl⟩ := ih
      have hci : code[i]? = some code[i] := List.getElem?_eq_getElem hi
      have e : gN (wayP f g code).kill i = g code[i] := by show gN (code.map g) i = _; rw [qTp,hci]
      simp only [Prob.passM,e] at hp
      rw [qIn hci] at hj
      exact .pass hci (by simpa [wayP] using hp) hj hl
  have back : ∀ i,Wy f g code r i → Mk (wayP f g code) r true i := by
    intro i h
    induction h with
    | @use i c hc hu =>
      refine .gen (by rw [qVl]; exact (List.getElem?_eq_some_iff.1 hc).1) ?_
      have e : gN (wayP f g code).gen i = f c := by show gN (code.map f) i = _; rw [qTp,hc]
      unfold Prob.genM; rw [e]; exact hu
    | @pass i j c hc hs hj h ih =>
      refine .pass (.flow (by rw [qVl]; exact (List.getElem?_eq_some_iff.1 hc).1) ((hfr i j).2 ⟨h.lt,by rw [qIn hc]; exact hj⟩) ih) ?_
      have e : gN (wayP f g code).kill i = g c := by show gN (code.map g) i = _; rw [qTp,hc]
      simp only [Prob.passM,e]
      simp [wayP,hs]
  refine ⟨fun i => ⟨fun h => by simpa using key _ _ h,back i⟩,fun i => ⟨fun h => by simpa using key _ _ h,?_⟩⟩
  rintro ⟨hi,j,hj,hl⟩
  exact .flow (by rw [qVl]; exact hi) ((hfr i j).2 ⟨hl.lt,hj⟩) (back j hl)

structure Asked (f g : Ins → Nat) (code : List Ins) (b : List Nat) : Prop where
  len : b.length = code.length
  lt : ∀ i,gN b i < big
  bit : ∀ i r,(gN b i).testBit r = true ↔ i < code.length ∧ ∃ j : Nat,(j : Int) ∈ qEg (succs code) i ∧ Wy f g code r j
theorem way_asked (hf : ∀ c,f c < big) (h : Solved (wayP f g code) inn out) : Asked f g code inn := by
  have hn := qVl f g code
  refine ⟨by rw [h.ilen,hn],h.ilt,fun i r => ?_⟩
  by_cases hi : i < code.length
  · by_cases hr : r < 64
    · have := h.ahead i r (by rw [hn]; exact hi) hr
      rw [way_mk] at this
      rw [this,(way_iff hr).2]
    · rw [qSi (h.ilt i) (by omega)]
      constructor
      · intro h; cases h
      · rintro ⟨_,j,_,h⟩; have := h.low hf; omega
  · rw [gN_out (by rw [h.ilen,hn]; omega)]
    simp only [Nat.zero_testBit]
    constructor
    · intro h; cases h
    · intro h; omega
theorem Asked.unique {a b : List Nat} (ha : Asked f g code a) (hb : Asked f g code b) : a = b :=
  qVf (by rw [ha.len,hb.len]) fun i _ => Nat.eq_of_testBit_eq fun r => by rw [Bool.eq_iff_iff,ha.bit,hb.bit]
end
end Pm
