/- What is known is not reckoned: the law,without the program.
   No condition: plain lemmas. -/

import Derived.Test.YtmdnkninbkcmkaaZGPmEdit
import Derived.Test.YtmdnkninbkcmkaaZGPmVal4
import Derived.Test.YtmdnkninbkcmkaaZGPmVal10
import Derived.Test.YtmdnkninbkcmkaaZGPmCfgC
import Derived.Test.YtmdnkninbkcmkaaZGPmLend3
import Derived.Test.YtmdnkninbkcmkaaZGPmLive5
import Derived.Test.YtmdnkninbkcmkaaZGPmTab
import Derived.Test.YtmdnkninbkcmkaaZGPmCfgCode
namespace Pm
set_option linter.unusedSimpArgs false
set_option linter.unusedVariables false
open Go Am

/-- An instruction,by what is known ahead of it. -/
def foldIns (i : Ins) (l : V4) : Ins :=
  if 0 ≤ i.a ∧ i.a < 4 then
    if (2 ≤ i.op ∧ i.op ≤ 6) ∧ ((doV i l).at i.a).kind = 1 then ⟨1,i.a,((doV i l).at i.a).n,0⟩
    else if i.op = 11 ∧ (l.at i.a).kind = 1 then (if (l.at i.a).n = 0 then ⟨10,i.b,0,0⟩ else nopI) else i
  else i
theorem foldIns_else {i : Ins} {l : V4} (h1 : ¬ (2 ≤ i.op ∧ i.op ≤ 6)) (h2 : i.op ≠ 11) : foldIns i l = i := by
  unfold foldIns
  split
  · rw [if_neg (fun h => h1 h.1),if_neg (fun h => h2 h.1)]
  · rfl
theorem foldIns_op {i : Ins} {l : V4} (h : i.op ≤ 255) : (foldIns i l).op ≤ 255 := by
  unfold foldIns
  split
  · split
    · show (1 : Nat) ≤ 255; omega
    · split
      · split
        · show (10 : Nat) ≤ 255; omega
        · show (0 : Nat) ≤ 255; omega
      · exact h
  · exact h
/-- What is known stands in it. -/
structure FoldA (code : List Ins) (v : List V4) (o1 : List Ins) : Prop where
  len : o1.length = code.length
  come : ∀ i x,code[i]? = some x → Come (succs code) i → o1[i]? = some (foldIns x (rowF v i))
  away : ∀ i x,code[i]? = some x → ¬ Come (succs code) i → o1[i]? = some x
theorem FoldA.unique {code a b : List Ins} {v : List V4} (ha : FoldA code v a) (hb : FoldA code v b) : a = b := by
  apply List.ext_getElem?
  intro i
  by_cases hi : i < code.length
  · have hc : code[i]? = some code[i] := List.getElem?_eq_getElem hi
    rcases Classical.em (Come (succs code) i) with h | h
    · rw [ha.come i _ hc h,hb.come i _ hc h]
    · rw [ha.away i _ hc h,hb.away i _ hc h]
  · rw [List.getElem?_eq_none (by rw [ha.len]; omega),List.getElem?_eq_none (by rw [hb.len]; omega)]
def idleIns (x : Ins) (s : Nat) : Ins := if x.op ≤ 6 ∧ hasB s x.a = false then nopI else x
/-- What is not read is gone. -/
structure FoldB (o1 : List Ins) (b : List Nat) (out : List Ins) : Prop where
  len : out.length = o1.length
  each : ∀ i x,o1[i]? = some x → out[i]? = some (idleIns x (gN b i))
theorem FoldB.unique {o1 a b : List Ins} {s : List Nat} (ha : FoldB o1 s a) (hb : FoldB o1 s b) : a = b := by
  apply List.ext_getElem?
  intro i
  by_cases hi : i < o1.length
  · have hc : o1[i]? = some o1[i] := List.getElem?_eq_getElem hi
    rw [ha.each i _ hc,hb.each i _ hc]
  · rw [List.getElem?_eq_none (by rw [ha.len]; omega),List.getElem?_eq_none (by rw [hb.len]; omega)]
def Folded (code out : List Ins) : Prop := ∃ v o1 b,Least code v ∧ FoldA code v o1 ∧ Behinds o1 b ∧ FoldB o1 b out
theorem Folded.unique {code x y : List Ins} (hx : Folded code x) (hy : Folded code y) : y = x := by
  obtain ⟨v,o,b,h1,h2,h3,h4⟩ := hx
  obtain ⟨v',o',b',k1,k2,k3,k4⟩ := hy
  obtain rfl := h1.unique k1
  obtain rfl := h2.unique k2
  obtain rfl := h3.unique k3
  exact (h4.unique k4).symm
theorem Folded.len {code out : List Ins} (h : Folded code out) : out.length = code.length := by
  obtain ⟨v,o,b,h1,h2,h3,h4⟩ := h
  rw [h4.len,h2.len]
/-- Each one: as it stood,known,or nothing. -/
theorem Folded.at {code out : List Ins} (h : Folded code out) {i : Nat} {x : Ins} (hx : code[i]? = some x) : ∃ y l s,(y = x ∨ y = foldIns x l) ∧ out[i]? = some (idleIns y s) := by
  obtain ⟨v,o,b,h1,h2,h3,h4⟩ := h
  rcases Classical.em (Come (succs code) i) with hc | hc
  · exact ⟨_,_,_,.inr rfl,h4.each i _ (h2.come i x hx hc)⟩
  · exact ⟨x,rowF v i,_,.inl rfl,h4.each i _ (h2.away i x hx hc)⟩
theorem Folded.op {code out : List Ins} (h : Folded code out) (ho : ∀ c ∈ code,c.op ≤ 255) : ∀ c ∈ out,c.op ≤ 255 := by
  intro c hc
  obtain ⟨i,hi⟩ := List.mem_iff_getElem?.1 hc
  have hlt := (List.getElem?_eq_some_iff.1 hi).1
  rw [h.len] at hlt
  have hx : code[i]? = some code[i] := List.getElem?_eq_getElem hlt
  have hxo := ho _ (List.getElem_mem hlt)
  obtain ⟨y,l,s,hy,he⟩ := h.at hx
  rw [hi] at he
  have hyo : y.op ≤ 255 := by
    rcases hy with rfl | rfl
    · exact hxo
    · exact foldIns_op hxo
  injection he with he
  rw [he]
  unfold idleIns
  split
  · show (0 : Nat) ≤ 255; omega
  · exact hyo
/-- What touches variables,or others,stays. -/
theorem Folded.keeps {code out : List Ins} (h : Folded code out) {i : Nat} {x : Ins} (hx : code[i]? = some x) (h6 : 6 < x.op) (h11 : x.op ≠ 11) : out[i]? = some x := by
  obtain ⟨y,l,s,hy,he⟩ := h.at hx
  have e : y = x := by
    rcases hy with rfl | rfl
    · rfl
    · exact foldIns_else (by omega) h11
  rw [he,e]
  unfold idleIns
  rw [if_neg (by omega)]
def FoldedL (code out : List Ins) (fm : List Int) : Prop := if 60 < code.length then out = [] ∧ fm = [] else Folded code out ∧ fm = ownL code.length
theorem FoldedL.unique {code o1 o2 : List Ins} {f1 f2 : List Int} (h : FoldedL code o1 f1) (k : FoldedL code o2 f2) : o2 = o1 ∧ f2 = f1 := by
  unfold FoldedL at h k
  split at h
  · rw [if_pos (by assumption)] at k; rw [h.1,h.2,k.1,k.2]; exact ⟨rfl,rfl⟩
  · rw [if_neg (by assumption)] at k; rw [h.2,k.2]; exact ⟨h.1.unique k.1,rfl⟩
theorem FoldedL.short {code out : List Ins} {f : List Int} (h : FoldedL code out f) : out.length < lim ∧ f.length < lim := by
  unfold FoldedL at h
  split at h
  · rw [h.1,h.2]; decide
  · rw [h.1.len,h.2,ownL_len]; unfold lim; omega
end Pm

/- What is known is not reckoned: two examples,without the program.
   No condition: plain lemmas. -/

namespace Pm
set_option linter.unusedSimpArgs false
set_option linter.unusedVariables false
open Go Am

theorem come_next {code : List Ins} {i j : Nat} {c : Ins} (h : Come (succs code) i) (hc : code[i]? = some c) (hj : (j : Int) ∈ nextsOf i c) (hl : j < code.length) : Come (succs code) j :=
  .step h (l := nextsOf i c) (by rw [qGp,hc]; rfl) hj (by rw [qDc]; exact hl)
def c16 : List Ins := [⟨1,0,3,0⟩,⟨3,1,0,0⟩,⟨9,1,0,0⟩]
def d16 : List Ins := [⟨1,0,3,0⟩,⟨1,1,6,0⟩,⟨9,1,0,0⟩]
theorem lv16_2 {r : Nat} : Lv d16 r 2 ↔ r = 1 := by
  rw [Lv.step (c := ⟨9,1,0,0⟩) rfl]
  constructor
  · rintro (h | ⟨_,j,hj,h⟩)
    · change (2 ^ 1 : Nat).testBit r = true at h
      rw [Nat.testBit_two_pow] at h
      have := of_decide_eq_true h
      omega
    · have hlt := h.lt
      change j < 3 at hlt
      rw [show nextsOf 2 ⟨9,1,0,0⟩ = [3] from rfl,List.mem_singleton] at hj
      omega
  · rintro rfl; exact .inl rfl
theorem lv16_1 : ¬ Lv d16 0 1 := by
  rw [Lv.step (c := ⟨1,1,6,0⟩) rfl]
  rintro (h | ⟨_,j,hj,h⟩)
  · cases h
  · rw [show nextsOf 1 ⟨1,1,6,0⟩ = [2] from rfl,List.mem_singleton] at hj
    obtain rfl : j = 2 := by omega
    exact absurd (lv16_2.1 h) (by decide)
theorem out16 {out : List Ins} (h : Folded c16 out) : out = [nopI,⟨1,1,6,0⟩,⟨9,1,0,0⟩] := by
  obtain ⟨v,o,b,k1,k2,k3,k4⟩ := h
  have hs : ∀ c ∈ c16,c.op ≠ 10 ∧ c.op ≠ 11 := by decide
  obtain rfl := k1.unique (straight_least hs)
  have m0 : Come (succs c16) 0 := .start (by decide)
  have m1 : Come (succs c16) 1 := come_next m0 (c := ⟨1,0,3,0⟩) rfl (by decide) (by decide)
  have m2 : Come (succs c16) 2 := come_next m1 (c := ⟨3,1,0,0⟩) rfl (by decide) (by decide)
  obtain rfl : o = d16 := by
    apply List.ext_getElem?
    intro i
    have hi : i = 0 ∨ i = 1 ∨ i = 2 ∨ 3 ≤ i := by omega
    rcases hi with rfl | rfl | rfl | hi
    · rw [k2.come 0 ⟨1,0,3,0⟩ rfl m0]; rfl
    · rw [k2.come 1 ⟨3,1,0,0⟩ rfl m1]; rfl
    · rw [k2.come 2 ⟨9,1,0,0⟩ rfl m2]; rfl
    · rw [List.getElem?_eq_none (by rw [k2.len]; exact hi),List.getElem?_eq_none (by exact hi)]
  have b0 : (gN b 0).testBit 0 = false := by
    cases hb : (gN b 0).testBit 0 with
    | false => rfl
    | true =>
      obtain ⟨_,j,hj,h⟩ := (k3.bit 0 0).1 hb
      rw [show nexts (succs d16) 0 = [1] from rfl,List.mem_singleton] at hj
      obtain rfl : j = 1 := by omega
      exact absurd h lv16_1
  have b1 : (gN b 1).testBit 1 = true := (k3.bit 1 1).2 ⟨by decide,2,by decide,lv16_2.2 rfl⟩
  apply List.ext_getElem?
  intro i
  have hi : i = 0 ∨ i = 1 ∨ i = 2 ∨ 3 ≤ i := by omega
  rcases hi with rfl | rfl | rfl | hi
  · rw [k4.each 0 ⟨1,0,3,0⟩ rfl]
    unfold idleIns
    rw [if_pos ⟨by decide,by show hasB (gN b 0) ((0 : Nat) : Int) = false; rw [hasB_nat (by decide),b0]⟩]; rfl
  · rw [k4.each 1 ⟨1,1,6,0⟩ rfl]
    unfold idleIns
    rw [if_neg (fun h => by
      have h2 := h.2
      change hasB (gN b 1) ((1 : Nat) : Int) = false at h2
      rw [hasB_nat (by decide),b1] at h2; cases h2)]; rfl
  · rw [k4.each 2 ⟨9,1,0,0⟩ rfl]; rfl
  · rw [List.getElem?_eq_none (by rw [k4.len]; exact hi),List.getElem?_eq_none (by exact hi)]
end Pm

/- What is known is not reckoned: the small functions,walked.
   No condition: plain lemmas. -/

namespace Pm
set_option linter.unusedSimpArgs false
set_option linter.unusedVariables false
open Go Am
open Go.Proofs.Try (prog)

section
variable {h : Heap} {K : Value → Heap → Prop}
theorem fReck_call {op : Nat} (hk : K (vB (decide (2 ≤ op ∧ op ≤ 6))) h) : PCall prog 93 [v8 op] h K := by
  refine Pure.go (Pure.one (p := vB (decide (2 ≤ op ∧ op ≤ 6))) rfl fun h => ?_) hk
  refine call_fReck (by simp) ?_
  by_cases h2 : op = 2
  · subst h2; simp [qAk,qAn,qAl,qAi,qAg,qAe,qAb,qAd,qAa,qAj,qAf,qAc,BodyK,resVs,resV,retV,qAm,qAh,qAr,qAq,qAp,qAo,c_fReck]; try rfl
  · by_cases h3 : op = 3
    · subst h3; simp [qAk,qAn,qAl,qAi,qAg,qAe,qAb,qAd,qAa,qAj,qAf,qAc,BodyK,resVs,resV,retV,qAm,qAh,qAr,qAq,qAp,qAo,c_fReck]; try rfl
    · by_cases h4 : op = 4
      · subst h4; simp [qAk,qAn,qAl,qAi,qAg,qAe,qAb,qAd,qAa,qAj,qAf,qAc,BodyK,resVs,resV,retV,qAm,qAh,qAr,qAq,qAp,qAo,c_fReck]; try rfl
      · by_cases h5 : op = 5
        · subst h5; simp [qAk,qAn,qAl,qAi,qAg,qAe,qAb,qAd,qAa,qAj,qAf,qAc,BodyK,resVs,resV,retV,qAm,qAh,qAr,qAq,qAp,qAo,c_fReck]; try rfl
        · by_cases h6 : op = 6
          · subst h6; simp [qAk,qAn,qAl,qAi,qAg,qAe,qAb,qAd,qAa,qAj,qAf,qAc,BodyK,resVs,resV,retV,qAm,qAh,qAr,qAq,qAp,qAo,c_fReck]; try rfl
          · have e : decide (2 ≤ op ∧ op ≤ 6) = false := by simp; omega
            have n2 : ¬ (op : Int) = 2 := by omega
            have n3 : ¬ (op : Int) = 3 := by omega
            have n4 : ¬ (op : Int) = 4 := by omega
            have n5 : ¬ (op : Int) = 5 := by omega
            have n6 : ¬ (op : Int) = 6 := by omega
            rw [e]
            simp [qAk,qAn,qAl,qAi,qAg,qAe,qAb,qAd,qAa,qAj,qAf,qAc,BodyK,resVs,resV,retV,qAm,qAh,qAr,qAq,qAp,qAo,c_fReck,n2,n3,n4,n5,n6]
theorem fIdle_call {op : Nat} (hk : K (vB (decide (op ≤ 6))) h) : PCall prog 83 [v8 op] h K := by
  refine Pure.go (Pure.one (p := vB (decide (op ≤ 6))) rfl fun h => ?_) hk
  refine call_fIdle (by simp) ?_
  by_cases h0 : op = 0
  · subst h0; simp [qAk,qAn,qAl,qAi,qAg,qAe,qAb,qAd,qAa,qAj,qAf,qAc,BodyK,resVs,resV,retV,qAm,qAh,qAr,qAq,qAp,qAo,c_fIdle]; try rfl
  · by_cases h1 : op = 1
    · subst h1; simp [qAk,qAn,qAl,qAi,qAg,qAe,qAb,qAd,qAa,qAj,qAf,qAc,BodyK,resVs,resV,retV,qAm,qAh,qAr,qAq,qAp,qAo,c_fIdle]; try rfl
    · have n0 : ¬ (op : Int) = 0 := by omega
      have n1 : ¬ (op : Int) = 1 := by omega
      have e : decide (op ≤ 6) = decide (2 ≤ op ∧ op ≤ 6) := by congr 1; apply propext; omega
      rw [e]
      simp [qAk,qAn,qAl,qAi,qAg,qAe,qAb,qAd,qAa,qAj,qAf,qAc,BodyK,resVs,resV,retV,qAm,qAh,qAr,qAq,qAp,qAo,c_fIdle,n0,n1,h0,h1]
      refine fReck_call ?_
      simp [qAk,qAn,qAl,qAi,qAg,qAe,qAb,qAd,qAa,qAj,qAf,qAc,BodyK,resVs,resV,retV,qAm,qAh,qAr,qAq,qAp,qAo,callK_def]
theorem fFold_call {i : Ins} {l : V4} (ho : i.op ≤ 255) (hk : K (.agg (vIns (foldIns i l)).toArray) h) : PCall prog 82 [.agg (vIns i).toArray,vK l] h K := by
  refine Pure.go (Pure.agg (cs := vIns (foldIns i l)) rfl fun h => ?_) hk
  refine call_fFold (by simp) ?_
  obtain ⟨op,a,b,c⟩ := i
  obtain ⟨w,hw⟩ : ∃ w,w = doV ⟨op,a,b,c⟩ l := ⟨_,rfl⟩
  by_cases h0 : a < 0
  · have e : foldIns ⟨op,a,b,c⟩ l = ⟨op,a,b,c⟩ := by unfold foldIns; rw [if_neg (by simp only []; omega)]
    rw [e]
    simp [qAk,qAn,qAl,qAi,qAg,qAe,qAb,qAd,qAa,qAj,qAf,qAc,BodyK,resVs,resV,retV,qAm,qAh,qAr,qAq,qAp,qAo,c_fFold,vIns,vK,h0]
  · by_cases h4 : 4 ≤ a
    · have e : foldIns ⟨op,a,b,c⟩ l = ⟨op,a,b,c⟩ := by unfold foldIns; rw [if_neg (by simp only []; omega)]
      rw [e]
      simp [qAk,qAn,qAl,qAi,qAg,qAe,qAb,qAd,qAa,qAj,qAf,qAc,BodyK,resVs,resV,retV,qAm,qAh,qAr,qAq,qAp,qAo,c_fFold,vIns,vK,h0,h4]
    · have hk2 : (2 ≤ op ∧ op ≤ 6) ∧ (w.at a).kind = 1 ∨ ¬ ((2 ≤ op ∧ op ≤ 6) ∧ (w.at a).kind = 1) := Classical.em _
      have hk3 : op = 11 ∨ ¬ op = 11 := Classical.em _
      have hk4 : (l.at a).kind = 1 ∨ ¬ (l.at a).kind = 1 := Classical.em _
      have hk5 : (l.at a).n = 0 ∨ ¬ (l.at a).n = 0 := Classical.em _
      have e : foldIns ⟨op,a,b,c⟩ l = if (2 ≤ op ∧ op ≤ 6) ∧ (w.at a).kind = 1 then ⟨1,a,(w.at a).n,0⟩ else if op = 11 ∧ (l.at a).kind = 1 then (if (l.at a).n = 0 then ⟨10,b,0,0⟩ else nopI) else ⟨op,a,b,c⟩ := by
        unfold foldIns; rw [if_pos (by simp only []; omega),hw]
      rw [e]
      have ha : 0 ≤ a := by omega
      have ha4 : a < 4 := by omega
      clear e h0 h4
      rcases at_cases ha ha4 with rfl | rfl | rfl | rfl
      all_goals
        simp only [V4.at,Int.reduceEq,if_true,if_false] at hk2 hk4 hk5 ⊢
        simp [-qAv,qAk,qAn,qAl,qAi,qAg,qAe,qAb,qAd,qAa,qAj,qAf,qAc,BodyK,resVs,resV,retV,qAm,qAh,qAr,qAq,qAp,qAo,c_fFold,vIns,vK]
        rw [qAv]
        simp [-qAv,qAk,qAn,qAl,qAi,qAg,qAe,qAb,qAd,qAa,qAj,qAf,qAc,BodyK,resVs,resV,retV,qAm,qAh,qAr,qAq,qAp,qAo]
        rw [qAv]
        simp [-qAv,qAk,qAn,qAl,qAi,qAg,qAe,qAb,qAd,qAa,qAj,qAf,qAc,BodyK,resVs,resV,retV,qAm,qAh,qAr,qAq,qAp,qAo]
        refine qDy ?_ (PCallS.lock (vDo_call (i := ⟨op,_,b,c⟩) ho ⟨rfl,?_⟩))
        · simp [qAk,qAn,qAl,qAi,qAg,qAe,qAb,qAd,qAa,qAj,qAf,qAc,BodyK,resVs,resV,retV,qAm,qAh,qAr,qAq,qAp,qAo]
        rw [← hw]
        simp [-qAv,qAk,qAn,qAl,qAi,qAg,qAe,qAb,qAd,qAa,qAj,qAf,qAc,BodyK,resVs,resV,retV,qAm,qAh,qAr,qAq,qAp,qAo,vK]
        refine fReck_call ?_
        cases hrk : decide (2 ≤ op ∧ op ≤ 6) with
        | true =>
          have hrk2 := of_decide_eq_true hrk
          have n11 : ¬ (op : Int) = 11 := by omega
          have n11' : ¬ op = 11 := by omega
          rcases hk2 with ⟨_,k2⟩ | k2
          · have k2' := k2
            simp [qAk,qAn,qAl,qAi,qAg,qAe,qAb,qAd,qAa,qAj,qAf,qAc,BodyK,resVs,resV,retV,qAm,qAh,qAr,qAq,qAp,qAo,callK_def,k2,hrk2]
          · have k3 := not_and.1 k2 hrk2
            simp [qAk,qAn,qAl,qAi,qAg,qAe,qAb,qAd,qAa,qAj,qAf,qAc,BodyK,resVs,resV,retV,qAm,qAh,qAr,qAq,qAp,qAo,callK_def,k3,hrk2,n11,n11']
        | false =>
          have hrk2 := of_decide_eq_false hrk
          rcases hk3 with k3 | k3
          · have k3' : (op : Int) = 11 := by omega
            rcases hk4 with k4 | k4
            · rcases hk5 with k5 | k5
              · simp [qAk,qAn,qAl,qAi,qAg,qAe,qAb,qAd,qAa,qAj,qAf,qAc,BodyK,resVs,resV,retV,qAm,qAh,qAr,qAq,qAp,qAo,callK_def,hrk2,k3,k3',k4,k5]
              · simp [qAk,qAn,qAl,qAi,qAg,qAe,qAb,qAd,qAa,qAj,qAf,qAc,BodyK,resVs,resV,retV,qAm,qAh,qAr,qAq,qAp,qAo,callK_def,hrk2,k3,k3',k4,k5,nopI]
            · simp [qAk,qAn,qAl,qAi,qAg,qAe,qAb,qAd,qAa,qAj,qAf,qAc,BodyK,resVs,resV,retV,qAm,qAh,qAr,qAq,qAp,qAo,callK_def,hrk2,k3,k3',k4]
          · have k3' : ¬ (op : Int) = 11 := by omega
            simp [qAk,qAn,qAl,qAi,qAg,qAe,qAb,qAd,qAa,qAj,qAf,qAc,BodyK,resVs,resV,retV,qAm,qAh,qAr,qAq,qAp,qAo,callK_def,hrk2,k3,k3']
end
end Pm

/- What is known is not reckoned: the code,walked.
   No condition: plain lemmas. -/

namespace Pm
set_option linter.unusedSimpArgs false
set_option linter.unusedVariables false
open Go Am
open Go.Proofs.Try (prog)

section
variable {P : Program} {K : Fr → Heap → Prop} {is : List AIns} {d : Option Nat} {fr : Fr} {H0 H : Heap} {b : Nat} {lit : Value} {rs : List Ob}
/-- One more int in a list that stands in a box. -/
theorem box_pushU {m j : Nat} {Z : List Value} {v : Value} {l : List Int} {x : Int} (hr : RowV H b 0 m Z) (hm : m ≠ 1) (ha : AccL vI (b + 1) H v l) (hj : j < Z.length) (hp : pElems (H ++ rs) 1 lit = some (1,[vI x])) (hl : l.length + 1 ≤ lim) (hU : U1 (H ++ rs))
    (hk : ∀ v1 H1 H2,storeV H1 1 (.pointer (some ⟨b,j,some 0⟩)) v1 = some H2 → RowV H2 b 0 m (Z.set j v1) → AccL vI (b + 1) H2 v1 (l ++ [x]) → (∀ j o,rs[j]? = some o → H2[H.length + j]? = some o) → H.length + rs.length ≤ H2.length → Keeps b H H2 → U1 H2 → pOps P K is (updO fr d v1) H1) :
    eK P K is d [] fr H0 (pApp (H ++ rs) 1 v lit) := by
  have hb := hr.lt
  obtain ⟨v1,H1,p1,a1,a2,a3,a4⟩ := Acc.app (AccL.ext ha Keeps.app : AccL vI (b + 1) (H ++ rs) v l) (by simp; omega) (.refl _ _) hp rfl hl
  have a1 : AccL vI (b + 1) H1 v1 (l ++ [x]) := by simpa [AccL] using a1
  rw [p1,eK_some]
  refine ⟨trivial,?_⟩
  have hgl : ∀ i,rid v = some i → i < H.length := fun i hi => ha.lt hi
  have hr1 : RowV H1 b 0 m Z := hr.keep (by rw [a2.2 _ (by omega),List.getElem?_append_left hb])
  have hH1 : H.length + rs.length ≤ H1.length := by have := a2.1; simpa using this
  obtain ⟨H2,t1,t2,t3⟩ := hr1.set hj a1.cell
  have u1 : U1 H1 := hU.push hp (fun _ c hc => ⟨x,List.mem_singleton.1 hc⟩) p1
  have u2 : U1 H2 := u1.same t3 fun r h1 h2 h3 => by
    have e : H2[b]? = some (.row ⟨Z.set j v1,m,0,true⟩) := t2
    rw [e] at h1; cases h1; exact absurd h3 hm
  refine hk v1 H1 H2 t1 t2 (a1.keep fun i hi => t3.1 i (fun e => by have := a1.low i hi; omega)) (fun j o ho => ?_) (by rw [t3.2]; exact hH1) ⟨by rw [t3.2]; omega,fun i hi => ?_⟩ u2
  · have hj := (List.getElem?_eq_some_iff.1 ho).1
    rw [t3.1 _ (by omega),a3 _ (by simp; omega) (fun e => by have := hgl _ e; omega),List.getElem?_append_right (by omega),Nat.add_sub_cancel_left,ho]
  · rw [t3.1 i (by omega),a2.2 i (by omega),List.getElem?_append_left (by omega)]
end
/-- What is known stands in it,so far. -/
structure FC (h : Heap) (code : List Ins) (v : List V4) (cs : Value) (k : Nat) (fv : Value) (out : List Ins) (H : Heap) : Prop where
  row : RowV H (h.length + 2) 0 2 [cs,fv]
  cod : RowM 4 vIns H (h.length + 1) 1 4 out
  frm : AccL vI (h.length + 2 + 1) H fv (ownL k)
  res : RowV H h.length 0 2 [nilS,nilS]
  kp : Keeps h.length h H
  u1 : U1 H
  no : k = 0 → NoU H
  len : out.length = code.length
  tail : ∀ i,k ≤ i → out[i]? = code[i]?
  come : ∀ i x,i < k → code[i]? = some x → Come (succs code) i → out[i]? = some (foldIns x (rowF v i))
  away : ∀ i x,i < k → code[i]? = some x → ¬ Come (succs code) i → out[i]? = some x
theorem FC.op {h : Heap} {code out : List Ins} {v : List V4} {cs fv : Value} {k : Nat} {H : Heap} (f : FC h code v cs k fv out H) (ho : ∀ i ∈ code,i.op ≤ 255) : ∀ i ∈ out,i.op ≤ 255 := by
  intro c hc
  obtain ⟨i,hi⟩ := List.mem_iff_getElem?.1 hc
  have hlt := (List.getElem?_eq_some_iff.1 hi).1
  rw [f.len] at hlt
  have hx : code[i]? = some code[i] := List.getElem?_eq_getElem hlt
  have hxo := ho _ (List.getElem_mem hlt)
  by_cases hk : i < k
  · rcases Classical.em (Come (succs code) i) with hm | hm
    · rw [f.come i _ hk hx hm] at hi; cases hi; exact foldIns_op hxo
    · rw [f.away i _ hk hx hm] at hi; cases hi; exact hxo
  · rw [f.tail i (by omega),hx] at hi; cases hi; exact hxo
/-- What is not read is gone,so far. -/
structure FD (h : Heap) (code o1 : List Ins) (b : List Nat) (cs fv : Value) (k : Nat) (out : List Ins) (H : Heap) : Prop where
  row : RowV H (h.length + 2) 0 2 [cs,fv]
  cod : RowM 4 vIns H (h.length + 1) 1 4 out
  frm : AccL vI (h.length + 2 + 1) H fv (ownL code.length)
  res : RowV H h.length 0 2 [nilS,nilS]
  kp : Keeps h.length h H
  len : out.length = o1.length
  tail : ∀ i,k ≤ i → out[i]? = o1[i]?
  done : ∀ i x,i < k → o1[i]? = some x → out[i]? = some (idleIns x (gN b i))
section
variable {h : Heap} {K : Value → Heap → Prop}
set_option maxHeartbeats 4000000 in
theorem fCode_call {code : List Ins} (hh : NoU h) (ho : ∀ i ∈ code,i.op ≤ 255) (hl : code.length ≤ lim) (hk : ∀ out fm,FoldedL code out fm → K (vEdit out fm) h) : PCall prog 59 [vM 4 vIns code] h K := by
  refine PCall.forget ?_
  refine call_fCode (by simp) ?_
  have hlim : lim = 1048576 := rfl
  by_cases h60 : 60 < code.length
  · have h60' : (60 : Int) < code.length := by omega
    simp [qAk,qAn,qAl,qAi,qAg,qAe,qAb,qAd,qAa,qAj,qAf,qAc,BodyK,resVs,resV,retV,qAm,qAh,qAr,qAq,qAp,qAo,c_fCode,h60']
    exact ⟨_,Inls.agg (xs := [_,_]) (ys := [_,_]) ⟨.nil,.nil,trivial⟩,hk [] [] (by unfold FoldedL; rw [if_pos h60]; exact ⟨rfl,rfl⟩)⟩
  · have h60' : ¬ (60 : Int) < code.length := by omega
    simp [-qAv,qAk,qAn,qAl,qAi,qAg,qAe,qAb,qAd,qAa,qAj,qAf,qAc,BodyK,resVs,resV,retV,qAm,qAh,qAr,qAq,qAp,qAo,c_fCode]
    rw [qAv]
    simp [-qAv,qAk,qAn,qAl,qAi,qAg,qAe,qAb,qAd,qAa,qAj,qAf,qAc,BodyK,resVs,resV,retV,qAm,qAh,qAr,qAq,qAp,qAo,h60']
    refine Clone4_call hl (fun e => ?_) ?_
    · subst e
      simp [-qAv,qAk,qAn,qAl,qAi,qAg,qAe,qAb,qAd,qAa,qAj,qAf,qAc,BodyK,resVs,resV,retV,qAm,qAh,qAr,qAq,qAp,qAo,callK_def]
      refine vOf_call (code := []) (by simp) (by simp) fun v hv => ?_
      simp [-qAv,qAk,qAn,qAl,qAi,qAg,qAe,qAb,qAd,qAa,qAj,qAf,qAc,BodyK,resVs,resV,retV,qAm,qAh,qAr,qAq,qAp,qAo,callK_def]
      refine Succs_call (by simp [lim]) ?_
      simp [-qAv,qAk,qAn,qAl,qAi,qAg,qAe,qAb,qAd,qAa,qAj,qAf,qAc,BodyK,resVs,resV,retV,qAm,qAh,qAr,qAq,qAp,qAo,callK_def]
      refine Reach_call (s := succs []) (by simp [succs,lim]) fun seen hs1 hs2 => ?_
      simp [-qAv,qAk,qAn,qAl,qAi,qAg,qAe,qAb,qAd,qAa,qAj,qAf,qAc,BodyK,resVs,resV,retV,qAm,qAh,qAr,qAq,qAp,qAo,callK_def]
      rw [qAv]
      simp [-qAv,qAk,qAn,qAl,qAi,qAg,qAe,qAb,qAd,qAa,qAj,qAf,qAc,BodyK,resVs,resV,retV,qAm,qAh,qAr,qAq,qAp,qAo]
      refine loop_n 1 ?_
      rw [qDi]
      simp [qAk,qAn,qAl,qAi,qAg,qAe,qAb,qAd,qAa,qAj,qAf,qAc,BodyK,resVs,resV,retV,qAm,qAh,qAr,qAq,qAp,qAo]
      have hno : NoU (h ++ [bx [.slice none 0 0,.slice none 0 0] 2,bx [.slice none 0 0,.slice none 0 0] 2]) := hh.app fun r hr _ => by
        simp [bx] at hr; rw [hr]; simp
      refine qDy (by simp) (lBehind_lend (l := []) hno.u1 (.inr hno) .nil (by simp) (by simp) fun b hb => ?_)
      have hb0 : b = [] := List.eq_nil_of_length_eq_zero hb.len
      subst hb0
      simp [-qAv,qAk,qAn,qAl,qAi,qAg,qAe,qAb,qAd,qAa,qAj,qAf,qAc,BodyK,resVs,resV,retV,qAm,qAh,qAr,qAq,qAp,qAo]
      refine loop_n 1 ?_
      rw [qDi]
      simp [qAk,qAn,qAl,qAi,qAg,qAe,qAb,qAd,qAa,qAj,qAf,qAc,BodyK,resVs,resV,retV,qAm,qAh,qAr,qAq,qAp,qAo]
      refine ⟨_,Inls.agg (xs := [_,_]) (ys := [_,_]) ⟨.nil,.nil,trivial⟩,hk [] [] ?_⟩
      unfold FoldedL
      rw [if_neg (by simp)]
      exact ⟨⟨v,[],[],hv,⟨rfl,fun i x hx => by simp at hx,fun i x hx => by simp at hx⟩,hb,⟨rfl,fun i x hx => by simp at hx⟩⟩,rfl⟩
    · obtain ⟨cs,hcs⟩ : ∃ cs : Value,cs = .slice (some ⟨h.length + 1,0,none⟩) code.length 1 := ⟨_,rfl⟩
      simp [-qAv,qAk,qAn,qAl,qAi,qAg,qAe,qAb,qAd,qAa,qAj,qAf,qAc,BodyK,resVs,resV,retV,qAm,qAh,qAr,qAq,qAp,qAo,callK_def]
      refine vOf_call (by omega) ho fun v hv => ?_
      have hvl := hv.len
      simp [-qAv,qAk,qAn,qAl,qAi,qAg,qAe,qAb,qAd,qAa,qAj,qAf,qAc,BodyK,resVs,resV,retV,qAm,qAh,qAr,qAq,qAp,qAo,callK_def]
      refine Succs_call (by omega) ?_
      simp [-qAv,qAk,qAn,qAl,qAi,qAg,qAe,qAb,qAd,qAa,qAj,qAf,qAc,BodyK,resVs,resV,retV,qAm,qAh,qAr,qAq,qAp,qAo,callK_def]
      refine Reach_call (s := succs code) (by have := sum_succs code; rw [qDc]; omega) fun seen hs1 hs2 => ?_
      rw [qDc] at hs1
      simp [-qAv,qAk,qAn,qAl,qAi,qAg,qAe,qAb,qAd,qAa,qAj,qAf,qAc,BodyK,resVs,resV,retV,qAm,qAh,qAr,qAq,qAp,qAo,callK_def]
      rw [qAv]
      simp [-qAv,qAk,qAn,qAl,qAi,qAg,qAe,qAb,qAd,qAa,qAj,qAf,qAc,BodyK,resVs,resV,retV,qAm,qAh,qAr,qAq,qAp,qAo]
      refine qEk (σ := Nat × Value × List Ins × Heap) (fun x => [(2,ptr h.length),(3,ptr (h.length + 2)),(4,vM 8 c4 v),(5,vL vB seen),(23,vM 4 vIns code),(24,vI code.length),(25,vI x.1)]) (fun x => x.2.2.2)
        (fun x => x.1 ≤ code.length ∧ FC h code v cs x.1 x.2.1 x.2.2.1 x.2.2.2) (fun x => code.length - x.1)
        (0,nilS,code,h ++ [bx [nilS,nilS] 2,Ob.row ⟨code.flatMap vIns,4,1,true⟩,bx [cs,nilS] 2]) (by simp) (by rw [hcs]) ⟨by simp,⟨by simp [RowV,bx],by simp [RowM],.nil,by simp [RowV,bx],Keeps.app,hh.u1.app (fun r hr _ h1 => by simp [bx] at hr; rcases hr with rfl | rfl | rfl <;> simp at h1),fun _ => hh.app (fun r hr _ => by simp [bx] at hr; rcases hr with rfl | rfl | rfl <;> simp),rfl,fun _ _ => rfl,fun i c hi => by omega,fun i c hi => by omega⟩⟩ ?_
      rintro ⟨k,fv,out,H⟩ fr ⟨hk0,w⟩
      simp only at hk0 w ⊢
      by_cases hlt : k < code.length
      · obtain ⟨k1,hk1,wk⟩ := qCr (show k < lim by omega)
        obtain ⟨c,hc⟩ : ∃ c,code[k]? = some c := ⟨_,List.getElem?_eq_getElem hlt⟩
        have hkf : (k : Int) < code.length := by omega
        have hco := ho c (List.mem_of_getElem? hc)
        obtain ⟨sk,hsk⟩ : ∃ sk,seen[k]? = some sk := ⟨_,List.getElem?_eq_getElem (by omega)⟩
        obtain ⟨l,hlk⟩ : ∃ l,v[k]? = some l := ⟨_,List.getElem?_eq_getElem (by omega)⟩
        have hrf : rowF v k = l := by unfold rowF; rw [hlk]; rfl
        have huh : U1 (H ++ [bx (vIns c) 4,bx [vI (k : Int)] 1]) := w.u1.app fun r hr _ h1 => by
          simp [bx] at hr
          rcases hr with rfl | rfl
          · simp at h1
          · intro d hd; exact ⟨k,by simpa using hd⟩
        simp [qAk,qAn,qAl,qAi,qAg,qAe,qAb,qAd,qAa,qAj,qAf,qAc,BodyK,resVs,resV,retV,qAm,qAh,qAr,qAq,qAp,qAo,hkf,hc,w.row.cellA,-qAs,qAw,qAu,qAt,qCy]
        refine box_pushU (j := 1) w.row (by decide) w.frm (by simp) (pElems_lit (m := 1) (cs := [vI (k : Int)]) rfl rfl) (by rw [ownL_len]; omega) huh fun v1 H1 H2 t1 r2 a2 t2 t3 t4 u2 => ?_
        have hR : RowV H2 H.length 0 4 (vIns c) := t2 0 _ rfl
        have hRc : H2.cells? H.length 0 0 4 = some (vIns c) := hR.cells rfl
        have hst : ([cs,fv] : List Value).set 1 v1 = [cs,v1] := rfl
        rw [hst] at r2
        have ecs : H2.cell? (h.length + 2) 0 0 = some cs := by rw [r2.cell]; rfl
        have cod2 : RowM 4 vIns H2 (h.length + 1) 1 4 out := w.cod.keep (t4.2 _ (by omega))
        have res2 : RowV H2 h.length 0 2 [nilS,nilS] := w.res.keep (t4.2 _ (by omega))
        have kp2 : Keeps h.length h H2 := w.kp.trans ⟨t4.1,fun i hi => t4.2 i (by omega)⟩
        have own1 : ownL k1 = ownL k ++ [(k : Int)] := by rw [hk1,ownL_succ]
        rw [← own1] at a2
        cases sk with
        | true =>
          have hcome : Come (succs code) k := (hs2 k).1 hsk
          obtain ⟨H3,s1,s2,s3⟩ := cod2.store (r := k) (by rw [w.len]; exact hlt) (x := foldIns c l) rfl
          have sc : FC h code v cs k1 v1 (out.set k (foldIns c l)) H3 := by
            refine ⟨r2.keep (s3.1 _ (by omega)),s2,a2.keep fun i hi => s3.1 i (fun e => by have := a2.low i hi; omega),res2.keep (s3.1 _ (by omega)),⟨by rw [s3.2]; exact kp2.1,fun i hi => by rw [s3.1 i (by omega)]; exact kp2.2 i hi⟩,u2.same s3 (fun r h1 h2 h3 => by
              have e : H3[h.length + 1]? = some (.row ⟨(out.set k (foldIns c l)).flatMap vIns,4,1,true⟩) := s2
              rw [e] at h1; cases h1; simp at h3),fun e => by omega,by simp [w.len],fun i hi => ?_,fun i d hi hd hg => ?_,fun i d hi hd hg => ?_⟩
            · rw [List.getElem?_set_ne (by omega)]; exact w.tail i (by omega)
            · by_cases e : i = k
              · subst e; rw [hc] at hd; cases hd; rw [List.getElem?_set_self (by rw [w.len]; exact hlt),hrf]
              · rw [List.getElem?_set_ne (fun h => e h.symm)]; exact w.come i d (by omega) hd hg
            · by_cases e : i = k
              · subst e; exact absurd hcome hg
              · rw [List.getElem?_set_ne (fun h => e h.symm)]; exact w.away i d (by omega) hd hg
          have s1' : storeV H2 4 (.pointer (some ⟨h.length + 1,k * 4,some 1⟩)) (.agg (vIns (foldIns c l)).toArray) = some H3 := s1
          simp [qAk,qAn,qAl,qAi,qAg,qAe,qAb,qAd,qAa,qAj,qAf,qAc,BodyK,resVs,resV,retV,qAm,qAh,qAr,qAq,qAp,qAo,t1,hsk,ecs,hRc,hlk,qEb,qDo,qEf,-qAs,qAw,qAu,qAt,qCy]
          refine qDy (by simp [ecs]) (PCallS.lock (fFold_call hco ⟨rfl,?_⟩))
          simp [qAk,qAn,qAl,qAi,qAg,qAe,qAb,qAd,qAa,qAj,qAf,qAc,BodyK,resVs,resV,retV,qAm,qAh,qAr,qAq,qAp,qAo,hcs,hlt,s1',wk,-qAs,qAw,qAu,qAt,qCy]
          exact .go (k1,v1,out.set k (foldIns c l),H3) (by simp only []; omega) (by simp) rfl ⟨by simp only []; omega,by subst hcs; exact sc⟩
        | false =>
          have hng : ¬ Come (succs code) k := fun hy => by rw [← hs2 k,hsk] at hy; cases hy
          have sc : FC h code v cs k1 v1 out H2 := by
            refine ⟨r2,cod2,a2,res2,kp2,u2,fun e => by omega,w.len,fun i hi => w.tail i (by omega),fun i d hi hd hg => ?_,fun i d hi hd hg => ?_⟩
            · by_cases e : i = k
              · subst e; exact absurd hg hng
              · exact w.come i d (by omega) hd hg
            · by_cases e : i = k
              · subst e; rw [w.tail i (Nat.le_refl _),hd]
              · exact w.away i d (by omega) hd hg
          simp [qAk,qAn,qAl,qAi,qAg,qAe,qAb,qAd,qAa,qAj,qAf,qAc,BodyK,resVs,resV,retV,qAm,qAh,qAr,qAq,qAp,qAo,t1,hsk,wk]
          exact .go (k1,v1,out,H2) (by simp only []; omega) (by simp) rfl ⟨by simp only []; omega,sc⟩
      · obtain rfl : k = code.length := by omega
        have hkf : ¬ (code.length : Int) < code.length := by omega
        have hcc : H.cell? (h.length + 2) 0 0 = some cs := by rw [w.row.cell]; rfl
        have hInl : Inl 0 H cs (vM 4 vIns out) := by
          rw [hcs]
          exact AccM.inl (e := 4) (F := vIns) (b := 0) (.inr ⟨_,1,by rw [w.len],Nat.zero_le _,w.cod,qEt (e := 4) (fun _ => rfl) _⟩) fun _ => rfl
        have hz0 : 0 < out.length ∨ NoU H := by
          rcases Nat.eq_zero_or_pos code.length with h0 | h0
          · exact .inr (w.no h0)
          · exact .inl (by rw [w.len]; exact h0)
        simp [qAk,qAn,qAl,qAi,qAg,qAe,qAb,qAd,qAa,qAj,qAf,qAc,BodyK,resVs,resV,retV,qAm,qAh,qAr,qAq,qAp,qAo,hkf,hcc]
        refine qDy (by simp) (lBehind_lend w.u1 hz0 hInl (w.op ho) (by rw [w.len]; omega) fun b hb => ?_)
        have hbl := hb.len
        rw [w.len] at hbl
        simp [-qAv,qAk,qAn,qAl,qAi,qAg,qAe,qAb,qAd,qAa,qAj,qAf,qAc,BodyK,resVs,resV,retV,qAm,qAh,qAr,qAq,qAp,qAo]
        have w1 := w.len
        refine qEk (σ := Nat × List Ins × Heap) (fun x => [(2,ptr h.length),(3,ptr (h.length + 2)),(53,vL vU b),(54,vI b.length),(55,vI x.1)]) (fun x => x.2.2)
          (fun x => x.1 ≤ code.length ∧ FD h code out b cs fv x.1 x.2.1 x.2.2) (fun x => code.length - x.1)
          (0,out,H) (by simp) rfl ⟨by simp,⟨w.row,w.cod,w.frm,w.res,w.kp,rfl,fun _ _ => rfl,fun i x hi => by omega⟩⟩ ?_
        rintro ⟨k,o2,H2⟩ fr ⟨hk0,z⟩
        simp only at hk0 z ⊢
        have zl := z.len
        by_cases hlt : k < code.length
        · obtain ⟨k1,hk1,wk⟩ := qCr (show k < lim by omega)
          obtain ⟨c,hc⟩ : ∃ c,out[k]? = some c := ⟨_,List.getElem?_eq_getElem (by omega)⟩
          have hc2 : o2[k]? = some c := by rw [z.tail k (Nat.le_refl _),hc]
          have hkf : (k : Int) < b.length := by omega
          have hbk := gN_at (l := b) (i := k) (by omega)
          have ecs : H2.cell? (h.length + 2) 0 0 = some cs := by rw [z.row.cell]; rfl
          have q0 : H2.cell? (h.length + 1) (k * 4) 1 = some (v8 c.op) := by have := z.cod.cell (r := k) (j := 0) (by omega); rw [hc2] at this; exact this
          have q1 : H2.cell? (h.length + 1) (k * 4 + 1) 1 = some (vI c.a) := by have := z.cod.cell (r := k) (j := 1) (by omega); rw [hc2] at this; exact this
          have fin : ∀ (d : Ins) (H3 : Heap),d = idleIns c (gN b k) → RowM 4 vIns H3 (h.length + 1) 1 4 (o2.set k d) → Same H2 (h.length + 1) H3 → FD h code out b cs fv k1 (o2.set k d) H3 := fun d H3 hd s2 s3 => by
            refine ⟨z.row.keep (s3.1 _ (by omega)),s2,z.frm.keep fun i hi => s3.1 i (fun e => by have := z.frm.low i hi; omega),z.res.keep (s3.1 _ (by omega)),⟨by rw [s3.2]; exact z.kp.1,fun i hi => by rw [s3.1 i (by omega)]; exact z.kp.2 i hi⟩,by simp [z.len],fun i hi => ?_,fun i x hi hx => ?_⟩
            · rw [List.getElem?_set_ne (by omega)]; exact z.tail i (by omega)
            · by_cases e : i = k
              · subst e; rw [hc] at hx; cases hx; rw [List.getElem?_set_self (by omega),hd]
              · rw [List.getElem?_set_ne (fun h => e h.symm)]; exact z.done i x (by omega) hx
          have stay : idleIns c (gN b k) = c → FD h code out b cs fv k1 o2 H2 := fun e => by
            have hset : o2.set k c = o2 := by
              apply List.ext_getElem?
              intro i
              by_cases h : i = k
              · subst h; rw [List.getElem?_set_self (by omega),hc2]
              · rw [List.getElem?_set_ne (fun e => h e.symm)]
            have := fin c H2 e.symm (by rw [hset]; exact z.cod) ⟨fun _ _ => rfl,rfl⟩
            rwa [hset] at this
          have hcode : k < code.length := hlt
          simp [qAk,qAn,qAl,qAi,qAg,qAe,qAb,qAd,qAa,qAj,qAf,qAc,BodyK,resVs,resV,retV,qAm,qAh,qAr,qAq,qAp,qAo,hkf,hbk,ecs,hcs,hlt,q0]
          refine fIdle_call ?_
          by_cases h6 : c.op ≤ 6
          · simp [qAk,qAn,qAl,qAi,qAg,qAe,qAb,qAd,qAa,qAj,qAf,qAc,BodyK,resVs,resV,retV,qAm,qAh,qAr,qAq,qAp,qAo,callK_def,h6,q1]
            refine bHas_call (hb.lt k) ?_
            cases hn : hasB (gN b k) c.a with
            | true =>
              have e : idleIns c (gN b k) = c := by unfold idleIns; rw [if_neg (fun h => by rw [hn] at h; cases h.2)]
              simp [qAk,qAn,qAl,qAi,qAg,qAe,qAb,qAd,qAa,qAj,qAf,qAc,BodyK,resVs,resV,retV,qAm,qAh,qAr,qAq,qAp,qAo,callK_def,wk]
              exact .go (k1,o2,H2) (by simp only []; omega) (by simp) rfl ⟨by simp only []; omega,by have := stay e; subst hcs; exact this⟩
            | false =>
              have e : idleIns c (gN b k) = nopI := by unfold idleIns; rw [if_pos ⟨h6,hn⟩]
              obtain ⟨H3,s1,s2,s3⟩ := z.cod.store (r := k) (by omega) (x := nopI) rfl
              have s1' : storeV H2 4 (.pointer (some ⟨h.length + 1,k * 4,some 1⟩)) (.agg #[.int .u8 0,.int .i64 0,.int .i64 0,.int .i64 0]) = some H3 := s1
              simp [qAk,qAn,qAl,qAi,qAg,qAe,qAb,qAd,qAa,qAj,qAf,qAc,BodyK,resVs,resV,retV,qAm,qAh,qAr,qAq,qAp,qAo,callK_def,s1',wk]
              exact .go (k1,o2.set k nopI,H3) (by simp only []; omega) (by simp) rfl ⟨by simp only []; omega,by have := fin nopI H3 e.symm s2 s3; subst hcs; exact this⟩
          · have e : idleIns c (gN b k) = c := by unfold idleIns; rw [if_neg (fun h => h6 h.1)]
            simp [qAk,qAn,qAl,qAi,qAg,qAe,qAb,qAd,qAa,qAj,qAf,qAc,BodyK,resVs,resV,retV,qAm,qAh,qAr,qAq,qAp,qAo,callK_def,h6,wk]
            exact .go (k1,o2,H2) (by simp only []; omega) (by simp) rfl ⟨by simp only []; omega,by have := stay e; subst hcs; exact this⟩
        · obtain rfl : k = code.length := by omega
          have hkf : ¬ (code.length : Int) < b.length := by omega
          have hce : H2.cells? (h.length + 2) 0 0 2 = some [cs,fv] := z.row.cells rfl
          obtain ⟨H3,s1,s2,s3⟩ := z.res.store (n := 2) (cs := [cs,fv]) rfl rfl (by
            have hq := z.frm
            rcases hq with ⟨e,_⟩ | ⟨id,ver,e,_⟩ <;> rw [e,hcs] <;> rfl)
          have s1' : storeV H2 2 (ptr h.length) (.agg #[cs,fv]) = some H3 := s1
          have ce2 : H3.cells? h.length 0 0 2 = some [cs,fv] := s2.cells rfl
          simp [qAk,qAn,qAl,qAi,qAg,qAe,qAb,qAd,qAa,qAj,qAf,qAc,BodyK,resVs,resV,retV,qAm,qAh,qAr,qAq,qAp,qAo,hkf,hce,s1',ce2]
          obtain ⟨g,hg⟩ := (z.kp.trans ⟨by rw [s3.2]; exact Nat.le_refl _,fun i hi => s3.1 i (by omega)⟩ : Keeps h.length h H3).ext
          have cod2 : RowM 4 vIns H3 (h.length + 1) 1 4 o2 := z.cod.keep (s3.1 _ (by omega))
          have frm2 : AccL vI (h.length + 2 + 1) H3 fv (ownL code.length) := z.frm.keep fun i hi => s3.1 i (fun e => by have := z.frm.low i hi; omega)
          have i1 : Inl h.length H3 cs (vM 4 vIns o2) := by
            rw [hcs]
            exact AccM.inl (e := 4) (F := vIns) (b := h.length) (.inr ⟨_,1,by rw [zl,w1],by omega,cod2,qEt (e := 4) (fun _ => rfl) _⟩) fun _ => rfl
          have i2 : Inl h.length H3 fv (vL vI (ownL code.length)) := by
            have f3 : AccL vI h.length H3 fv (ownL code.length) := by
              rcases frm2 with ⟨e1,e2,e3⟩ | ⟨id,ver,e1,e2,e3⟩
              · exact Or.inl ⟨e1,e2,e3⟩
              · exact Or.inr ⟨id,ver,e1,by omega,e3⟩
            exact AccL.inl f3 fun _ => rfl
          refine ⟨⟨g,hg⟩,_,Inls.agg (xs := [cs,fv]) (ys := [vM 4 vIns o2,vL vI (ownL code.length)]) ⟨i1,i2,trivial⟩,hk o2 (ownL code.length) ?_⟩
          unfold FoldedL
          rw [if_neg h60]
          refine ⟨⟨v,out,b,hv,⟨w.len,fun i c hc => w.come i c (List.getElem?_eq_some_iff.1 hc).1 hc,fun i c hc => w.away i c (List.getElem?_eq_some_iff.1 hc).1 hc⟩,hb,⟨z.len,fun i x hx => z.done i x ?_ hx⟩⟩,rfl⟩
          have := (List.getElem?_eq_some_iff.1 hx).1
          omega
end
end Pm

/- What is known is not reckoned: by the document,all of it,walked.
   No condition: plain lemmas. -/

namespace Pm
set_option linter.unusedSimpArgs false
set_option linter.unusedVariables false
open Go Am
open Go.Proofs.Try (prog)

theorem NoU.push {H H' : Heap} (h : NoU H) {e : Nat} {s x w : Value} (he : e ≠ 1) (hp : pApp H e s x = some (w,H')) : NoU H' := fun id r h1 h2 => by
  rcases pApp_esz hp h1 with h3 | h3
  · omega
  · exact h id r h3 h2
/-- What is known stands in it,so far. -/
structure FRd (code : List Ins) (v : List V4) (k : Nat) (out : List Ins) : Prop where
  len : out.length = k
  come : ∀ i x,i < k → code[i]? = some x → Come (succs code) i → out[i]? = some (foldIns x (rowF v i))
  away : ∀ i x,i < k → code[i]? = some x → ¬ Come (succs code) i → out[i]? = some x
theorem FRd.next {code : List Ins} {v : List V4} {k : Nat} {out : List Ins} {c d : Ins} (f : FRd code v k out) (hc : code[k]? = some c) (h1 : Come (succs code) k → d = foldIns c (rowF v k)) (h2 : ¬ Come (succs code) k → d = c) : FRd code v (k + 1) (out ++ [d]) := by
  have hl := f.len
  refine ⟨by simp [hl],fun i e hi he hg => ?_,fun i e hi he hg => ?_⟩
  · by_cases hik : i = k
    · subst hik; rw [hc] at he; cases he
      rw [List.getElem?_append_right (by omega),hl,Nat.sub_self,h1 hg]; rfl
    · rw [List.getElem?_append_left (by omega)]; exact f.come i e (by omega) he hg
  · by_cases hik : i = k
    · subst hik; rw [hc] at he; cases he
      rw [List.getElem?_append_right (by omega),hl,Nat.sub_self,h2 hg]; rfl
    · rw [List.getElem?_append_left (by omega)]; exact f.away i e (by omega) he hg
theorem FRd.op {code out : List Ins} {v : List V4} {k : Nat} (f : FRd code v k out) (hk : k ≤ code.length) (ho : ∀ i ∈ code,i.op ≤ 255) : ∀ i ∈ out,i.op ≤ 255 := by
  intro c hc
  obtain ⟨i,hi⟩ := List.mem_iff_getElem?.1 hc
  have hlt := (List.getElem?_eq_some_iff.1 hi).1
  rw [f.len] at hlt
  have hx : code[i]? = some code[i] := List.getElem?_eq_getElem (by omega)
  have hxo := ho _ (List.getElem_mem (show i < code.length by omega))
  rcases Classical.em (Come (succs code) i) with hm | hm
  · rw [f.come i _ hlt hx hm] at hi; cases hi; exact foldIns_op hxo
  · rw [f.away i _ hlt hx hm] at hi; cases hi; exact hxo
structure FD2 (out : List Ins) (b : List Nat) (k : Nat) (o2 : List Ins) : Prop where
  len : o2.length = out.length
  tail : ∀ i,k ≤ i → o2[i]? = out[i]?
  done : ∀ i x,i < k → out[i]? = some x → o2[i]? = some (idleIns x (gN b i))
theorem FD2.next {out o2 : List Ins} {b : List Nat} {k : Nat} {c : Ins} (z : FD2 out b k o2) (hc : out[k]? = some c) : FD2 out b (k + 1) (o2.set k (idleIns c (gN b k))) := by
  have hl := z.len
  have hk := (List.getElem?_eq_some_iff.1 hc).1
  refine ⟨by simp [hl],fun i hi => ?_,fun i x hi hx => ?_⟩
  · rw [List.getElem?_set_ne (by omega)]; exact z.tail i (by omega)
  · by_cases e : i = k
    · subst e; rw [hc] at hx; cases hx; rw [List.getElem?_set_self (by omega)]
    · rw [List.getElem?_set_ne (fun h => e h.symm)]; exact z.done i x (by omega) hx
theorem FD2.stay {out o2 : List Ins} {b : List Nat} {k : Nat} {c : Ins} (z : FD2 out b k o2) (hc : out[k]? = some c) (h : idleIns c (gN b k) = c) : FD2 out b (k + 1) o2 := by
  have := z.next hc
  rw [h] at this
  have hs : o2.set k c = o2 := by
    apply List.ext_getElem?
    intro i
    by_cases e : i = k
    · subst e
      have hk := (List.getElem?_eq_some_iff.1 hc).1
      rw [List.getElem?_set_self (by rw [z.len]; exact hk),z.tail i (Nat.le_refl _),hc]
    · rw [List.getElem?_set_ne (fun h => e h.symm)]
  rwa [hs] at this
section
variable {h : Heap} {K : Value → Heap → Prop}
end
end Pm

/- What is known is not reckoned: the chapter's example; the program tells what the document tells; walked.
   No condition: plain lemmas. -/

namespace Pm
set_option linter.unusedSimpArgs false
set_option linter.unusedVariables false
open Go Am
open Go.Proofs.Try (prog)

section
variable {h : Heap} {K : Value → Heap → Prop}
set_option maxHeartbeats 4000000 in
theorem known16_call (hh : NoU h) (hk : K (vB true) h) : PCall prog 31 [] h K := by
  refine PCall.forget ?_
  refine call_known16 (by simp) ?_
  have hfa : frzV (h ++ [bx [.int .u8 1,.int .i64 0,.int .i64 3,.int .i64 0,.int .u8 3,.int .i64 1,.int .i64 0,.int .i64 0,.int .u8 9,.int .i64 1,.int .i64 0,.int .i64 0] 4]) 4 (.slice (some ⟨h.length,0,none⟩) 3 0) = some (vM 4 vIns c16,h ++ [.row ⟨c16.flatMap vIns,4,0,false⟩]) := frzV_new (h := h) rfl rfl rfl
  simp [qAk,qAn,qAl,qAi,qAg,qAe,qAb,qAd,qAa,qAj,qAf,qAc,BodyK,resVs,resV,retV,qAm,qAh,qAr,qAq,qAp,qAo,c_known16,hfa]
  refine fCode_call (code := c16) (hh.app fun r hr h1 => by simp at hr; rw [hr] at h1; cases h1) (by decide) (by decide) fun oa fa ha => ?_
  have e : oa = [⟨0,0,0,0⟩,⟨1,1,6,0⟩,⟨9,1,0,0⟩] ∧ fa = [0,1,2] := by
    unfold FoldedL at ha
    rw [if_neg (by decide)] at ha
    exact ⟨out16 ha.1,ha.2⟩
  obtain ⟨rfl,rfl⟩ := e
  simp [qAk,qAn,qAl,qAi,qAg,qAe,qAb,qAd,qAa,qAj,qAf,qAc,BodyK,resVs,resV,retV,qAm,qAh,qAr,qAq,qAp,qAo,callK_def,vEdit,vIns]
  exact ⟨_,.cell rfl,hk⟩
end
end Pm
