/- Stores that none can read: the code that is left,by the document,walked.
   No condition: plain lemmas. -/

import Derived.Test.YtmdnkninbkcmkaaZSPmSto4
import Derived.Test.YtmdnkninbkcmkaaZSPmTab
import Derived.Test.YtmdnkninbkcmkaaZSPmMake2
namespace Pm
set_option linter.unusedSimpArgs false
set_option linter.unusedVariables false
open Go Am
open Go.Proofs.Try (prog)

section
variable {h : Heap} {K : Value → Heap → Prop}
structure RC (code : List Ins) (k : Nat) (out : List Ins) : Prop where
  len : out.length = k
  gone : ∀ i c,i < k → code[i]? = some c → Gone code i c → out[i]? = some nopI
  stay : ∀ i c,i < k → code[i]? = some c → ¬ Gone code i c → out[i]? = some c
theorem RC.next {code : List Ins} {k : Nat} {out : List Ins} {c d : Ins} (v : RC code k out) (hc : code[k]? = some c) (h1 : Gone code k c → d = nopI) (h2 : ¬ Gone code k c → d = c) : RC code (k + 1) (out ++ [d]) := by
  have hl := v.len
  refine ⟨by simp [v.len],fun i e hi he hg => ?_,fun i e hi he hg => ?_⟩
  · by_cases hik : i = k
    · subst hik; rw [hc] at he; cases he
      rw [List.getElem?_append_right (by omega),hl,Nat.sub_self,h1 hg]; rfl
    · rw [List.getElem?_append_left (by omega)]; exact v.gone i e (by omega) he hg
  · by_cases hik : i = k
    · subst hik; rw [hc] at he; cases he
      rw [List.getElem?_append_right (by omega),hl,Nat.sub_self,h2 hg]; rfl
    · rw [List.getElem?_append_left (by omega)]; exact v.stay i e (by omega) he hg
end
end Pm

/- Stores that none can read: of straight code; small walks.
   No condition: plain lemmas. -/

namespace Pm
set_option linter.unusedSimpArgs false
set_option linter.unusedVariables false
open Go Am
open Go.Proofs.Try (prog)

def ndS (x : Nat) : List Ins → Bool
  | [] => false
  | c :: l => qTz x c || (!lays x c && ndS x l)
theorem qKe {code : List Ins} (hs : Strt code) {x : Nat} (hx : x < 8) (n : Nat) : ∀ i,code.length - i ≤ n → (Nd code x i ↔ ndS x (code.drop i) = true) := by
  induction n with
  | zero =>
    intro i hi
    rw [List.drop_eq_nil_of_le (by omega)]
    constructor
    · intro h; have := h.lt; omega
    · intro h; cases h
  | succ n ih =>
    intro i hi
    by_cases hlt : i < code.length
    · have hc : code[i]? = some code[i] := List.getElem?_eq_getElem hlt
      rw [qRz hx hc,List.drop_eq_getElem_cons hlt,qId (hs _ (List.getElem_mem hlt))]
      simp only [ndS,Bool.or_eq_true,Bool.and_eq_true,Bool.not_eq_true',List.mem_singleton]
      rw [← ih (i + 1) (by omega)]
      constructor
      · rintro (h | ⟨h1,j,hj,h2⟩)
        · exact .inl h
        · obtain rfl : j = i + 1 := by omega
          exact .inr ⟨h1,h2⟩
      · rintro (h | ⟨h1,h2⟩)
        · exact .inl h
        · exact .inr ⟨h1,i + 1,rfl,h2⟩
    · rw [List.drop_eq_nil_of_le (by omega)]
      constructor
      · intro h; have := h.lt; omega
      · intro h; cases h
theorem come_straight {code : List Ins} (hs : Strt code) : ∀ i,i < code.length → Come (succs code) i
  | 0,h => .start (by rw [qDa]; exact h)
  | i + 1,h => by
    have hi : i < code.length := by omega
    refine .step (come_straight hs i hi) (l := qDd i code[i]) (by rw [qJx,List.getElem?_eq_getElem hi]; rfl) ?_ (by rw [qDa]; exact h)
    rw [qId (hs _ (List.getElem_mem hi))]
    exact List.mem_singleton.2 rfl
def qXa (l : List Ins) (c : Ins) : Bool := decide (c.op = 8) && (decide (0 ≤ c.a) && (decide (c.a < 8) && !ndS c.a.toNat l))
theorem gone_straight {code : List Ins} (hs : Strt code) {i : Nat} {c : Ins} (hc : code[i]? = some c) : Gone code i c ↔ qXa (code.drop (i + 1)) c = true := by
  have hlt := (List.getElem?_eq_some_iff.1 hc).1
  have hp := qId (i := i) (hs c (List.mem_of_getElem? hc))
  simp only [qXa,Bool.and_eq_true,decide_eq_true_eq,Bool.not_eq_true']
  constructor
  · rintro ⟨h8,x,hx,ha,_,hn⟩
    have e : c.a.toNat = x := by omega
    refine ⟨h8,by omega,by omega,?_⟩
    rw [e]
    cases hd : ndS x (code.drop (i + 1)) with
    | false => rfl
    | true => exact absurd ⟨i + 1,by rw [hp]; exact List.mem_singleton.2 rfl,(qKe hs hx _ _ (Nat.le_refl _)).2 hd⟩ hn
  · rintro ⟨h8,h0,h1,hd⟩
    refine ⟨h8,c.a.toNat,by omega,by omega,come_straight hs i hlt,?_⟩
    rintro ⟨j,hj,h⟩
    rw [hp,List.mem_singleton] at hj
    obtain rfl : j = i + 1 := by omega
    rw [(qKe hs (by omega) _ _ (Nat.le_refl _)).1 h] at hd
    cases hd
def outS : List Ins → List Ins
  | [] => []
  | c :: l => (if qXa l c = true then nopI else c) :: outS l
theorem qUe : ∀ (code : List Ins) (i : Nat),(outS code)[i]? = (code[i]?).map fun c => if qXa (code.drop (i + 1)) c = true then nopI else c
  | [],i => by simp [outS]
  | c :: l,0 => by simp [outS]
  | c :: l,i + 1 => by simp [outS,qUe l i]
theorem stored_straight {code : List Ins} (hs : Strt code) : Stored code (outS code) := by
  refine ⟨?_,fun i c hc hg => ?_,fun i c hc hg => ?_⟩
  · induction code with
    | nil => rfl
    | cons c l ih => simp [outS,ih fun d hd => hs d (List.mem_cons_of_mem _ hd)]
  · rw [qUe,hc]
    rw [gone_straight hs hc] at hg
    simp [hg]
  · rw [qUe,hc]
    rw [gone_straight hs hc] at hg
    simp [hg]
theorem qFs.eq {code out : List Ins} {fm : List Int} (h : qFs code out fm) (hs : Strt code) (hl : code.length ≤ 60) : out = outS code ∧ fm = ownL code.length := by
  unfold qFs at h
  rw [if_neg (by omega)] at h
  exact ⟨h.1.unique (stored_straight hs),h.2⟩
theorem qFs.unique {code o1 o2 : List Ins} {f1 f2 : List Int} (h : qFs code o1 f1) (k : qFs code o2 f2) : o2 = o1 ∧ f2 = f1 := by
  unfold qFs at h k
  split at h
  · rw [if_pos (by assumption)] at k; rw [h.1,h.2,k.1,k.2]; exact ⟨rfl,rfl⟩
  · rw [if_neg (by assumption)] at k; rw [h.2,k.2]; exact ⟨k.1.unique h.1,rfl⟩
theorem qJv.unique {code : List Ins} {a b : List Nat} (h : qJv code a) (k : qJv code b) : b = a := by
  unfold qJv at h k
  split at h
  · rw [if_pos (by assumption)] at k; rw [h,k]
  · rw [if_neg (by assumption)] at k; exact k.unique h
theorem qJv.short {code : List Ins} {a : List Nat} (h : qJv code a) : a.length < lim := by
  unfold qJv at h
  split at h
  · rw [h]; decide
  · rw [h.len]; unfold lim; omega
theorem qFs.short {code out : List Ins} {f : List Int} (h : qFs code out f) : out.length < lim ∧ f.length < lim := by
  unfold qFs at h
  split at h
  · rw [h.1,h.2]; decide
  · rw [h.1.len,h.2,qRx]; unfold lim; omega
end Pm

/- Stores that none can read: the chapter's example,and the program tells what the document tells,walked.
   No condition: plain lemmas. -/

namespace Pm
set_option linter.unusedSimpArgs false
set_option linter.unusedVariables false
open Go Am
open Go.Proofs.Try (prog)

def c18a : List Ins := [⟨8,0,1,0⟩,⟨8,0,2,0⟩,⟨14,0,0,0⟩]
def c18b : List Ins := [⟨8,0,1,0⟩,⟨14,0,0,0⟩,⟨8,0,2,0⟩]
def c18c : List Ins := [⟨0,0,0,0⟩,⟨7,0,1,0⟩]
theorem asked_straight {code : List Ins} (hs : Strt code) {b : List Nat} (hb : Asked askN qKr code b) {i : Nat} (hi : i < code.length) (r : Nat) : (gN b i).testBit r = (decide (r < 8) && ndS r (code.drop (i + 1))) := by
  have hc : code[i]? = some code[i] := List.getElem?_eq_getElem hi
  have hp := qId (i := i) (hs _ (List.getElem_mem hi))
  rw [Bool.eq_iff_iff,hb.bit,qIn hc,hp,Bool.and_eq_true,decide_eq_true_eq]
  constructor
  · rintro ⟨_,j,hj,h⟩
    rw [List.mem_singleton] at hj
    obtain rfl : j = i + 1 := by omega
    exact ⟨Nd.low8 h,(qKe hs (Nd.low8 h) _ _ (Nat.le_refl _)).1 h⟩
  · rintro ⟨h1,h2⟩
    exact ⟨hi,i + 1,List.mem_singleton.2 rfl,(qKe hs h1 _ _ (Nat.le_refl _)).2 h2⟩
theorem strt18a : Strt c18a := by unfold Strt c18a; decide
theorem strt18b : Strt c18b := by unfold Strt c18b; decide
theorem strt18c : Strt c18c := by unfold Strt c18c; decide
theorem needs18 {b : List Nat} (h : qJv c18c b) : b = [2,0] := by
  unfold qJv at h
  rw [if_neg (by decide)] at h
  refine qVf (by rw [h.len]; rfl) fun i hi => ?_
  rw [h.len] at hi
  refine Nat.eq_of_testBit_eq fun r => ?_
  rw [asked_straight strt18c h hi]
  have hi2 : i = 0 ∨ i = 1 := by change i < 2 at hi; omega
  rcases hi2 with rfl | rfl
  · show (decide (r < 8) && ndS r [⟨7,0,1,0⟩]) = (2 ^ 1).testBit r
    rw [Nat.testBit_two_pow]
    by_cases e : r = 1
    · subst e; rfl
    · have e1 : ¬ (1 : Int) = (r : Int) := by omega
      have e2 : ¬ 1 = r := fun h => e h.symm
      simp [ndS,qTz,e1,e2,show qIu 7 = false from rfl]
  · show (decide (r < 8) && false) = (0 : Nat).testBit r
    simp
section
variable {h : Heap} {K : Value → Heap → Prop}
set_option maxHeartbeats 4000000 in
theorem known18_call (hk : K (vB true) h) : qBo prog 28 [] h K := by
  refine Pure.go (Pure.one (p := vB true) rfl fun h => ?_) hk
  refine call_known18 (by simp) ?_
  have hfa : frzV (h ++ [bx [.int .u8 8,.int .i64 0,.int .i64 1,.int .i64 0,.int .u8 8,.int .i64 0,.int .i64 2,.int .i64 0,.int .u8 14,.int .i64 0,.int .i64 0,.int .i64 0] 4]) 4 (.slice (some ⟨h.length,0,none⟩) 3 0) = some (vM 4 vIns c18a,h ++ [.row ⟨c18a.flatMap vIns,4,0,false⟩]) := frzV_new (h := h) rfl rfl rfl
  have hfb : ∀ a b : Ob,frzV (h ++ [a,b,bx [.int .u8 8,.int .i64 0,.int .i64 1,.int .i64 0,.int .u8 14,.int .i64 0,.int .i64 0,.int .i64 0,.int .u8 8,.int .i64 0,.int .i64 2,.int .i64 0] 4]) 4 (.slice (some ⟨h.length + 2,0,none⟩) 3 0) = some (vM 4 vIns c18b,h ++ [a,b,.row ⟨c18b.flatMap vIns,4,0,false⟩]) := fun a b => qVe (h := h) (rs := [a,b,bx [.int .u8 8,.int .i64 0,.int .i64 1,.int .i64 0,.int .u8 14,.int .i64 0,.int .i64 0,.int .i64 0,.int .u8 8,.int .i64 0,.int .i64 2,.int .i64 0] 4]) (j := 2) (off := 0) (ver := 0) (r := ⟨[.int .u8 8,.int .i64 0,.int .i64 1,.int .i64 0,.int .u8 14,.int .i64 0,.int .i64 0,.int .i64 0,.int .u8 8,.int .i64 0,.int .i64 2,.int .i64 0],4,0,true⟩) rfl (by simp) rfl
  have hfc : ∀ a b c d : Ob,frzV (h ++ [a,b,c,d,bx [.int .u8 0,.int .i64 0,.int .i64 0,.int .i64 0,.int .u8 7,.int .i64 0,.int .i64 1,.int .i64 0] 4]) 4 (.slice (some ⟨h.length + 4,0,none⟩) 2 0) = some (vM 4 vIns c18c,h ++ [a,b,c,d,.row ⟨c18c.flatMap vIns,4,0,false⟩]) := fun a b c d => qVe (h := h) (rs := [a,b,c,d,bx [.int .u8 0,.int .i64 0,.int .i64 0,.int .i64 0,.int .u8 7,.int .i64 0,.int .i64 1,.int .i64 0] 4]) (j := 4) (off := 0) (ver := 0) (r := ⟨[.int .u8 0,.int .i64 0,.int .i64 0,.int .i64 0,.int .u8 7,.int .i64 0,.int .i64 1,.int .i64 0],4,0,true⟩) rfl (by simp) rfl
  simp [qAl,qAo,qAm,qAi,qAf,qAe,qAb,qAc,qAa,qAj,qAg,qAd,qAu,qAv,resV,retV,qAn,qAh,qAs,qAr,qAq,qAp,qQn,hfa]
  refine qNv (code := c18a) (by decide) (by decide) fun oa fa ha => ?_
  obtain ⟨rfl,rfl⟩ := ha.eq strt18a (by decide)
  simp [qAl,qAo,qAm,qAi,qAf,qAe,qAb,qAc,qAa,qAj,qAg,qAd,qAu,qAv,resV,retV,qAn,qAh,qAs,qAr,qAq,qAp,callK_def,qXc,hfb,hfc]
  refine qNv (code := c18b) (by decide) (by decide) fun oa fa ha => ?_
  obtain ⟨rfl,rfl⟩ := ha.eq strt18b (by decide)
  simp [qAl,qAo,qAm,qAi,qAf,qAe,qAb,qAc,qAa,qAj,qAg,qAd,qAu,qAv,resV,retV,qAn,qAh,qAs,qAr,qAq,qAp,callK_def,qXc,hfb,hfc]
  refine qLb (code := c18c) (by decide) (by decide) fun b hb => ?_
  obtain rfl := needs18 hb
  have ea : outS c18a = [⟨0,0,0,0⟩,⟨8,0,2,0⟩,⟨14,0,0,0⟩] := by decide
  have eb : outS c18b = [⟨8,0,1,0⟩,⟨14,0,0,0⟩,⟨0,0,0,0⟩] := by decide
  simp [qAl,qAo,qAm,qAi,qAf,qAe,qAb,qAc,qAa,qAj,qAg,qAd,qAu,qAv,resV,retV,qAn,qAh,qAs,qAr,qAq,qAp,callK_def,ea,eb,vIns]
end
end Pm
