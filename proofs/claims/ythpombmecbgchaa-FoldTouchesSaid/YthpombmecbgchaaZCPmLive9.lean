/- Registers that are yet to be read: by the document, ways by places that were seen.
   No condition: plain lemmas. -/

import Derived.Test.YthpombmecbgchaaZCPmLive2
import Derived.Test.YthpombmecbgchaaZCPmCfgC
import Derived.Test.YthpombmecbgchaaZCPmLaw
import Derived.Test.YthpombmecbgchaaZCPmFlowP
namespace Pm
set_option linter.unusedSimpArgs false
set_option linter.unusedVariables false
open Go Am
open Go.Proofs.Try (prog)

/-- A search by places that were seen: where it stops, where it does not go on; what is next. -/
structure Srch where
  n : Nat
  stop : Nat → Bool
  thru : Nat → Bool
  next : Nat → List Int
/-- What it finds. -/
inductive Fnd (s : Srch) : Nat → Prop
  | stop {i : Nat} (hi : i < s.n) (h : s.stop i = true) : Fnd s i
  | pass {i j : Nat} (hi : i < s.n) (ht : s.thru i = true) (hj : (j : Int) ∈ s.next i) (h : Fnd s j) : Fnd s i
theorem Fnd.lt {s : Srch} {i : Nat} (h : Fnd s i) : i < s.n := by cases h <;> assumption
/-- Nothing was found yet: what is left to see, from where it began. -/
structure SInv (s : Srch) (start : Int) (seen : List Bool) (left : List Int) : Prop where
  len : seen.length = s.n
  all : ∀ i, seen[i]? = some true → s.stop i = false ∧ (s.thru i = true → ∀ x ∈ s.next i, x ∈ left ∨ x < 0 ∨ (s.n : Int) ≤ x ∨ seen[x.toNat]? = some true)
  from_ : start ∈ left ∨ start < 0 ∨ (s.n : Int) ≤ start ∨ seen[start.toNat]? = some true
  back : ∀ x ∈ left, ∀ j : Nat, x = j → Fnd s j → ∃ k : Nat, start = k ∧ Fnd s k
def swork (s : Srch) (seen : List Bool) : Nat := ((List.range s.n).map fun i => if seen[i]? = some true then 0 else (s.next i).length + 1).sum
theorem sum_le' {f g : Nat → Nat} : ∀ (l : List Nat), (∀ i ∈ l, f i ≤ g i) → (l.map f).sum ≤ (l.map g).sum
  | [], _ => by simp
  | a :: l, h => by
    have h1 := h a (by simp)
    have h2 := sum_le' l fun i hi => h i (by simp [hi])
    simp only [List.map_cons, List.sum_cons]; omega
theorem sum_lt' {f g : Nat → Nat} {d : Nat} {k : Nat} : ∀ (l : List Nat), (∀ i ∈ l, f i ≤ g i) → k ∈ l → f k + d ≤ g k → (l.map f).sum + d ≤ (l.map g).sum
  | [], _, hk, _ => by simp at hk
  | a :: l, h, hk, hd => by
    have h1 := h a (by simp)
    have h2 := sum_le' l fun i hi => h i (by simp [hi])
    simp only [List.map_cons, List.sum_cons]
    rcases List.mem_cons.1 hk with rfl | hk
    · omega
    · have h3 := sum_lt' l (fun i hi => h i (by simp [hi])) hk hd
      omega
theorem swork_set {s : Srch} {seen : List Bool} {i : Nat} (hi : i < s.n) (hl : seen.length = s.n) (hs : seen[i]? = some false) : swork s (seen.set i true) + ((s.next i).length + 1) ≤ swork s seen := by
  unfold swork
  refine sum_lt' (k := i) _ (fun j hj => ?_) (List.mem_range.2 hi) ?_
  · by_cases e : i = j
    · subst e
      simp [hl, hi]
    · rw [List.getElem?_set_ne e]; exact Nat.le_refl _
  · rw [List.getElem?_set_self (by omega), hs]; simp
section
variable {s : Srch} {start : Int} {seen : List Bool} {left : List Int}
theorem SInv.init : SInv s start (List.replicate s.n false) [start] := by
  refine ⟨by simp, fun i h => ?_, .inl (by simp), fun x hx j e h => ?_⟩
  · rw [List.getElem?_replicate] at h
    split at h <;> simp at h
  · rw [List.mem_singleton.1 hx] at e
    exact ⟨j, e, h⟩
/-- One that was seen, or is none. -/
theorem SInv.skip {x : Int} (v : SInv s start seen (left ++ [x])) (hx : x < 0 ∨ (s.n : Int) ≤ x ∨ seen[x.toNat]? = some true) : SInv s start seen left := by
  refine ⟨v.len, fun i h => ⟨(v.all i h).1, fun ht y hy => ?_⟩, ?_, fun y hy => v.back y (by simp [hy])⟩
  · rcases (v.all i h).2 ht y hy with h | h
    · rcases List.mem_append.1 h with h | h
      · exact .inl h
      · rw [List.mem_singleton.1 h]; exact .inr hx
    · exact .inr h
  · rcases v.from_ with h | h
    · rcases List.mem_append.1 h with h | h
      · exact .inl h
      · rw [List.mem_singleton.1 h]; exact .inr hx
    · exact .inr h
theorem SInv.found {i : Nat} (v : SInv s start seen (left ++ [(i : Int)])) (hi : i < s.n) (h : s.stop i = true) : ∃ k : Nat, start = k ∧ Fnd s k := v.back i (by simp) i rfl (.stop hi h)
theorem SInv.new {i : Nat} (v : SInv s start seen (left ++ [(i : Int)])) (hi : i < s.n) (h : s.stop i = false) : SInv s start (seen.set i true) (if s.thru i = true then left ++ s.next i else left) := by
  have hil : i < seen.length := by rw [v.len]; exact hi
  have hsub : ∀ y, y ∈ left → y ∈ (if s.thru i = true then left ++ s.next i else left) := fun y hy => by split <;> simp [hy]
  have hst : ∀ x : Int, (x ∈ left ++ [(i : Int)] ∨ x < 0 ∨ (s.n : Int) ≤ x ∨ seen[x.toNat]? = some true) → (x ∈ (if s.thru i = true then left ++ s.next i else left) ∨ x < 0 ∨ (s.n : Int) ≤ x ∨ (seen.set i true)[x.toNat]? = some true) := by
    intro x hx
    rcases hx with h | h | h | h
    · rcases List.mem_append.1 h with h | h
      · exact .inl (hsub x h)
      · rw [List.mem_singleton.1 h]; exact .inr (.inr (.inr (by simp [hil])))
    · exact .inr (.inl h)
    · exact .inr (.inr (.inl h))
    · refine .inr (.inr (.inr ?_))
      by_cases e : i = x.toNat
      · rw [← e]; simp [hil]
      · rw [List.getElem?_set_ne e]; exact h
  refine ⟨by simp [v.len], fun j hj => ?_, hst _ v.from_, fun y hy j e hf => ?_⟩
  · rw [List.getElem?_set] at hj
    by_cases e : i = j
    · subst e
      refine ⟨h, fun ht y hy => .inl ?_⟩
      rw [if_pos ht]; simp [hy]
    · rw [if_neg e] at hj
      exact ⟨(v.all j hj).1, fun ht y hy => hst y ((v.all j hj).2 ht y hy)⟩
  · by_cases ht : s.thru i = true
    · rw [if_pos ht] at hy
      rcases List.mem_append.1 hy with hy | hy
      · exact v.back y (by simp [hy]) j e hf
      · subst e
        exact v.back i (by simp) i rfl (.pass hi ht hy hf)
    · rw [if_neg ht] at hy
      exact v.back y (by simp [hy]) j e hf
/-- All was seen. -/
theorem SInv.end {k : Nat} (v : SInv s start seen []) (hk : start = k) : ¬ Fnd s k := by
  have key : ∀ j, Fnd s j → seen[j]? ≠ some true := by
    intro j h
    induction h with
    | @stop i hi hs => intro e; rw [(v.all i e).1] at hs; cases hs
    | @pass i j hi ht hj h ih =>
      intro e
      rcases (v.all i e).2 ht _ hj with h1 | h1 | h1 | h1
      · simp at h1
      · omega
      · have := h.lt; omega
      · exact ih (by simpa using h1)
  intro h
  have hl := h.lt
  rcases v.from_ with h1 | h1 | h1 | h1
  · simp at h1
  · omega
  · omega
  · rw [hk] at h1; exact key k h (by simpa using h1)
end
end Pm

/- Rows of sets that are filled, number by number.
   No condition: plain lemmas. -/

namespace Pm
set_option linter.unusedSimpArgs false
set_option linter.unusedVariables false
open Go Am

/-- Filled up to a place and a number; 'c': whether that number is there already. -/
structure TabJ (P : Nat → Nat → Prop) (n i r : Nat) (c : Prop) (out : List Nat) : Prop where
  len : out.length = n
  lt : ∀ j, gN out j < big
  bit : ∀ j k, (gN out j).testBit k = true ↔ ((j < i ∨ j = i ∧ k < r) ∧ P j k) ∨ (j = i ∧ k = r ∧ c)
theorem withN_one {s r : Nat} (hr : r < 64) : withN s [(r : Int)] = s ||| 2 ^ r := by
  show s ||| bitN (r : Int) = _
  rw [bitN_nat hr]
section
variable {P : Nat → Nat → Prop} {n i r : Nat} {c : Prop} {out : List Nat}
theorem TabJ.init : TabJ P n 0 0 False (List.replicate n 0) := by
  have hg : ∀ j, gN (List.replicate n 0) j = 0 := fun j => by
    unfold gN; rw [List.getElem?_replicate]; split <;> rfl
  refine ⟨by simp, fun j => by rw [hg]; decide, fun j k => ?_⟩
  rw [hg]
  simp
theorem TabJ.hit (v : TabJ P n i r c out) (hi : i < n) (hr : r < 64) : TabJ P n i r True (out.set i (withN (gN out i) [(r : Int)])) := by
  have hio : i < out.length := by rw [v.len]; exact hi
  refine ⟨by simp [v.len], fun j => ?_, fun j k => ?_⟩
  · rw [gN_set hio]; split
    · exact withN_lt _ _ (v.lt i)
    · exact v.lt j
  · rw [gN_set hio]
    split
    · rename_i e; subst e
      rw [withN_one hr, Nat.testBit_or, Bool.or_eq_true, v.bit, Nat.testBit_two_pow]
      constructor
      · rintro ((h | h) | h)
        · exact .inl h
        · exact .inr ⟨rfl, h.2.1, trivial⟩
        · exact .inr ⟨rfl, (of_decide_eq_true h).symm, trivial⟩
      · rintro (h | ⟨_, h, _⟩)
        · exact .inl (.inl h)
        · exact .inr (decide_eq_true h.symm)
    · rename_i e
      rw [v.bit]
      simp [e]
theorem TabJ.same {c' : Prop} (v : TabJ P n i r c out) (h : c ↔ c') : TabJ P n i r c' out := ⟨v.len, v.lt, fun j k => by rw [v.bit, h]⟩
theorem TabJ.next (v : TabJ P n i r c out) (h : c ↔ P i r) : TabJ P n i (r + 1) False out := by
  refine ⟨v.len, v.lt, fun j k => ?_⟩
  rw [v.bit]
  constructor
  · rintro (⟨h1 | ⟨h1, h2⟩, h3⟩ | ⟨rfl, rfl, h1⟩)
    · exact .inl ⟨.inl h1, h3⟩
    · exact .inl ⟨.inr ⟨h1, by omega⟩, h3⟩
    · exact .inl ⟨.inr ⟨rfl, by omega⟩, h.1 h1⟩
  · rintro (⟨h1 | ⟨h1, h2⟩, h3⟩ | ⟨_, _, h1⟩)
    · exact .inl ⟨.inl h1, h3⟩
    · rcases Nat.lt_or_ge k r with hk | hk
      · exact .inl ⟨.inr ⟨h1, hk⟩, h3⟩
      · obtain rfl : k = r := by omega
        subst h1
        exact .inr ⟨rfl, rfl, h.2 h3⟩
    · exact h1.elim
theorem TabJ.row (v : TabJ P n i r False out) (h : ∀ k, P i k → k < r) : TabJ P n (i + 1) 0 False out := by
  refine ⟨v.len, v.lt, fun j k => ?_⟩
  rw [v.bit]
  constructor
  · rintro (⟨h1 | ⟨h1, h2⟩, h3⟩ | ⟨_, _, h1⟩)
    · exact .inl ⟨.inl (by omega), h3⟩
    · exact .inl ⟨.inl (by omega), h3⟩
    · exact h1.elim
  · rintro (⟨h1 | ⟨h1, h2⟩, h3⟩ | ⟨_, _, h1⟩)
    · rcases Nat.lt_or_ge j i with hj | hj
      · exact .inl ⟨.inl hj, h3⟩
      · obtain rfl : j = i := by omega
        exact .inl ⟨.inr ⟨rfl, h _ h3⟩, h3⟩
    · omega
    · exact h1.elim
theorem TabJ.end (v : TabJ P n n 0 False out) : ∀ j k, (gN out j).testBit k = true ↔ j < n ∧ P j k := by
  intro j k
  rw [v.bit]
  constructor
  · rintro (⟨h1 | ⟨h1, h2⟩, h3⟩ | ⟨_, _, h1⟩)
    · exact ⟨h1, h3⟩
    · omega
    · exact h1.elim
  · rintro ⟨h1, h2⟩; exact .inl ⟨.inl h1, h2⟩
end
end Pm

/- Registers that are yet to be read: by the document, walked.
   No condition: plain lemmas. -/

namespace Pm
set_option linter.unusedSimpArgs false
set_option linter.unusedVariables false
open Go Am
open Go.Proofs.Try (prog)

def srchL (code : List Ins) (r : Nat) : Srch := ⟨code.length, fun i => match code[i]? with | some c => (usesOf c).testBit r | none => false, fun i => match code[i]? with | some c => !(setsOf c).testBit r | none => false, fun i => nexts (succs code) i⟩
theorem srchL_iff {code : List Ins} {r i : Nat} : Fnd (srchL code r) i ↔ Lv code r i := by
  constructor
  · intro h
    induction h with
    | @stop i hi h =>
      have hc : code[i]? = some (code[i]'hi) := List.getElem?_eq_getElem hi
      simp only [srchL, hc] at h
      exact .use hc h
    | @pass i j hi ht hj h ih =>
      have hc : code[i]? = some (code[i]'hi) := List.getElem?_eq_getElem hi
      simp only [srchL, hc] at ht hj
      rw [nexts_succs hc] at hj
      exact .pass hc (by simpa using ht) hj ih
  · intro h
    induction h with
    | @use i c hc hu => exact .stop (List.getElem?_eq_some_iff.1 hc).1 (by simp only [srchL, hc]; exact hu)
    | @pass i j c hc hs hj h ih => exact .pass (List.getElem?_eq_some_iff.1 hc).1 (by simp only [srchL, hc, hs]; rfl) (by simp only [srchL]; rw [nexts_succs hc]; exact hj) ih
theorem swork_le {s : Srch} {seen : List Bool} {d : Nat} (h : ∀ i, (s.next i).length ≤ d) : swork s seen ≤ s.n * (d + 1) := by
  have : ∀ l : List Nat, (l.map fun i => if seen[i]? = some true then 0 else (s.next i).length + 1).sum ≤ l.length * (d + 1) := by
    intro l
    induction l with
    | nil => simp
    | cons a l ih =>
      have := h a
      simp only [List.map_cons, List.sum_cons, List.length_cons, Nat.succ_mul]
      split <;> omega
  have := this (List.range s.n)
  simpa [swork] using this
theorem nexts_two (code : List Ins) (i : Nat) : (nexts (succs code) i).length ≤ 2 := by
  unfold nexts
  rw [succs_at]
  cases code[i]? with
  | none => simp
  | some c => exact nextsOf_len i c
section
variable {h : Heap} {K : Value → Heap → Prop}
set_option maxHeartbeats 2000000 in
theorem r15read_call {code : List Ins} {r : Nat} {start : Int} (hl : code.length ≤ 60) (hr : r < 64) (hk : ∀ b : Bool, (b = true ↔ ∃ k : Nat, start = k ∧ Lv code r k) → K (vB b) h) :
    PCall prog 48 [vM 4 vIns code, vL (vL vI) (succs code), vI r, vI start] h K := by
  obtain ⟨b, hb⟩ : ∃ b : Bool, b = true ↔ ∃ k : Nat, start = k ∧ Lv code r k := by
    rcases Classical.em (∃ k : Nat, start = k ∧ Lv code r k) with h | h
    · exact ⟨true, by simp [h]⟩
    · exact ⟨false, by simp [h]⟩
  refine Pure.go (Pure.one (p := vB b) rfl fun h => ?_) (hk b hb)
  clear hk
  have hlim : lim = 1048576 := rfl
  refine call_r15read (by simp) ?_
  have hm := make_box (h := h) (n := code.length) (z := [.bool false]) (e := 1) (k := .i64) (k' := .i64) (by omega)
  simp [new_box, app_box, len_box, cell_box, cell_box0, cells_box, cells_box0, store_box, store_box0, cellB_bx, cellsB_bx, storeB_bx, BodyK, resVs, resV, retV, box_all, cast_lit, wrap_1, wrap_2, wrap_3, wrap_4, c_r15read, hm, bx_repB]
  obtain ⟨s, hs⟩ : ∃ s, s = srchL code r := ⟨_, rfl⟩
  have hsn : s.n = code.length := by rw [hs]; rfl
  have hsx : ∀ i, s.next i = nexts (succs code) i := fun i => by rw [hs]; rfl
  have hinit := SInv.init (s := s) (start := start)
  rw [hsn] at hinit
  refine loop_l (σ := List Bool × List Int × List Value × Nat) (fun x => [(0, vM 4 vIns code), (1, vL (vL vI) (succs code)), (2, vI r), (9, .slice (some ⟨h.length, 0, none⟩) code.length 0), (10, .slice (some ⟨h.length + 1, 0, none⟩) x.2.1.length x.2.2.2)]) (fun x => h ++ [bxL vB x.1, bxQ (x.2.1.map vI ++ x.2.2.1) x.2.2.2])
    (fun x => SInv s start x.1 x.2.1 ∧ swork s x.1 + x.2.1.length ≤ 1000) (fun x => swork s x.1 + x.2.1.length) (List.replicate code.length false, [start], [], 0) (by simp) (by simp [bx, bxQ]) ⟨hinit, ?_⟩ ?_
  · have := swork_le (s := s) (seen := List.replicate code.length false) (d := 2) (fun i => by rw [hsx]; exact nexts_two code i)
    rw [hsn] at this
    simp only [List.length_singleton]; omega
  rintro ⟨seen, left, junk, ver⟩ fr ⟨v, hw⟩
  simp only at v hw ⊢
  have hsl : seen.length = code.length := by rw [v.len, hsn]
  rcases List.eq_nil_or_concat left with rfl | ⟨l', x, rfl⟩
  · have hb0 : b = false := by
      cases b with
      | false => rfl
      | true =>
        obtain ⟨k, e1, e2⟩ := hb.1 rfl
        exact absurd (srchL_iff.2 e2) (by rw [← hs]; exact v.end e1)
    subst hb0
    simp [new_box, app_box, len_box, cell_box, cell_box0, cells_box, cells_box0, store_box, store_box0, cellB_bx, cellsB_bx, storeB_bx, BodyK, resVs, resV, retV, box_all, cast_lit, wrap_1, wrap_2, wrap_3, wrap_4]
  · rw [List.concat_eq_append] at *
    have hlen : (l' ++ [x]).length = l'.length + 1 := by simp
    rw [hlen] at hw
    have h0 : (0 : Int) < (l'.length : Int) + 1 := by omega
    have h1 : (l'.length : Int) < (l'.length : Int) + 1 := by omega
    have hsw : swork s seen + l'.length + 1 ≤ 1000 := by omega
    have hwp : IntKind.i64.wrap (l'.length : Int) = (l'.length : Int) := wrap_i64 (by omega) (by omega)
    have hml : (l' ++ [x]).map vI ++ junk = l'.map vI ++ (vI x :: junk) := by simp
    have hcut := cut_at (h := h) (rs := [bxL vB seen, bxQ (l'.map vI ++ (vI x :: junk)) ver]) (j := 1) (ver := ver) (off := 0) (len := l'.length + 1) (e := 1) (lo := none) (hi := some (.int .i64 (l'.length : Int))) (a := 0) (b := l'.length) (r := ⟨l'.map vI ++ (vI x :: junk), 1, ver, true⟩) rowO_Q rfl (by simp) (by simp; omega) (by omega)
    have hcel : (h ++ [bxL vB seen, bxQ (l'.map vI ++ (vI x :: junk)) ver]).cell? (h.length + 1) l'.length ver = some (vI x) := by
      rw [cell_at]
      show (rowO (some (bxQ (l'.map vI ++ (vI x :: junk)) ver)) ver).bind _ = _
      rw [rowO_Q]; simp
    rw [hlen, hml]
    have go1 : (x < 0 ∨ (s.n : Int) ≤ x ∨ seen[x.toNat]? = some true) → ∀ fr : Fr, Slots [(0, vM 4 vIns code), (1, vL (vL vI) (succs code)), (2, vI r), (9, .slice (some ⟨h.length, 0, none⟩) code.length 0), (10, .slice (some ⟨h.length + 1, 0, none⟩) l'.length ver)] fr →
        NextL (fun x : List Bool × List Int × List Value × Nat => [(0, vM 4 vIns code), (1, vL (vL vI) (succs code)), (2, vI r), (9, .slice (some ⟨h.length, 0, none⟩) code.length 0), (10, .slice (some ⟨h.length + 1, 0, none⟩) x.2.1.length x.2.2.2)]) (fun x => h ++ [bxL vB x.1, bxQ (x.2.1.map vI ++ x.2.2.1) x.2.2.2])
          (fun x => SInv s start x.1 x.2.1 ∧ swork s x.1 + x.2.1.length ≤ 1000) (fun x => swork s x.1 + x.2.1.length) (seen, l' ++ [x], junk, ver) fr (h ++ [bxL vB seen, bxQ (l'.map vI ++ (vI x :: junk)) ver]) := fun hx fr hf =>
      .go (seen, l', vI x :: junk, ver) (by simp) hf rfl ⟨v.skip hx, by simp only []; omega⟩
    by_cases hx0 : x < 0
    · simp [new_box, app_box, len_box, cell_box, cell_box0, cells_box, cells_box0, store_box, store_box0, cellB_bx, cellsB_bx, storeB_bx, BodyK, resVs, resV, retV, box_all, cast_lit, wrap_1, wrap_2, wrap_3, wrap_4, h0, h1, hwp, hcel, pCut_own, hcut, hx0]
      exact go1 (.inl hx0) _ (by simp)
    · obtain ⟨i, rfl⟩ : ∃ i : Nat, x = i := ⟨x.toNat, by omega⟩
      have hi0 : ¬ (i : Int) < 0 := by omega
      by_cases hxn : code.length ≤ i
      · simp [new_box, app_box, len_box, cell_box, cell_box0, cells_box, cells_box0, store_box, store_box0, cellB_bx, cellsB_bx, storeB_bx, BodyK, resVs, resV, retV, box_all, cast_lit, wrap_1, wrap_2, wrap_3, wrap_4, h0, h1, hwp, hcel, pCut_own, hcut, hi0, hxn]
        exact go1 (.inr (.inl (by omega))) _ (by simp)
      · have hin : i < code.length := by omega
        obtain ⟨c, hc⟩ : ∃ c, code[i]? = some c := ⟨_, List.getElem?_eq_getElem hin⟩
        obtain ⟨t, ht⟩ : ∃ t, seen[i]? = some t := ⟨_, List.getElem?_eq_getElem (by omega)⟩
        have htg : seen[i]'(by omega) = t := (List.getElem?_eq_some_iff.1 ht).2
        have hcg : code[i]'(by omega) = c := (List.getElem?_eq_some_iff.1 hc).2
        cases t with
        | true =>
          simp [new_box, app_box, len_box, cell_box, cell_box0, cells_box, cells_box0, store_box, store_box0, cellB_bx, cellsB_bx, storeB_bx, BodyK, resVs, resV, retV, box_all, cast_lit, wrap_1, wrap_2, wrap_3, wrap_4, h0, h1, hwp, hcel, pCut_own, hcut, hi0, hxn, hin, hsl, cellB_bxL, htg]
          exact go1 (.inr (.inr (by simpa using ht))) _ (by simp)
        | false =>
          have h4 : (vIns c).take 4 = vIns c := rfl
          have h4' : (vIns c).length = 4 := rfl
          simp [new_box, app_box, len_box, cell_box, cell_box0, cells_box, cells_box0, store_box, store_box0, cellB_bx, cellsB_bx, storeB_bx, BodyK, resVs, resV, retV, box_all, cast_lit, wrap_1, wrap_2, wrap_3, wrap_4, h0, h1, hwp, hcel, pCut_own, hcut, hi0, hxn, hin, hsl, cellB_bxL, htg, storeB_bxB, hcg, h4, h4']
          have hsi : (succs code)[i]? = some (nextsOf i c) := by rw [succs_at, hc]; rfl
          have hnx : s.next i = nextsOf i c := by rw [hsx, nexts_succs hc]
          have hst : s.stop i = (usesOf c).testBit r := by rw [hs]; simp only [srchL, hc]
          have hth : s.thru i = !(setsOf c).testBit r := by rw [hs]; simp only [srchL, hc]
          have hsw2 := swork_set (s := s) (seen := seen) (i := i) (by omega) (by omega) ht
          rw [hnx] at hsw2
          refine R2Uses_call ?_
          simp [new_box, app_box, len_box, cell_box, cell_box0, cells_box, cells_box0, store_box, store_box0, cellB_bx, cellsB_bx, storeB_bx, BodyK, resVs, resV, retV, box_all, cast_lit, wrap_1, wrap_2, wrap_3, wrap_4, callK_def]
          refine RHas_call (usesOf_lt c) ?_
          rw [hasB_nat hr]
          cases hu : (usesOf c).testBit r with
          | true =>
            have hb1 : b = true := by
              obtain ⟨k, e1, e2⟩ := v.found (i := i) (by omega) (by rw [hst, hu])
              exact hb.2 ⟨k, e1, srchL_iff.1 (by rw [← hs]; exact e2)⟩
            subst hb1
            simp [new_box, app_box, len_box, cell_box, cell_box0, cells_box, cells_box0, store_box, store_box0, cellB_bx, cellsB_bx, storeB_bx, BodyK, resVs, resV, retV, box_all, cast_lit, wrap_1, wrap_2, wrap_3, wrap_4, callK_def]
          | false =>
            have v2 := v.new (i := i) (by omega) (by rw [hst, hu])
            rw [hth, hnx] at v2
            simp [new_box, app_box, len_box, cell_box, cell_box0, cells_box, cells_box0, store_box, store_box0, cellB_bx, cellsB_bx, storeB_bx, BodyK, resVs, resV, retV, box_all, cast_lit, wrap_1, wrap_2, wrap_3, wrap_4, callK_def, hin, hcg, h4, h4']
            refine R2Sets_call ?_
            simp [new_box, app_box, len_box, cell_box, cell_box0, cells_box, cells_box0, store_box, store_box0, cellB_bx, cellsB_bx, storeB_bx, BodyK, resVs, resV, retV, box_all, cast_lit, wrap_1, wrap_2, wrap_3, wrap_4, callK_def]
            refine RHas_call (setsOf_lt c) ?_
            rw [hasB_nat hr]
            cases hq : (setsOf c).testBit r with
            | true =>
              rw [hq] at v2
              simp [new_box, app_box, len_box, cell_box, cell_box0, cells_box, cells_box0, store_box, store_box0, cellB_bx, cellsB_bx, storeB_bx, BodyK, resVs, resV, retV, box_all, cast_lit, wrap_1, wrap_2, wrap_3, wrap_4, callK_def]
              exact .go (seen.set i true, l', vI (i : Int) :: junk, ver) (by simp only [List.length_append, List.length_singleton]; omega) (by simp) rfl ⟨by simpa using v2, by simp only []; omega⟩
            | false =>
              rw [hq] at v2
              simp [new_box, app_box, len_box, cell_box, cell_box0, cells_box, cells_box0, store_box, store_box0, cellB_bx, cellsB_bx, storeB_bx, BodyK, resVs, resV, retV, box_all, cast_lit, wrap_1, wrap_2, wrap_3, wrap_4, callK_def, hsi]
              have hpj := pushJ_at (h := h) (rs := [bxL vB (seen.set i true), bxQ (l'.map vI ++ vI (i : Int) :: junk) ver]) (j := 1) (v := vL vI (nextsOf i c)) (n := (nextsOf i c).length) (new := (nextsOf i c).map vI) (q := l'.map vI) (len := l'.length) (ver := ver) rfl (by simp) (by simp) (by omega)
              rw [eK_optK, hpj]
              simp [new_box, app_box, len_box, cell_box, cell_box0, cells_box, cells_box0, store_box, store_box0, cellB_bx, cellsB_bx, storeB_bx, BodyK, resVs, resV, retV, box_all, cast_lit, wrap_1, wrap_2, wrap_3, wrap_4]
              exact .go (seen.set i true, l' ++ nextsOf i c, [], ver + 1) (by simp only [List.length_append, List.length_singleton]; omega) (by simp) (by simp) ⟨by simpa using v2, by simp only [List.length_append]; omega⟩
end
end Pm

/- Registers that are yet to be read: by the document, of all places.
   No condition: plain lemmas. -/

namespace Pm
set_option linter.unusedSimpArgs false
set_option linter.unusedVariables false
open Go Am
open Go.Proofs.Try (prog)

section
variable {h : Heap} {K : Value → Heap → Prop}
def cur15 (code : List Ins) (i r t : Nat) : Prop := ∃ j : Nat, (j : Int) ∈ (nexts (succs code) i).take t ∧ Lv code r j
set_option maxHeartbeats 2000000 in
theorem r15Behind_call {code : List Ins} (hl : code.length ≤ lim) (hk : ∀ a, BehindsL code a → K (vL vU a) h) : PCall prog 31 [vM 4 vIns code] h K := by
  refine PCall.forget ?_
  refine call_r15Behind (by simp) ?_
  by_cases h60 : 60 < code.length
  · have h60' : (60 : Int) < code.length := by omega
    simp [new_box, app_box, len_box, cell_box, cell_box0, cells_box, cells_box0, store_box, store_box0, cellB_bx, cellsB_bx, storeB_bx, BodyK, resVs, resV, retV, box_all, cast_lit, wrap_1, wrap_2, wrap_3, wrap_4, c_r15Behind, h60']
    exact ⟨_, .nil, hk [] (by unfold BehindsL; rw [if_pos h60])⟩
  · have h60' : ¬ (60 : Int) < code.length := by omega
    have hlim : lim = 1048576 := rfl
    have hll : code.length ≤ lim := by omega
    obtain ⟨P, hP⟩ : ∃ P : Nat → Nat → Prop, P = fun i r => ∃ j : Nat, (j : Int) ∈ nexts (succs code) i ∧ Lv code r j := ⟨_, rfl⟩
    simp [-pwp_seq, new_box, app_box, len_box, cell_box, cell_box0, cells_box, cells_box0, store_box, store_box0, cellB_bx, cellsB_bx, storeB_bx, BodyK, resVs, resV, retV, box_all, cast_lit, wrap_1, wrap_2, wrap_3, wrap_4, c_r15Behind]
    rw [pwp_seq]
    simp [-pwp_seq, new_box, app_box, len_box, cell_box, cell_box0, cells_box, cells_box0, store_box, store_box0, cellB_bx, cellsB_bx, storeB_bx, BodyK, resVs, resV, retV, box_all, cast_lit, wrap_1, wrap_2, wrap_3, wrap_4, h60']
    refine RSuccs_call (by omega) ?_
    simp [-pwp_seq, new_box, app_box, len_box, cell_box, cell_box0, cells_box, cells_box0, store_box, store_box0, cellB_bx, cellsB_bx, storeB_bx, BodyK, resVs, resV, retV, box_all, cast_lit, wrap_1, wrap_2, wrap_3, wrap_4, callK_def, make_box hll, bx_repU]
    rw [pwp_seq]
    simp [-pwp_seq, new_box, app_box, len_box, cell_box, cell_box0, cells_box, cells_box0, store_box, store_box0, cellB_bx, cellsB_bx, storeB_bx, BodyK, resVs, resV, retV, box_all, cast_lit, wrap_1, wrap_2, wrap_3, wrap_4]
    refine loop_l (σ := Nat × List Nat × List Ob) (fun x => [(0, vM 4 vIns code), (3, vL (vL vI) (succs code)), (4, .slice (some ⟨h.length, 0, none⟩) code.length 0), (5, vI x.1)]) (fun x => h ++ (bxL vU x.2.1 :: x.2.2))
      (fun x => x.1 ≤ code.length ∧ TabJ P code.length x.1 0 False x.2.1) (fun x => code.length - x.1) (0, List.replicate code.length 0, []) (by simp) rfl ⟨by simp, .init⟩ ?_
    rintro ⟨i, out, rest⟩ fr ⟨hi, v⟩
    simp only at hi v ⊢
    by_cases hlt : i < code.length
    · obtain ⟨i1, hi1, wi⟩ := wrap_next (show i < lim by omega)
      have hif : (i : Int) < code.length := by omega
      obtain ⟨l, hls⟩ : ∃ l, (succs code)[i]? = some l := ⟨_, List.getElem?_eq_getElem (by rw [succs_len]; exact hlt)⟩
      have hln : nexts (succs code) i = l := nexts_of hls
      have hl2 : l.length ≤ 2 := by rw [← hln]; exact nexts_two code i
      rw [pwp_seq]
      simp [-pwp_seq, new_box, app_box, len_box, cell_box, cell_box0, cells_box, cells_box0, store_box, store_box0, cellB_bx, cellsB_bx, storeB_bx, BodyK, resVs, resV, retV, box_all, cast_lit, wrap_1, wrap_2, wrap_3, wrap_4, hif]
      rw [pwp_seq]
      simp [-pwp_seq, new_box, app_box, len_box, cell_box, cell_box0, cells_box, cells_box0, store_box, store_box0, cellB_bx, cellsB_bx, storeB_bx, BodyK, resVs, resV, retV, box_all, cast_lit, wrap_1, wrap_2, wrap_3, wrap_4]
      refine loop_l (σ := Nat × List Nat × List Ob) (fun x => [(0, vM 4 vIns code), (3, vL (vL vI) (succs code)), (4, .slice (some ⟨h.length, 0, none⟩) code.length 0), (5, vI i), (6, vI x.1)]) (fun x => h ++ (bxL vU x.2.1 :: x.2.2))
        (fun x => x.1 ≤ 64 ∧ TabJ P code.length i x.1 False x.2.1) (fun x => 64 - x.1) (0, out, rest) (by simp) rfl ⟨by simp, v⟩ ?_
      clear v
      rintro ⟨r, out, rest⟩ fr ⟨hr, v⟩
      simp only at hr v ⊢
      by_cases hr6 : r < 64
      · obtain ⟨r1, hr1, wr⟩ := wrap_next (show r < lim by omega)
        have hrf : (r : Int) < 64 := by omega
        rw [pwp_seq]
        simp [-pwp_seq, new_box, app_box, len_box, cell_box, cell_box0, cells_box, cells_box0, store_box, store_box0, cellB_bx, cellsB_bx, storeB_bx, BodyK, resVs, resV, retV, box_all, cast_lit, wrap_1, wrap_2, wrap_3, wrap_4, hrf]
        rw [pwp_seq]
        simp [-pwp_seq, new_box, app_box, len_box, cell_box, cell_box0, cells_box, cells_box0, store_box, store_box0, cellB_bx, cellsB_bx, storeB_bx, BodyK, resVs, resV, retV, box_all, cast_lit, wrap_1, wrap_2, wrap_3, wrap_4]
        refine loop_l (σ := Nat × List Nat × List Ob) (fun x => [(0, vM 4 vIns code), (3, vL (vL vI) (succs code)), (4, .slice (some ⟨h.length, 0, none⟩) code.length 0), (5, vI i), (6, vI r), (7, vI x.1)]) (fun x => h ++ (bxL vU x.2.1 :: x.2.2))
          (fun x => x.1 ≤ l.length ∧ TabJ P code.length i r (cur15 code i r x.1) x.2.1) (fun x => l.length - x.1) (0, out, rest) (by simp) rfl ⟨by simp, v.same (by simp [cur15])⟩ ?_
        clear v
        rintro ⟨t, out, rest⟩ fr ⟨ht, v⟩
        simp only at ht v ⊢
        by_cases htl : t < l.length
        · obtain ⟨t1, ht1, wt⟩ := wrap_next (show t < lim by omega)
          have htf : (t : Int) < l.length := by omega
          obtain ⟨x, hx⟩ : ∃ x, l[t]? = some x := ⟨_, List.getElem?_eq_getElem htl⟩
          rw [pwp_seq]
          simp [-pwp_seq, new_box, app_box, len_box, cell_box, cell_box0, cells_box, cells_box0, store_box, store_box0, cellB_bx, cellsB_bx, storeB_bx, BodyK, resVs, resV, retV, box_all, cast_lit, wrap_1, wrap_2, wrap_3, wrap_4, htf, hls]
          rw [pwp_seq]
          simp [-pwp_seq, new_box, app_box, len_box, cell_box, cell_box0, cells_box, cells_box0, store_box, store_box0, cellB_bx, cellsB_bx, storeB_bx, BodyK, resVs, resV, retV, box_all, cast_lit, wrap_1, wrap_2, wrap_3, wrap_4, hls, hx]
          refine r15read_call (by omega) hr6 fun b hb => ?_
          have hbl : cur15 code i r t1 ↔ cur15 code i r t ∨ b = true := by
            unfold cur15
            rw [hln, take_snoc' hx ht1, hb]
            constructor
            · rintro ⟨j, hj, h⟩
              rcases List.mem_append.1 hj with hj | hj
              · exact .inl ⟨j, hj, h⟩
              · exact .inr ⟨j, (List.mem_singleton.1 hj).symm, h⟩
            · rintro (⟨j, hj, h⟩ | ⟨j, hj, h⟩)
              · exact ⟨j, by simp [hj], h⟩
              · exact ⟨j, by simp [hj], h⟩
          cases b with
          | true =>
            have hoi := gN_at (l := out) (i := i) (by rw [v.len]; exact hlt)
            have hog : out[i]'(by rw [v.len]; exact hlt) = gN out i := (List.getElem?_eq_some_iff.1 hoi).2
            have v3 := (v.hit hlt hr6).same (c' := cur15 code i r t1) (by simp [hbl])
            have hol := v.len
            have hfz := frz_one (h := h) (L := bxL vU out :: (rest ++ [bx [vI (r : Int)] 1])) (r := (r : Int)) (k := rest.length + 1) (by simp)
            simp [new_box, app_box, len_box, cell_box, cell_box0, cells_box, cells_box0, store_box, store_box0, cellB_bx, cellsB_bx, storeB_bx, BodyK, resVs, resV, retV, box_all, cast_lit, wrap_1, wrap_2, wrap_3, wrap_4, callK_def, hlt, hol, cellB_bxL, hog, hfz]
            refine RWith_call (v.lt i) (by simp [lim]) ?_
            obtain ⟨y, hy⟩ : ∃ y, y = withN (gN out i) [(r : Int)] := ⟨_, rfl⟩
            rw [← hy] at v3 ⊢
            simp [new_box, app_box, len_box, cell_box, cell_box0, cells_box, cells_box0, store_box, store_box0, cellB_bx, cellsB_bx, storeB_bx, BodyK, resVs, resV, retV, box_all, cast_lit, wrap_1, wrap_2, wrap_3, wrap_4, callK_def, hlt, hol, storeB_U, wt]
            exact .go (t1, out.set i y, _) (by simp only []; omega) (by simp) rfl ⟨by simp only []; omega, v3⟩
          | false =>
            have v3 := v.same (c' := cur15 code i r t1) (by simp [hbl])
            simp [new_box, app_box, len_box, cell_box, cell_box0, cells_box, cells_box0, store_box, store_box0, cellB_bx, cellsB_bx, storeB_bx, BodyK, resVs, resV, retV, box_all, cast_lit, wrap_1, wrap_2, wrap_3, wrap_4, callK_def, wt]
            exact .go (t1, out, rest) (by simp only []; omega) (by simp) rfl ⟨by simp only []; omega, v3⟩
        · have htf : ¬ (t : Int) < l.length := by omega
          have v2 := v.next (by
            rw [hP]; unfold cur15
            rw [List.take_of_length_le (by rw [hln]; omega)])
          rw [← hr1] at v2
          rw [pwp_seq]
          simp [new_box, app_box, len_box, cell_box, cell_box0, cells_box, cells_box0, store_box, store_box0, cellB_bx, cellsB_bx, storeB_bx, BodyK, resVs, resV, retV, box_all, cast_lit, wrap_1, wrap_2, wrap_3, wrap_4, htf, hls, wr]
          exact .go (r1, out, rest) (by simp only []; omega) (by simp) rfl ⟨by simp only []; omega, v2⟩
      · obtain rfl : r = 64 := by omega
        have v2 := v.row fun k hk => by
          rw [hP] at hk
          obtain ⟨j, _, h⟩ := hk
          exact h.low
        rw [← hi1] at v2
        rw [pwp_seq]
        simp [new_box, app_box, len_box, cell_box, cell_box0, cells_box, cells_box0, store_box, store_box0, cellB_bx, cellsB_bx, storeB_bx, BodyK, resVs, resV, retV, box_all, cast_lit, wrap_1, wrap_2, wrap_3, wrap_4, wi]
        exact .go (i1, out, rest) (by simp only []; omega) (by simp) rfl ⟨by simp only []; omega, v2⟩
    · obtain rfl : i = code.length := by omega
      have hif : ¬ (code.length : Int) < code.length := by omega
      rw [pwp_seq]
      simp [new_box, app_box, len_box, cell_box, cell_box0, cells_box, cells_box0, store_box, store_box0, cellB_bx, cellsB_bx, storeB_bx, BodyK, resVs, resV, retV, box_all, cast_lit, wrap_1, wrap_2, wrap_3, wrap_4, hif]
      refine ⟨_, row_inl (j := 0) (l := out) rfl (fun _ => rfl) v.len.symm, hk out ?_⟩
      unfold BehindsL
      rw [if_neg h60]
      refine ⟨v.len, v.lt, fun j k => ?_⟩
      rw [v.end, hP]
end
end Pm
