/- Rows of at most two numbers: sorted, and like ones left out.
   No condition: plain lemmas. -/
import Derived.Test.YtdohgmnflhjgjaaPmCfgC
import Derived.Test.YtdohgmnflhjgjaaPmCfg2
namespace Pm
set_option linter.unusedSimpArgs false
set_option linter.unusedVariables false
open Go Am
open Go.Proofs.Try (prog)

/-- A row of one's own, anywhere. -/
def RowAt {α : Type} (f : α → Value) (H : Heap) (k ver : Nat) (l : List α) : Prop := H[k]? = some (.row ⟨l.map f, 1, ver, true⟩)
section
variable {α : Type} {f : α → Value} {H : Heap} {k ver : Nat} {l : List α}
theorem RowAt.cell (h : RowAt f H k ver l) (i : Nat) : H.cell? k i ver = (l[i]?).map f := by simp [RowAt] at h; simp [Heap.cell?, Heap.row?, h]
theorem RowAt.lt (h : RowAt f H k ver l) : k < H.length := (List.getElem?_eq_some_iff.1 h).1
theorem RowAt.store (h : RowAt f H k ver l) {i : Nat} (hi : i < l.length) {x : α} (hx : cellsOf (f x) = some [f x]) :
    ∃ H', storeV H 1 (.pointer (some ⟨k, i, some ver⟩)) (f x) = some H' ∧ RowAt f H' k ver (l.set i x) ∧ (∀ j, j ≠ k → H'[j]? = H[j]?) ∧ H'.length = H.length := by
  have hlt := h.lt
  refine ⟨H.set k (.row ⟨(l.set i x).map f, 1, ver, true⟩), ?_, by simp [RowAt, hlt], fun j hj => by rw [List.getElem?_set_ne (Ne.symm hj)], by simp⟩
  simp only [RowAt] at h
  have hi' : i + 1 ≤ l.length := hi
  simp [storeV, hx, Heap.row?, h, hi', setAll]
end

def Same (H : Heap) (k : Nat) (H' : Heap) : Prop := (∀ j, j ≠ k → H'[j]? = H[j]?) ∧ H'.length = H.length
theorem Same.refl (H : Heap) (k : Nat) : Same H k H := ⟨fun _ _ => rfl, rfl⟩
theorem Same.trans {H H1 H2 : Heap} {k : Nat} (h : Same H k H1) (h' : Same H1 k H2) : Same H k H2 := ⟨fun j hj => by rw [h'.1 j hj, h.1 j hj], h'.2.trans h.2⟩

section
variable {h : Heap} {K : Value → Heap → Prop}
theorem isNaN_call {x : Int} (hk : K (.bool false) h) : PCall prog 139 [vI x] h K := by
  refine call_isNaNI (by simp) ?_
  simp [c_isNaNI, BodyK, resVs, resV, retV]
  exact hk
theorem Less_call {x y : Int} (hk : K (.bool (decide (x < y))) h) : PCall prog 117 [vI x, vI y] h K := by
  refine call_LessI (by simp) ?_
  simp [c_LessI]
  refine isNaN_call ?_
  simp [callK_def, BodyK, resVs, resV, retV]
  exact hk

/-- Two numbers, the lesser one first. -/
def srt : List Int → List Int
  | [x, y] => if y < x then [y, x] else [x, y]
  | l => l
theorem srt_len (l : List Int) : (srt l).length = l.length := by
  unfold srt
  split
  · split <;> rfl
  · rfl

theorem ins_call {k ver : Nat} {l : List Int} (hl : l.length ≤ 2) (hr : RowAt vI h k ver l) (hk : ∀ H' u, RowAt vI H' k ver (srt l) → Same h k H' → K u H') :
    PCall prog 111 [.slice (some ⟨k, 0, none⟩) l.length ver, vI 0, vI l.length] h K := by
  refine call_insI (by simp) ?_
  have w1 : IntKind.i64.wrap 1 = 1 := by decide
  have w2 : IntKind.i64.wrap 2 = 2 := by decide
  have w0 : IntKind.i64.wrap 0 = 0 := by decide
  match l, hl, hr, hk with
  | [], _, hr, hk =>
    simp [c_insI, w1]
    refine loop_r (σ := Unit) (fun _ fr h' => h' = h ∧ fr 6 = vI 1 ∧ fr 2 = vI 0) (fun _ => 0) ?_ () ⟨rfl, by simp, by simp⟩
    rintro _ fr h' ⟨rfl, h6, h2⟩
    simp [h6, h2, BodyK, resVs, retV]
    exact hk _ _ hr (.refl _ _)
  | [x], _, hr, hk =>
    simp [c_insI, w1]
    refine loop_r (σ := Unit) (fun _ fr h' => h' = h ∧ fr 6 = vI 1 ∧ fr 2 = vI 1) (fun _ => 0) ?_ () ⟨rfl, by simp, by simp⟩
    rintro _ fr h' ⟨rfl, h6, h2⟩
    simp [h6, h2, BodyK, resVs, retV]
    exact hk _ _ hr (.refl _ _)
  | [x, y], _, hr, hk =>
    simp [c_insI, w1]
    refine loop_r (σ := Bool) (fun b fr h' => fr 0 = .slice (some ⟨k, 0, none⟩) 2 ver ∧ fr 1 = vI 0 ∧ fr 2 = vI 2 ∧ (match b with | false => h' = h ∧ fr 6 = vI 1 | true => Same h k h' ∧ RowAt vI h' k ver (srt [x, y]) ∧ fr 6 = vI 2)) (fun b => if b then 0 else 1) ?_ false ⟨by simp, by simp, by simp, rfl, by simp⟩
    rintro b fr h' ⟨h0, h1, h2, hb⟩
    cases b with
    | true =>
      obtain ⟨q1, q2, q3⟩ := hb
      simp [h2, q3, BodyK, resVs, retV]
      exact hk _ _ q2 q1
    | false =>
      obtain ⟨rfl, h6⟩ := hb
      simp [h0, h1, h2, h6]
      refine loop_r (σ := Bool) (fun b fr h'' => fr 0 = .slice (some ⟨k, 0, none⟩) 2 ver ∧ fr 1 = vI 0 ∧ fr 2 = vI 2 ∧ fr 6 = vI 1 ∧ (match b with | false => h'' = h' ∧ fr 7 = vI 1 | true => srt [x, y] = [y, x] ∧ Same h' k h'' ∧ RowAt vI h'' k ver [y, x] ∧ fr 7 = vI 0)) (fun b => if b then 0 else 1) ?_ false ⟨by simp [h0], by simp [h1], by simp [h2], by simp [h6], rfl, by simp⟩
      clear h0 h1 h2 h6 fr
      rintro b fr h'' ⟨h0, h1, h2, h6, hb⟩
      cases b with
      | true =>
        obtain ⟨q0, q1, q2, q3⟩ := hb
        simp [h0, h1, h2, h6, q3, w2]
        exact .go true (by simp) ⟨by simp [h0], by simp [h1], by simp [h2], q1, by rw [q0]; exact q2, by simp⟩
      | false =>
        obtain ⟨rfl, h7⟩ := hb
        simp [h0, h1, h2, h6, h7, w0, hr.cell]
        refine Less_call ?_
        by_cases hyx : y < x
        · obtain ⟨H1, s1, r1, e1, l1⟩ := hr.store (i := 1) (by simp) (x := x) rfl
          obtain ⟨H2, s2, r2, e2, l2⟩ := r1.store (i := 0) (by simp) (x := y) rfl
          simp [callK_def, h0, h1, h2, h6, h7, w0, hr.cell, hyx, s1, s2]
          exact .go true (by simp) ⟨by simp [h0], by simp [h1], by simp [h2], by simp [h6], by simp [srt, hyx], Same.trans ⟨e1, l1⟩ ⟨e2, l2⟩, r2, by simp⟩
        · simp [callK_def, h0, h1, h2, h6, h7, w0, hr.cell, hyx, w2]
          exact .go true (by simp) ⟨by simp [h0], by simp [h1], by simp [h2], .refl _ _, by simpa [srt, hyx] using hr, by simp⟩
theorem pdq_call {k ver : Nat} {n : Int} {l : List Int} (hl : l.length ≤ 2) (hr : RowAt vI h k ver l) (hk : ∀ H' u, RowAt vI H' k ver (srt l) → Same h k H' → K u H') :
    PCall prog 102 [.slice (some ⟨k, 0, none⟩) l.length ver, vI 0, vI l.length, vI n] h K := by
  refine call_pdqI (by simp) ?_
  have w : IntKind.i64.wrap (l.length : Int) = l.length := wrap_i64 (by omega) (by omega)
  have h12 : (l.length : Int) ≤ 12 := by omega
  simp [c_pdqI]
  refine loop_r (σ := Unit) (fun _ fr h' => h' = h ∧ fr 0 = .slice (some ⟨k, 0, none⟩) l.length ver ∧ fr 1 = vI 0 ∧ fr 2 = vI l.length) (fun _ => 0) ?_ () ⟨rfl, by simp, by simp, by simp⟩
  rintro _ fr h' ⟨rfl, h0, h1, h2⟩
  simp [h0, h1, h2, w, h12]
  refine ins_call hl hr fun H' u r1 r2 => ?_
  simp [callK_def, BodyK, resVs, retV]
  exact hk _ _ r1 r2
theorem len8_at {n : Nat} (hn : n < 256) : ∃ b : UInt8, len8tab[n]? = some b := by
  have hs : len8tab.size = 256 := by decide +kernel
  exact ⟨_, getElem?_pos len8tab n (by rw [hs]; exact hn)⟩
theorem len64_call {n : Nat} (hn : n ≤ 255) (hk : ∀ m : Int, K (vI m) h) : PCall prog 121 [vU n] h K := by
  refine call_Len64 (by simp) ?_
  have h1 : ¬ (4294967296 : Int) ≤ n := by omega
  have h2 : ¬ (65536 : Int) ≤ n := by omega
  have h3 : ¬ (256 : Int) ≤ n := by omega
  have w8 : IntKind.u8.wrap (n : Int) = (n : Int) := wrap_u8 (by omega) (by omega)
  simp [c_Len64, h1, h2, h3, w8]
  obtain ⟨b, hb⟩ := len8_at (n := n) (by omega)
  simp [hb, BodyK, resVs, resV, retV]
  exact hk _
theorem Sort_call {k ver : Nat} {l : List Int} (hl : l.length ≤ 2) (hr : RowAt vI h k ver l) (hk : ∀ H' u, RowAt vI H' k ver (srt l) → Same h k H' → K u H') :
    PCall prog 80 [.slice (some ⟨k, 0, none⟩) l.length ver] h K := by
  refine call_SortI (by simp) ?_
  have w : IntKind.u64.wrap (l.length : Int) = (l.length : Int) := wrap_u64 (by omega) (by omega)
  simp [c_SortI, w]
  have hcall : ∀ K : Value → Heap → Prop, (∀ m : Int, K (vI m) h) → PCall prog 103 [vU l.length] h K := by
    intro K hK
    refine call_LenU (by simp) ?_
    simp [c_LenU]
    refine len64_call (by omega) fun m => ?_
    simp [callK_def, BodyK, resVs, resV, retV]
    exact hK m
  refine hcall _ fun m => ?_
  simp [callK_def]
  refine pdq_call hl hr fun H' u r1 r2 => ?_
  simp [callK_def, BodyK, resVs, retV]
  exact hk _ _ r1 r2

/-- Like ones behind each other but once. -/
def cmpct : List Int → List Int
  | [x, y] => if x = y then [x] else [x, y]
  | l => l
theorem Compact_call {k ver : Nat} {l : List Int} (h0 : 0 < l.length) (hl : l.length ≤ 2) (hr : RowAt vI h k ver l) (hk : ∀ (H' : Heap) (l' : List Int), RowAt vI H' k ver l' → Same h k H' → l'.take (cmpct l).length = cmpct l → (cmpct l).length ≤ l'.length → K (.slice (some ⟨k, 0, none⟩) (cmpct l).length ver) H') :
    PCall prog 81 [.slice (some ⟨k, 0, none⟩) l.length ver] h K := by
  refine call_CompactI (by simp) ?_
  have w0 : IntKind.i64.wrap 0 = 0 := by decide
  have w2 : IntKind.i64.wrap 2 = 2 := by decide
  match l, h0, hl, hr, hk with
  | [x], _, _, hr, hk =>
    simp [c_CompactI, BodyK, resVs, resV, retV]
    exact hk _ _ hr (.refl _ _) rfl (Nat.le_refl _)
  | [x, y], _, _, hr, hk =>
    simp [c_CompactI]
    refine loop_r (σ := Bool) (fun b fr h' => h' = h ∧ fr 0 = .slice (some ⟨k, 0, none⟩) 2 ver ∧ (if b then cmpct [x, y] = [x, y] ∧ fr 3 = vI 2 else fr 3 = vI 1)) (fun b => if b then 0 else 1) ?_ false ⟨rfl, by simp, by simp⟩
    rintro b fr h' ⟨rfl, h0, hb⟩
    cases b with
    | true =>
      obtain ⟨q1, q2⟩ := hb
      simp [h0, q2, BodyK, resVs, resV, retV]
      rw [q1] at hk
      exact hk _ _ hr (.refl _ _) rfl (Nat.le_refl _)
    | false =>
      have h3 : fr 3 = vI 1 := by simpa using hb
      by_cases hxy : x = y
      · subst hxy
        simp [h0, h3, w0, hr.cell, pCut_own]
        have hr2 : h'.row? k ver = some ⟨[x, x].map vI, 1, ver, true⟩ := by simp only [RowAt] at hr; simp [Heap.row?, hr]
        simp [hr2]
        refine loop_r (σ := Unit) (fun _ fr h'' => h'' = h' ∧ fr 0 = .slice (some ⟨k, 0, none⟩) 2 ver ∧ fr 3 = vI 1 ∧ fr 5 = vI 1 ∧ fr 4 = .slice (some ⟨k, 1, none⟩) 1 ver) (fun _ => 0) ?_ () ⟨rfl, by simp [h0], by simp [h3], by simp, by simp⟩
        clear h0 h3 hb fr
        rintro _ fr h'' ⟨rfl, h0, h3, h5, h4⟩
        obtain ⟨H2, hst, r2, s2⟩ : ∃ H2, clearV h'' [.int .i64 0] (.slice (some ⟨k, 1, none⟩) 1 ver) = some H2 ∧ RowAt vI H2 k ver [x, 0] ∧ Same h'' k H2 :=
          ⟨h''.set k (.row ⟨[x, 0].map vI, 1, ver, true⟩), by simp [clearV, hr2, rep], by simp [RowAt, hr.lt], fun j hj => by rw [List.getElem?_set_ne (Ne.symm hj)], by simp⟩
        have hr3 : H2.row? k ver = some ⟨[x, 0].map vI, 1, ver, true⟩ := by simp only [RowAt] at r2; simp [Heap.row?, r2]
        have e : cmpct [x, x] = [x] := by simp [cmpct]
        rw [e] at hk
        simp [h0, h3, h4, h5, pCut_own, hr2, hst, hr3, BodyK, resVs, resV, retV]
        exact hk H2 [x, 0] r2 s2 rfl (by simp)
      · have hyx : ¬ y = x := fun e => hxy e.symm
        simp [h0, h3, w0, w2, hr.cell, hyx]
        exact .go true (by simp) ⟨rfl, by simp [h0], by simp [cmpct, hxy]⟩
end
end Pm
