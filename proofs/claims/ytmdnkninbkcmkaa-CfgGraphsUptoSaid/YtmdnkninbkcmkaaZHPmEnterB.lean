/- What comes in where the reading is small: rows of numbers, and how long they are.
   No condition: plain lemmas. -/
import Derived.Test.YtmdnkninbkcmkaaZHPmLaw
import Derived.Test.YtmdnkninbkcmkaaRows
namespace Pm
set_option linter.unusedSimpArgs false
set_option linter.unusedVariables false
open Go Am
open Go.Proofs.Ytmdnkninbkcmkaa.Rows (uptoBulk uptoBulkAll)

theorem bulk_one {D : Type} (d : DataW D) : 1 ≤ uptoBulk d := by
  cases d with
  | lit l => cases l <;> simp [uptoBulk]
  | nil => simp [uptoBulk]
  | ptr d => simp [uptoBulk]
  | slice elems spare => simp [uptoBulk]
  | agg parts => simp [uptoBulk]
  | iface t d => simp [uptoBulk]
  | map entries => simp [uptoBulk]
  | held h => simp [uptoBulk]
theorem bulk_part {D : Type} {d : DataW D} {l : List (DataW D)} (h : d ∈ l) : uptoBulk d ≤ uptoBulkAll l := by
  induction l with
  | nil => cases h
  | cons x r ih =>
    simp only [uptoBulkAll]
    cases List.mem_cons.1 h with
    | inl e => subst e; omega
    | inr e => have := ih e; omega
theorem bulk_len {D : Type} (l : List (DataW D)) : l.length ≤ uptoBulkAll l := by
  induction l with
  | nil => simp [uptoBulkAll]
  | cons x r ih => have := bulk_one x; simp only [uptoBulkAll, List.length_cons]; omega

def FitsB (B : Nat) : Sh → List Value → Prop
  | .nil, cs => cs = []
  | .int k t, cs => ∃ n cs', cs = .int k n :: cs' ∧ (Lit.int k n).wf = true ∧ FitsB B t cs'
  | .sl e t, cs => ∃ (xs : List (List Value)) (cs' : List Value), cs = lst e.size xs.length xs.flatten :: cs' ∧ xs.length ≤ B ∧ (∀ x ∈ xs, FitsB B e x) ∧ FitsB B t cs'
  | _, _ => False
theorem FitsB.fits {B : Nat} (hB : B ≤ maxLen) : ∀ {s : Sh} {cs : List Value}, FitsB B s cs → Fits s cs
  | .nil, _, h => h
  | .int _ _, _, ⟨n, cs', e, hw, h⟩ => ⟨n, cs', e, hw, h.fits hB⟩
  | .sl _ _, _, ⟨xs, cs', e, h1, h2, h⟩ => ⟨xs, cs', e, Nat.le_trans h1 hB, fun x hx => (h2 x hx).fits hB, h.fits hB⟩
  | .bool _, _, h => h.elim
  | .string _, _, h => h.elim
def shI (P : Program) : Nat → TypeId → Option Sh
  | 0, _ => none
  | f + 1, t =>
    match P.underlying t with
    | some (.int k) => some (.int k .nil)
    | some (.slice e) => match shI P f e with
      | some s => if s.size = P.cellsOf e ∧ 0 < s.size then some (.sl s .nil) else none
      | none => none
    | _ => none
def ComesB (B : Nat) (P : Program) (w : World) (s : Sh) (cs : List Value) : Prop :=
  ∀ (m : Mu) (H : Heap), Came m H w → ∃ m' ext acs pcs, Came m' (H ++ ext) w ∧ MExt m m' ∧ In m' (H ++ ext) w cs acs pcs ∧ FitsB B s pcs
theorem comesB_rows {B : Nat} {P : Program} {w : World} {s : Sh} : ∀ (css : List (List Value)), (∀ cs ∈ css, ComesB B P w s cs) → ∀ (m : Mu) (H : Heap), Came m H w →
    ∃ (m' : Mu) (ext : Heap) (acs : List Value) (pss : List (List Value)), Came m' (H ++ ext) w ∧ MExt m m' ∧ In m' (H ++ ext) w css.flatten acs pss.flatten ∧ pss.length = css.length ∧ ∀ ps ∈ pss, FitsB B s ps
  | [], _, m, H, hc => ⟨m, [], [], [], by simpa using hc, .refl m, .nil, rfl, fun ps h => by simp at h⟩
  | cs :: css, h, m, H, hc => by
    obtain ⟨m1, e1, a1, p1, c1, x1, i1, f1⟩ := h cs (by simp) m H hc
    obtain ⟨m2, e2, a2, p2, c2, x2, i2, l2, f2⟩ := comesB_rows css (fun x hx => h x (by simp [hx])) m1 _ c1
    refine ⟨m2, e1 ++ e2, a1 ++ a2, p1 :: p2, by rw [← List.append_assoc]; exact c2, x1.trans x2, ?_, by simp [l2], fun ps hp => ?_⟩
    · rw [← List.append_assoc]
      exact (i1.mono x2).app i2
    · rcases List.mem_cons.1 hp with rfl | hp
      · exact f1
      · exact f2 ps hp
section
variable {D : Type} {enc : TypeId × Value → D} {P : Program} {w : World} {B : Nat}
theorem comesB_of (hB : B ≤ maxLen) : ∀ (f : Nat) {t : TypeId} {s : Sh} {fuel : Nat} {cs : List Value} {x : DataW D × List MemPlace}, shI P f t = some s → DataW.trod enc P w 0 (fun _ => true) true fuel t cs = some x → uptoBulk x.1 ≤ B → ComesB B P w s cs
  | 0, _, _, _, _, _, h, _, _ => by cases h
  | f + 1, t, s, fuel, cs, x, h, hd, hx => by
    unfold shI at h
    split at h
    · rename_i k hu
      cases h
      obtain ⟨n, rfl, _, hw⟩ := DataW.trod_int hu hd
      exact fun m H hc => ⟨m, [], [.int k n], [.int k n], by simpa using hc, .refl m, ⟨.cons (.int _ _) .nil, fun v hv => by simp at hv; subst hv; rfl, .cons (.int _ _) .nil⟩, n, [], rfl, hw, rfl⟩
    · rename_i e hu
      split at h
      · rename_i se hse
        split at h
        · rename_i hsz
          cases h
          intro m H hc
          rcases DataW.trod_slice hu hd with ⟨rfl, _⟩ | ⟨a, len, cap, elems, rest, n, _, rfl, hxe, _, hl, hm, hel1, hel, hsp, _⟩
          · exact ⟨m, [], [.slice none 0 0], [lst se.size 0 []], by simpa using hc, .refl m, ⟨.cons (.sliceNil _) .nil, fun v hv => by simp at hv; subst hv; rfl, .cons .lstNil .nil⟩, [], [], rfl, by simp, fun x h => by simp at h, rfl⟩
          · obtain ⟨hrl, hr⟩ := hsp rfl
            have hbk : uptoBulkAll (elems.map (·.1)) + uptoBulkAll (rest.map (·.1)) + 1 ≤ B := by rw [hxe] at hx; simpa [uptoBulk] using hx
            have hlB : len ≤ B := by
              have := bulk_len (elems.map (·.1))
              rw [List.length_map] at this
              omega
            have each : ∀ i, i < cap → ∃ cs, w.cells? 0 (a.add (i * se.size)) se.size = some cs ∧ ComesB B P w se cs := by
              intro i hi
              rw [hsz.1]
              have : ∃ y, (w.cells? 0 (a.add (i * P.cellsOf e)) (P.cellsOf e)).bind (DataW.trod enc P w 0 (fun _ => true) true n e) = some y ∧ uptoBulk y.1 ≤ B := by
                by_cases h1 : i < len
                · rw [hel i h1]
                  have hy : elems[i]? = some (elems[i]'(by omega)) := List.getElem?_eq_getElem _
                  refine ⟨_, hy, ?_⟩
                  have := bulk_part (List.mem_map.2 ⟨_, List.mem_of_getElem? hy, rfl⟩ : _ ∈ elems.map (·.1))
                  omega
                · have := hr (i - len) (by omega)
                  rw [show len + (i - len) = i by omega] at this
                  rw [this]
                  have hy : rest[i - len]? = some (rest[i - len]'(by omega)) := List.getElem?_eq_getElem _
                  refine ⟨_, hy, ?_⟩
                  have := bulk_part (List.mem_map.2 ⟨_, List.mem_of_getElem? hy, rfl⟩ : _ ∈ rest.map (·.1))
                  omega
              obtain ⟨y, hy, hyB⟩ := this
              obtain ⟨cs, h1, h2⟩ := Option.bind_eq_some_iff.1 hy
              exact ⟨cs, h1, comesB_of hB f hse h2 hyB⟩
            have rows : ∀ k, k ≤ cap → ∃ css : List (List Value), css.length = k ∧ (∀ cs ∈ css, ComesB B P w se cs) ∧ css.flatten.length = k * se.size ∧ ∀ j c, css.flatten[j]? = some c → w.cell? (a.add j) = some c := by
              intro k
              induction k with
              | zero => intro _; exact ⟨[], rfl, fun cs h => by simp at h, by simp, fun j c h => by simp at h⟩
              | succ k ih =>
                intro hk
                obtain ⟨css, h1, h2, h3, h4⟩ := ih (by omega)
                obtain ⟨cs, h5, h6⟩ := each k (by omega)
                obtain ⟨q1, q2, q3⟩ := World.cells?_some h5
                refine ⟨css ++ [cs], by simp [h1], fun x hx => ?_, by simp [h3, q2, Nat.succ_mul], fun j c hj => ?_⟩
                · rcases List.mem_append.1 hx with hx | hx
                  · exact h2 x hx
                  · rw [List.mem_singleton.1 hx]; exact h6
                · simp only [List.flatten_append, List.flatten_cons, List.flatten_nil, List.append_nil] at hj
                  by_cases hlt : j < css.flatten.length
                  · rw [List.getElem?_append_left hlt] at hj; exact h4 j c hj
                  · rw [List.getElem?_append_right (by omega)] at hj
                    have hjl := (List.getElem?_eq_some_iff.1 hj).1
                    have := q3 (j - css.flatten.length) (by omega)
                    rw [addr_add2, show k * se.size + (j - css.flatten.length) = j by omega] at this
                    rw [this, hj]
            obtain ⟨css, h1, h2, h3, h4⟩ := rows cap (Nat.le_refl _)
            by_cases h0 : cap = 0
            · have hl0 : len = 0 := by omega
              subst h0; subst hl0
              exact ⟨m, [], [.slice none 0 0], [lst se.size 0 []], by simpa using hc, .refl m, ⟨.cons (.sliceNil _) .nil, fun v hv => by simp at hv; subst hv; rfl, .cons .lstNil .nil⟩, [], [], rfl, by simp, fun x h => by simp at h, rfl⟩
            · obtain ⟨m1, e1, acs, pss, c1, x1, i1, l1, f1⟩ := comesB_rows css h2 m H hc
              have f1' : ∀ ps ∈ pss, Fits se ps := fun ps h => (f1 ps h).fits hB
              have hal : acs.length = cap * se.size := by rw [i1.rel.length, h3]
              have hpos : 0 < cap * se.size := Nat.mul_pos (by omega) hsz.2
              obtain ⟨hsp', m2, c2, x2, hput⟩ := c1.row (x := a) (vs := acs) (by intro e; rw [e] at hal; simp at hal; omega) i1.rel i1.one h4 se.size
              obtain ⟨blk, off, sp⟩ := a
              simp only at hsp'
              subst hsp'
              refine ⟨m2, e1 ++ [.row ⟨acs, se.size, 0, false⟩], [.slice (some ⟨(H ++ e1).length, 0, none⟩) len 0], [lst se.size len (pss.take len).flatten], by rw [← List.append_assoc]; exact c2, x1.trans x2, ⟨.cons ?_ .nil, fun v hv => by simp at hv; subst hv; rfl, .cons ?_ .nil⟩, pss.take len, [], ?_, ?_, fun x hx => f1 x (List.mem_of_mem_take hx), rfl⟩
              · have := VRel.slice (off := 0) (cap := cap) (len := len) hput hl (by simp only [Nat.zero_add]; rw [hal]; exact Nat.le_refl _)
                simpa using this
              · refine .lst (r := ⟨acs, se.size, 0, false⟩) ?_ (fun h => h) rfl ?_ ?_ fun j c v hj hv => ?_
                · rw [← List.append_assoc]; simp [Heap.row?]
                · rw [flatten_len fun x hx => f1' x (List.mem_of_mem_take hx)]
                  simp only [List.length_take]
                  rw [l1, h1, Nat.min_eq_left hl]
                · simp only [Nat.zero_add]; rw [hal]; exact Nat.mul_le_mul_right _ hl
                · simp only [Nat.zero_add] at hv
                  rw [flatten_take f1', List.getElem?_take] at hj
                  split at hj
                  · exact (i1.pm.get j c v hj hv).mono (by rw [← List.append_assoc]; exact Stp.app) (.refl _)
                  · cases hj
              · simp only [List.length_take]; rw [l1, h1, Nat.min_eq_left hl]
              · simp only [List.length_take]; omega
        · cases h
      · cases h
    · cases h
end
theorem decB_intss {B : Nat} (hB : B ≤ maxLen) (v : List Value) (hf : FitsB B (.sl (.sl (.int .i64 .nil) .nil) .nil) v) : ∃ y : List (List Int), v = [vL (vL vI) y] ∧ y.length ≤ B ∧ ∀ l ∈ y, l.length ≤ B := by
  obtain ⟨y, hy, _⟩ := dec_intss _ (hf.fits hB)
  refine ⟨y, hy, ?_⟩
  obtain ⟨xs, cs', e, h1, h2, h3⟩ := hf
  rw [e] at hy
  have e1 := (List.cons.inj hy).1
  have e2 := congrArg asLst e1
  unfold vL at e2
  rw [asLst_lst, asLst_lst] at e2
  injection e2 with e2
  have e3 := (Prod.mk.inj (Prod.mk.inj e2).2)
  refine ⟨by omega, fun l hl => ?_⟩
  have hm : lst 1 l.length (l.map vI) ∈ xs.flatten := by rw [e3.2]; exact List.mem_map.2 ⟨l, hl, rfl⟩
  obtain ⟨x, hx, hxm⟩ := List.mem_flatten.1 hm
  obtain ⟨zs, cz, ez, k1, k2, k3⟩ := h2 x hx
  have hcz : cz = [] := k3
  rw [ez, hcz] at hxm
  have e4 := congrArg asLst (List.mem_singleton.1 hxm)
  rw [asLst_lst, asLst_lst] at e4
  injection e4 with e4
  have := (Prod.mk.inj (Prod.mk.inj e4).2).1
  omega
end Pm
