/- The run of a program: its states as cells.
   No condition: plain lemmas. -/

import Derived.Test.YtmdnkninbkcmkaaZFPmOwn
import Derived.Test.YtmdnkninbkcmkaaZFPmRun2
namespace Pm
set_option linter.unusedSimpArgs false
set_option linter.unusedVariables false
open Go Am

/-- What stands in the rows of a state, by numbers. -/
def want (s : MS) (v : Nat → Value) (j : Nat) : List Value :=
  if j = 0 then s.at_.map vI else if j = 1 then s.g.began.map vI else if j = 2 then (List.range s.r.length).map (fun k => v (16 + 2 * k)) else if j = 3 then s.g.vars.map vI else if j = 4 then s.g.atoms.map vI
  else if j = 5 then s.g.locks.map vI else if j = 6 then (List.range s.g.queue.length).map (fun k => v (17 + 2 * k)) else if j = 7 then s.g.closed.map vI else if j = 8 then s.g.groups.map vI else if j = 9 then s.g.onces.map vI
  else if j = 10 then s.g.told.map vI else if j < 16 then [] else if j % 2 = 0 then (s.r[(j - 16) / 2]?.getD []).map vI else (s.g.queue[(j - 17) / 2]?.getD []).map vI
section
variable {s : MS} {v : Nat → Value}
theorem want_0 : want s v 0 = s.at_.map vI := rfl
theorem want_1 : want s v 1 = s.g.began.map vI := rfl
theorem want_2 : want s v 2 = (List.range s.r.length).map (fun k => v (16 + 2 * k)) := rfl
theorem want_3 : want s v 3 = s.g.vars.map vI := rfl
theorem want_4 : want s v 4 = s.g.atoms.map vI := rfl
theorem want_5 : want s v 5 = s.g.locks.map vI := rfl
theorem want_6 : want s v 6 = (List.range s.g.queue.length).map (fun k => v (17 + 2 * k)) := rfl
theorem want_7 : want s v 7 = s.g.closed.map vI := rfl
theorem want_8 : want s v 8 = s.g.groups.map vI := rfl
theorem want_9 : want s v 9 = s.g.onces.map vI := rfl
theorem want_10 : want s v 10 = s.g.told.map vI := rfl
theorem want_r (k : Nat) : want s v (16 + 2 * k) = (s.r[k]?.getD []).map vI := by
  unfold want
  rw [if_neg (by omega), if_neg (by omega), if_neg (by omega), if_neg (by omega), if_neg (by omega), if_neg (by omega), if_neg (by omega), if_neg (by omega), if_neg (by omega), if_neg (by omega), if_neg (by omega), if_neg (by omega), if_pos (by omega), show (16 + 2 * k - 16) / 2 = k by omega]
theorem want_q (k : Nat) : want s v (17 + 2 * k) = (s.g.queue[k]?.getD []).map vI := by
  unfold want
  rw [if_neg (by omega), if_neg (by omega), if_neg (by omega), if_neg (by omega), if_neg (by omega), if_neg (by omega), if_neg (by omega), if_neg (by omega), if_neg (by omega), if_neg (by omega), if_neg (by omega), if_neg (by omega), if_neg (by omega), show (17 + 2 * k - 17) / 2 = k by omega]
theorem ix (j : Nat) : j < 16 ∨ (∃ k, j = 16 + 2 * k) ∨ ∃ k, j = 17 + 2 * k := by
  rcases Nat.lt_or_ge j 16 with h | h
  · exact .inl h
  · by_cases h2 : j % 2 = 0
    · exact .inr (.inl ⟨(j - 16) / 2, by omega⟩)
    · exact .inr (.inr ⟨(j - 17) / 2, by omega⟩)
theorem small16 {j : Nat} (h : j < 16) : j = 0 ∨ j = 1 ∨ j = 2 ∨ j = 3 ∨ j = 4 ∨ j = 5 ∨ j = 6 ∨ j = 7 ∨ j = 8 ∨ j = 9 ∨ j = 10 ∨ j = 11 ∨ j = 12 ∨ j = 13 ∨ j = 14 ∨ j = 15 := by omega
theorem fset_want {s' : MS} {v v' : Nat → Value} {j : Nat} {l : List Value} (h1 : l = want s' v' j) (h2 : ∀ i, i ≠ j → want s v i = want s' v' i) : fset (want s v) j l = want s' v' := by
  funext i
  by_cases h : i = j
  · subst h; rw [fset_same, h1]
  · rw [fset_ne h, h2 i h]
theorem map_vI_set (l : List Int) (i : Nat) (x : Int) : (l.map vI).set i (vI x) = (l.set i x).map vI := by rw [List.map_set]
theorem up_at (i : Nat) (x : Int) : fset (want s v) 0 ((want s v 0).set i (vI x)) = want { s with at_ := s.at_.set i x } v := fset_want (map_vI_set _ _ _) fun j hj => by unfold want; rw [if_neg hj, if_neg hj]
theorem up_1 (i : Nat) (x : Int) : fset (want s v) 1 ((want s v 1).set i (vI x)) = want { s with g := { s.g with began := s.g.began.set i x } } v := fset_want (map_vI_set _ _ _) fun j hj => by unfold want; rw [if_neg hj, if_neg hj]
theorem up_3 (i : Nat) (x : Int) : fset (want s v) 3 ((want s v 3).set i (vI x)) = want { s with g := { s.g with vars := s.g.vars.set i x } } v := fset_want (map_vI_set _ _ _) fun j hj => by unfold want; rw [if_neg hj, if_neg hj]
theorem up_4 (i : Nat) (x : Int) : fset (want s v) 4 ((want s v 4).set i (vI x)) = want { s with g := { s.g with atoms := s.g.atoms.set i x } } v := fset_want (map_vI_set _ _ _) fun j hj => by unfold want; rw [if_neg hj, if_neg hj]
theorem up_5 (i : Nat) (x : Int) : fset (want s v) 5 ((want s v 5).set i (vI x)) = want { s with g := { s.g with locks := s.g.locks.set i x } } v := fset_want (map_vI_set _ _ _) fun j hj => by unfold want; rw [if_neg hj, if_neg hj]
theorem up_7 (i : Nat) (x : Int) : fset (want s v) 7 ((want s v 7).set i (vI x)) = want { s with g := { s.g with closed := s.g.closed.set i x } } v := fset_want (map_vI_set _ _ _) fun j hj => by unfold want; rw [if_neg hj, if_neg hj]
theorem up_8 (i : Nat) (x : Int) : fset (want s v) 8 ((want s v 8).set i (vI x)) = want { s with g := { s.g with groups := s.g.groups.set i x } } v := fset_want (map_vI_set _ _ _) fun j hj => by unfold want; rw [if_neg hj, if_neg hj]
theorem up_9 (i : Nat) (x : Int) : fset (want s v) 9 ((want s v 9).set i (vI x)) = want { s with g := { s.g with onces := s.g.onces.set i x } } v := fset_want (map_vI_set _ _ _) fun j hj => by unfold want; rw [if_neg hj, if_neg hj]
theorem up_told (x : Int) (w : Value) : fset (want s v) 10 (want s v 10 ++ [vI x]) = want { s with g := { s.g with told := s.g.told ++ [x] } } (fset v 10 w) := by
  refine fset_want (by rw [want_10, want_10, List.map_append]; rfl) fun j hj => ?_
  have e1 : ∀ k : Nat, fset v 10 w (16 + 2 * k) = v (16 + 2 * k) := fun k => fset_ne (by omega)
  have e2 : ∀ k : Nat, fset v 10 w (17 + 2 * k) = v (17 + 2 * k) := fun k => fset_ne (by omega)
  rcases ix j with h | ⟨m, rfl⟩ | ⟨m, rfl⟩
  · rcases small16 h with rfl | rfl | rfl | rfl | rfl | rfl | rfl | rfl | rfl | rfl | rfl | rfl | rfl | rfl | rfl | rfl
    all_goals first
      | rfl
      | exact absurd rfl hj
      | (simp only [want_2, want_6, e1, e2])
  · rw [want_r, want_r]
  · rw [want_q, want_q]
theorem up_r {k : Nat} {r : List Int} (hr : s.r[k]? = some r) (i : Nat) (x : Int) : fset (want s v) (16 + 2 * k) ((want s v (16 + 2 * k)).set i (vI x)) = want { s with r := s.r.set k (r.set i x) } v := by
  have hk := (List.getElem?_eq_some_iff.1 hr).1
  refine fset_want ?_ fun j hj => ?_
  · rw [want_r, want_r, hr, Option.getD_some, map_vI_set]
    simp only
    rw [List.getElem?_set_self hk, Option.getD_some]
  · rcases ix j with h | ⟨m, rfl⟩ | ⟨m, rfl⟩
    · rcases small16 h with rfl | rfl | rfl | rfl | rfl | rfl | rfl | rfl | rfl | rfl | rfl | rfl | rfl | rfl | rfl | rfl
      all_goals first
        | rfl
        | (simp only [want_2, List.length_set])
    · rw [want_r, want_r]
      simp only
      rw [List.getElem?_set_ne (by omega)]
    · rw [want_q, want_q]
theorem up_q {A : Nat} {q : List Int} (hq : s.g.queue[A]? = some q) (x : Int) (w : Value) :
    fset (fset (want s v) (17 + 2 * A) (want s v (17 + 2 * A) ++ [vI x])) 6 ((want s v 6).set A w) = want { s with g := { s.g with queue := s.g.queue.set A (q ++ [x]) } } (fset v (17 + 2 * A) w) := by
  have hA := (List.getElem?_eq_some_iff.1 hq).1
  funext j
  by_cases h6 : j = 6
  · subst h6
    rw [fset_same, want_6, want_6]
    simp only [List.length_set]
    apply List.ext_getElem?
    intro i
    rw [List.getElem?_set]
    by_cases hi : A = i
    · subst hi
      simp [hA, fset_same]
    · rw [if_neg hi]
      by_cases hlt : i < s.g.queue.length
      · simp [hlt]
        rw [fset_ne (by omega)]
      · rw [List.getElem?_eq_none (by simp; omega), List.getElem?_eq_none (by simp; omega)]
  · rw [fset_ne h6]
    by_cases hj : j = 17 + 2 * A
    · subst hj
      rw [fset_same, want_q, want_q, hq]
      simp only
      rw [List.getElem?_set_self hA]
      simp
    · rw [fset_ne hj]
      rcases ix j with h | ⟨m, rfl⟩ | ⟨m, rfl⟩
      · have e1 : ∀ k : Nat, fset v (17 + 2 * A) w (16 + 2 * k) = v (16 + 2 * k) := fun k => fset_ne (by omega)
        rcases small16 h with rfl | rfl | rfl | rfl | rfl | rfl | rfl | rfl | rfl | rfl | rfl | rfl | rfl | rfl | rfl | rfl
        all_goals first
          | rfl
          | exact absurd rfl h6
          | (simp only [want_2, e1])
      · rw [want_r, want_r]
      · rw [want_q, want_q]
        simp only
        rw [List.getElem?_set_ne (by omega)]
end
/-- A state's cells: of rows of one's own, and as a value. -/
def cS (p : Prog) (s : MS) (v : Nat → Value) : List Value := vProg p ++ [v 0, v 1, v 2, v 3, v 4, v 5, v 6, v 7, v 8, v 9, v 10, vI s.g.trap]
def vSt (p : Prog) (s : MS) : List Value := vProg p ++ [vL vI s.at_, vL vI s.g.began, vL (vL vI) s.r, vL vI s.g.vars, vL vI s.g.atoms, vL vI s.g.locks, vL (vL vI) s.g.queue, vL vI s.g.closed, vL vI s.g.groups, vL vI s.g.onces, vL vI s.g.told, vI s.g.trap]
section
variable {p : Prog} {s : MS} {v : Nat → Value}
theorem cS_len : (cS p s v).length = 19 := rfl
theorem cS_take : List.take 19 (cS p s v) = cS p s v := rfl
theorem Owns.like {b : Nat} {H : Heap} {c : Nat → List Value} (h : Owns b H v c) (j : Nat) : cellLike (v j) = true := by
  rcases h.acc j with ⟨h1, _⟩ | ⟨id, ver, h1, _⟩ <;> rw [h1] <;> rfl
theorem cS_like (h : ∀ j, cellLike (v j) = true) : (cS p s v).all cellLike = true := by
  unfold cS
  rw [List.all_append]
  simp only [List.all_cons, List.all_nil, h, Bool.and_true, Bool.true_and]
  rfl
theorem cS_of (h : ∀ j, cellLike (v j) = true) : cellsOf (.agg (cS p s v).toArray) = some (cS p s v) := by
  unfold cellsOf
  simp only
  rw [if_pos]
  have : (cS p s v).all cellLike = true := by
    unfold cS
    rw [List.all_append]
    simp only [List.all_cons, List.all_nil, h, Bool.and_true, Bool.true_and]
    rfl
  simpa using this
theorem cS_q {A : Nat} {w : Value} : cS p s (fset v (17 + 2 * A) w) = cS p s v := by
  unfold cS
  rw [fset_ne (by omega), fset_ne (by omega), fset_ne (by omega), fset_ne (by omega), fset_ne (by omega), fset_ne (by omega), fset_ne (by omega), fset_ne (by omega), fset_ne (by omega), fset_ne (by omega), fset_ne (by omega)]
/-- A state of rows of one's own is the state, as a value. -/
theorem inlQ {b : Nat} {H : Heap} {c : Nat → List Value} {s : MS} (h : Owns b H v c) (hw : ∀ j, j ≠ 6 → j % 2 = 0 ∨ j < 16 → c j = want s v j) (hl : (c 6).length = s.g.queue.length) (hq : ∀ (i : Nat) (x : Value) (y : List Int), (c 6)[i]? = some x → s.g.queue[i]? = some y → Inl b H x (vL vI y)) :
    Inl b H (.agg (cS p s v).toArray) (.agg (vSt p s).toArray) := by
  have hr : Inl b H (v 2) (vL (vL vI) s.r) := by
    refine h.inls 2 (by rw [hw 2 (by omega) (by omega), want_2]; simp) fun i x y hx hy => ?_
    rw [hw 2 (by omega) (by omega), want_2, List.getElem?_map] at hx
    obtain ⟨k, hk, rfl⟩ := Option.map_eq_some_iff.1 hx
    have hki : k = i := by
      have := (List.getElem?_eq_some_iff.1 hk)
      obtain ⟨h1, h2⟩ := this
      rw [List.getElem_range] at h2
      exact h2.symm
    subst hki
    exact h.inl _ (by rw [hw _ (by omega) (by omega), want_r, hy]; rfl)
  refine Inls.agg (xs := cS p s v) (ys := vSt p s) ?_
  exact ⟨.cell rfl, .cell rfl, .cell rfl, .cell rfl, .cell rfl, .cell rfl, .cell rfl, h.inl 0 (hw 0 (by omega) (by omega)), h.inl 1 (hw 1 (by omega) (by omega)), hr, h.inl 3 (hw 3 (by omega) (by omega)), h.inl 4 (hw 4 (by omega) (by omega)), h.inl 5 (hw 5 (by omega) (by omega)),
    h.inls 6 hl hq, h.inl 7 (hw 7 (by omega) (by omega)), h.inl 8 (hw 8 (by omega) (by omega)), h.inl 9 (hw 9 (by omega) (by omega)), h.inl 10 (hw 10 (by omega) (by omega)), .cell rfl, trivial⟩
theorem inlS {b : Nat} {H : Heap} {s : MS} (h : Owns b H v (want s v)) : Inl b H (.agg (cS p s v).toArray) (.agg (vSt p s).toArray) := by
  refine inlQ h (fun j _ _ => rfl) (by rw [want_6]; simp) fun i x y hx hy => ?_
  rw [want_6, List.getElem?_map] at hx
  obtain ⟨k, hk, rfl⟩ := Option.map_eq_some_iff.1 hx
  have hki : k = i := by
    obtain ⟨h1, h2⟩ := List.getElem?_eq_some_iff.1 hk
    rw [List.getElem_range] at h2
    exact h2.symm
  subst hki
  exact h.inl _ (by rw [want_q, hy]; rfl)
theorem vSt_len : (vSt p s).length = 19 := rfl
theorem vSt_take : List.take 19 (vSt p s) = vSt p s := rfl
theorem vSt_of : cellsOf (.agg (vSt p s).toArray) = some (vSt p s) := rfl
theorem vSt_closed : (vSt p s).all closedC = true := rfl
end
end Pm
