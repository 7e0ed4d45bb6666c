/- The pure machine, second part: its operations, and that the abstract machine's do the same.
   No condition: plain lemmas. -/
import Derived.Test.YtjddnmjmaalcgaaPm1
namespace Pm
set_option linter.unusedSimpArgs false
set_option linter.unusedVariables false
open Go Am

/-! ### Quiet operations -/
def pLd (h : Heap) (x : Value) : Option Value :=
  match asFptr x with
  | some cs => cs[0]?
  | none => ldV h x
def pLdA (h : Heap) (n : Nat) (x : Value) : Option Value :=
  match asFptr x with
  | some cs => if n ≤ cs.length ∧ 0 < n then some (.agg (cs.take n).toArray) else none
  | none => ldA h n x
def pCut (h : Heap) (e : Nat) (x : Value) (lo hi : Option Value) : Option Value :=
  match asLst x with
  | some (e', n, cs) => match loV lo, hiV n hi with
    | some l, some k => if e' = e ∧ l ≤ k then some (lst e (k - l) ((cs.drop (l * e)).take ((k - l) * e))) else none
    | _, _ => none
  | none => cutV h e x lo hi
def pField (off : Nat) (x : Value) : Option Value :=
  match asFptr x with
  | some cs => some (fptr (cs.drop off))
  | none => fieldV off x
def pIdxA (e : Nat) (x i : Value) : Option Value :=
  match asLst x with
  | some (e', n, cs) => match i with
    | .int _ i => if e' = e ∧ 0 ≤ i ∧ i < n then some (fptr ((cs.drop (i.toNat * e)).take e)) else none
    | _ => none
  | none => idxAV e x i
def pIdxP (len e : Nat) (x i : Value) : Option Value :=
  match asFptr x with
  | some cs => match i with
    | .int _ i => if 0 ≤ i ∧ i < len then some (fptr (cs.drop (i.toNat * e))) else none
    | _ => none
  | none => idxPV len e x i
def pLen (x : Value) : Option Value :=
  match asLst x with
  | some (_, n, _) => some (.int .i64 n)
  | none => lenV x
def pPtr (x : Value) : Option Value :=
  match asFptr x with
  | some cs => some (fptr cs)
  | none => ptrV x
def pFn (f : Fn) (cs : List Value) : Option Value :=
  match f with
  | .func f => some (.func (.func f) #[] cs.toArray)
  | _ => none

def pqop : QOp → Fr → Heap → Option Value
  | .load x, fr, h => pLd h (ev fr x)
  | .loadA n x, fr, h => pLdA h n (ev fr x)
  | .cut e x lo hi, fr, h => pCut h e (ev fr x) (lo.map (ev fr)) (hi.map (ev fr))
  | .fieldA off x, fr, _ => pField off (ev fr x)
  | .idxA e x i, fr, _ => pIdxA e (ev fr x) (ev fr i)
  | .idxP l e x i, fr, _ => pIdxP l e (ev fr x) (ev fr i)
  | .len x, fr, _ => pLen (ev fr x)
  | .ptrCk x, fr, _ => pPtr (ev fr x)
  | .fn f cs, fr, _ => pFn f (cs.map (ev fr))
  | o, fr, h => qop o fr h

def okQ : QOp → Bool
  | .val x | .load x | .loadA _ x | .not x | .neg x | .conv _ x | .fieldA _ x | .part _ _ x | .ext x _ | .len x | .lenS x | .ptrCk x => okO x
  | .pick a b c => okO a && okO b && okO c
  | .build z ps => z.all plainC && okL (ps.map (·.2.2))
  | .bin _ x y | .eqB _ x y | .idxA _ x y | .idxP _ _ x y | .idx _ _ _ x y | .idxS x y | .eqS _ x y | .eqA _ _ x y => okO x && okO y
  | .fn _ cs => okL cs
  | .cut _ x lo hi => okO x && okOpt lo && okOpt hi
  | .mm _ x ys => okO x && okL ys

section
variable {W : Nat → Prop} {H : Heap} {m : Map}
theorem r_bool {b : Bool} {v : Value} (h : R W H m (.bool b) v) : v = .bool b := by cases h; rfl
theorem r_int {k : IntKind} {n : Int} {v : Value} (h : R W H m (.int k n) v) : v = .int k n := by cases h; rfl
theorem r_string {s : ByteArray} {v : Value} (h : R W H m (.string s) v) : v = .string s := by cases h; rfl

theorem cellsOf_R {p v : Value} {ps : List Value} (h : R W H m p v) (hp : cellsOf p = some ps) : ∃ vs, cellsOf v = some vs ∧ Rs W H m ps vs := by
  have h0 := h
  cases h with
  | agg hs hh =>
    obtain ⟨_, e, hr⟩ := h0.agg_list
    cases e
    simp only [cellsOf] at hp ⊢
    split at hp
    · rename_i hc
      cases hp
      exact ⟨_, if_pos (by rw [hr.cellLike]; exact hc), hr⟩
    · cases hp
  | tup => simp [cellsOf] at hp
  | _ =>
    simp only [cellsOf, lst, fptr, Option.some.injEq] at hp
    subst hp
    exact ⟨_, rfl, .cons h0 .nil⟩

theorem fillL_R {ps : List (Nat × Nat × Value)} : ∀ {qs : List (Nat × Nat × Value)} {l l' r : List Value}, Rs W H m l l' → ps.length = qs.length →
    (∀ (j o n o' n' : Nat) (p v : Value), ps[j]? = some (o, n, p) → qs[j]? = some (o', n', v) → o' = o ∧ n' = n ∧ R W H m p v) → fillL l ps = some r → ∃ r', fillL l' qs = some r' ∧ Rs W H m r r' := by
  induction ps with
  | nil =>
    intro qs l l' r hl hn _ h
    cases qs with
    | nil => cases h; exact ⟨_, rfl, hl⟩
    | cons q qs => simp at hn
  | cons p ps ih =>
    intro qs l l' r hl hn hp h
    cases qs with
    | nil => simp at hn
    | cons q qs =>
      obtain ⟨o, n, p⟩ := p
      obtain ⟨o', n', v⟩ := q
      obtain ⟨rfl, rfl, hr⟩ := hp 0 o n o' n' p v rfl rfl
      simp only [fillL] at h ⊢
      split at h
      · rename_i cs hcs
        split at h
        · rename_i hb
          obtain ⟨vs, k1, k2⟩ := cellsOf_R hr hcs
          obtain ⟨r', k3, k4⟩ := ih (hl.setAll k2 o') (by simpa using hn) (fun j a b c d p v q1 q2 => hp (j + 1) a b c d p v (by simpa using q1) (by simpa using q2)) h
          refine ⟨r', ?_, k4⟩
          simp only [k1]
          rw [if_pos ⟨by rw [← k2.length]; exact hb.1, by rw [← hl.length]; exact hb.2⟩]
          exact k3
        · cases h
      · cases h

theorem fill_ops {fr afr : Fr} (hF : FR W H m fr afr) {z r : List Value} {ps : List (Nat × Nat × Operand)} (hz : z.all plainC = true) (hps : okL (ps.map (·.2.2)) = true) (h : fillL z (ps.map fun p => (p.1, p.2.1, ev fr p.2.2)) = some r) :
    ∃ r', fillL z (ps.map fun p => (p.1, p.2.1, ev afr p.2.2)) = some r' ∧ Rs W H m r r' := by
  refine fillL_R (plainC_Rs hz) (by simp) (fun j o n o' n' p v h1 h2 => ?_) h
  rw [List.getElem?_map] at h1 h2
  obtain ⟨q, hq, e1⟩ := Option.map_eq_some_iff.1 h1
  rw [hq] at h2
  cases e1
  cases h2
  refine ⟨rfl, rfl, hF.ev ?_⟩
  have := List.all_eq_true.1 hps q.2.2 (List.mem_map.2 ⟨q, List.mem_of_getElem? hq, rfl⟩)
  exact this

theorem pickV_R {a b c a' b' c' p : Value} (ha : R W H m a a') (hb : R W H m b b') (hc : R W H m c c') (h : pickV a b c = some p) : ∃ v, pickV a' b' c' = some v ∧ R W H m p v := by
  unfold pickV at h
  split at h
  · rename_i t
    cases r_bool hc
    cases h
    refine ⟨_, rfl, ?_⟩
    cases t
    · exact hb
    · exact ha
  · cases h
theorem binV_R {op : BinOp} {x y x' y' p : Value} (hx : R W H m x x') (hy : R W H m y y') (h : binV op x y = some p) : ∃ v, binV op x' y' = some v ∧ R W H m p v := by
  have h0 := h
  unfold binV at h
  split at h
  · rename_i k a k' b
    cases r_int hx
    cases r_int hy
    refine ⟨p, h0, ?_⟩
    split at h
    · unfold shI at h
      split at h
      · cases h
      · cases op <;> simp at h <;> subst h <;> exact .int _ _
    · split at h
      · cases op <;> simp [binI] at h
        all_goals first
          | (subst h; first | exact .int _ _ | exact .bool _)
          | (obtain ⟨_, h⟩ := h; subst h; exact .int _ _)
      · cases h
  · cases h
theorem eqBV_R {g : Bool} {x y x' y' p : Value} (hx : R W H m x x') (hy : R W H m y y') (h : eqBV g x y = some p) : ∃ v, eqBV g x' y' = some v ∧ R W H m p v := by
  unfold eqBV at h
  split at h
  · cases r_bool hx; cases r_bool hy; cases h; exact ⟨_, rfl, .bool _⟩
  · cases h
theorem eqSV_R {g : Bool} {x y x' y' p : Value} (hx : R W H m x x') (hy : R W H m y y') (h : eqSV g x y = some p) : ∃ v, eqSV g x' y' = some v ∧ R W H m p v := by
  unfold eqSV at h
  split at h
  · cases r_string hx; cases r_string hy; cases h; exact ⟨_, rfl, .bool _⟩
  · cases h
theorem notV_R {x x' p : Value} (hx : R W H m x x') (h : notV x = some p) : ∃ v, notV x' = some v ∧ R W H m p v := by
  unfold notV at h
  split at h
  · cases r_bool hx; cases h; exact ⟨_, rfl, .bool _⟩
  · cases h
theorem negV_R {x x' p : Value} (hx : R W H m x x') (h : negV x = some p) : ∃ v, negV x' = some v ∧ R W H m p v := by
  unfold negV at h
  split at h
  · cases r_int hx; cases h; exact ⟨_, rfl, .int _ _⟩
  · cases h
theorem convV_R {k : IntKind} {x x' p : Value} (hx : R W H m x x') (h : convV k x = some p) : ∃ v, convV k x' = some v ∧ R W H m p v := by
  unfold convV at h
  split at h
  · cases r_int hx; cases h; exact ⟨_, rfl, .int _ _⟩
  · cases h
theorem lenSV_R {x x' p : Value} (hx : R W H m x x') (h : lenSV x = some p) : ∃ v, lenSV x' = some v ∧ R W H m p v := by
  unfold lenSV at h
  split at h
  · cases r_string hx; cases h; exact ⟨_, rfl, .int _ _⟩
  · cases h
theorem idxSV_R {x y x' y' p : Value} (hx : R W H m x x') (hy : R W H m y y') (h : idxSV x y = some p) : ∃ v, idxSV x' y' = some v ∧ R W H m p v := by
  have h0 := h
  unfold idxSV at h
  split at h
  · cases r_string hx; cases r_int hy
    refine ⟨p, h0, ?_⟩
    split at h
    · obtain ⟨b, _, e⟩ := Option.map_eq_some_iff.1 h
      subst e; exact .int _ _
    · cases h
  · cases h
theorem partV_R {n : Option Nat} {off : Nat} {x x' p : Value} (hx : R W H m x x') (h : partV n off x = some p) : ∃ v, partV n off x' = some v ∧ R W H m p v := by
  unfold partV at h
  split at h
  · rename_i cs
    obtain ⟨ys, rfl, hr⟩ := hx.agg_list
    have hs : cs.size = ys.size := by simpa using hr.length
    cases n with
    | none =>
      simp only at h
      have hlt := size_of_get h
      obtain ⟨v, hv⟩ := get_of_size (xs := ys) (i := off) (by omega)
      exact ⟨v, hv, hr.get off p v (by simpa using h) (by simpa using hv)⟩
    | some n =>
      simp only at h
      split at h
      · rename_i hb
        cases h
        refine ⟨_, by simp only [partV]; rw [if_pos (by omega)], .agg' ?_⟩
        simpa using (hr.drop off).take n
      · cases h
  · cases h
theorem idxV_R {n : Option Nat} {len e : Nat} {x y x' y' p : Value} (hx : R W H m x x') (hy : R W H m y y') (h : idxV n len e x y = some p) : ∃ v, idxV n len e x' y' = some v ∧ R W H m p v := by
  unfold idxV at h
  split at h
  · rename_i i
    cases r_int hy
    split at h
    · rename_i hb
      obtain ⟨v, k1, k2⟩ := partV_R hx h
      exact ⟨v, by simp only [idxV]; rw [if_pos hb]; exact k1, k2⟩
    · cases h
  · cases h
theorem extV_R {i : Nat} {x x' p : Value} (hx : R W H m x x') (h : extV i x = some p) : ∃ v, extV i x' = some v ∧ R W H m p v := by
  unfold extV at h
  split at h
  · rename_i vs
    obtain ⟨ys, rfl, hr⟩ := hx.tup_list
    have hs : vs.size = ys.size := by simpa using hr.length
    have hlt := size_of_get h
    obtain ⟨v, hv⟩ := get_of_size (xs := ys) (i := i) (by omega)
    exact ⟨v, hv, hr.get i p v (by simpa using h) (by simpa using hv)⟩
  · cases h
theorem eqC_R {k : Nat} {x y x' y' : Value} {b : Bool} (h : eqC k x y = some b) (hx : R W H m x x') (hy : R W H m y y') : x' = x ∧ y' = y := by
  unfold eqC at h
  split at h
  · exact ⟨r_bool hx, r_bool hy⟩
  · exact ⟨r_int hx, r_int hy⟩
  · exact ⟨r_string hx, r_string hy⟩
  · cases h
theorem eqCs_R : ∀ {ks : List Nat} {xs ys xs' ys' : List Value} {b : Bool}, eqCs ks xs ys = some b → Rs W H m xs xs' → Rs W H m ys ys' → eqCs ks xs' ys' = some b
  | [], [], [], _, _, _, h, hx, hy => by cases hx; cases hy; exact h
  | [], [], _ :: _, _, _, _, h, _, _ => by cases h
  | [], _ :: _, _, _, _, _, h, _, _ => by cases h
  | _ :: _, [], _, _, _, _, h, _, _ => by cases h
  | _ :: _, _ :: _, [], _, _, _, h, _, _ => by cases h
  | k :: ks, x :: xs, y :: ys, _, _, b, h, hx, hy => by
    cases hx with
    | cons hx hxs =>
      cases hy with
      | cons hy hys =>
        simp only [eqCs] at h ⊢
        cases e : eqC k x y with
        | none => rw [e] at h; cases h
        | some t =>
          obtain ⟨rfl, rfl⟩ := eqC_R e hx hy
          rw [e] at h ⊢
          cases t with
          | true => exact eqCs_R h hxs hys
          | false => exact h
theorem eqAV_R {ks : List Nat} {g : Bool} {x y x' y' p : Value} (hx : R W H m x x') (hy : R W H m y y') (h : eqAV ks g x y = some p) : ∃ v, eqAV ks g x' y' = some v ∧ R W H m p v := by
  unfold eqAV at h
  split at h
  · rename_i xs ys
    obtain ⟨xs', rfl, h1⟩ := hx.agg_list
    obtain ⟨ys', rfl, h2⟩ := hy.agg_list
    obtain ⟨b, hb, e⟩ := Option.map_eq_some_iff.1 h
    subst e
    exact ⟨_, by simp only [eqAV, eqCs_R hb h1 h2, Option.map_some], .bool _⟩
  · cases h
theorem mmV_R {mx : Bool} : ∀ {ys ys' : List Value} {x x' p : Value}, R W H m x x' → Rs W H m ys ys' → mmV mx x ys = some p → ∃ v, mmV mx x' ys' = some v ∧ R W H m p v
  | [], _, x, x', p, hx, hy, h => by cases hy; simp only [mmV, Option.some.injEq] at h ⊢; subst h; exact ⟨_, rfl, hx⟩
  | y :: ys, _, x, x', p, hx, hy, h => by
    cases hy with
    | cons h1 h2 =>
      unfold mmV at h
      split at h
      · rename_i e; cases e
      · rename_i e; cases e; cases r_int hx; cases r_int h1; simp only [mmV]; exact mmV_R (.int _ _) h2 h
      · cases h

theorem loV_R {fr afr : Fr} (hF : FR W H m fr afr) {o : Option Operand} (ho : okOpt o = true) {l : Nat} (h : loV (o.map (ev fr)) = some l) : loV (o.map (ev afr)) = some l := by
  cases o with
  | none => exact h
  | some x =>
    simp only [Option.map_some] at h ⊢
    have hr := hF.ev (x := x) ho
    generalize ev fr x = p at *
    cases p <;> simp [loV] at h
    rw [r_int hr]; simpa [loV] using h
theorem hiV_R {fr afr : Fr} (hF : FR W H m fr afr) {o : Option Operand} (ho : okOpt o = true) {n l : Nat} (h : hiV n (o.map (ev fr)) = some l) : hiV n (o.map (ev afr)) = some l := by
  cases o with
  | none => exact h
  | some x =>
    simp only [Option.map_some] at h ⊢
    have hr := hF.ev (x := x) ho
    generalize ev fr x = p at *
    cases p <;> simp [hiV] at h
    rw [r_int hr]; simpa [hiV] using h
theorem hiV_le {n l : Nat} {o : Option Value} (h : hiV n o = some l) : l ≤ n := by
  unfold hiV at h
  split at h
  · cases h; exact Nat.le_refl _
  · split at h
    · cases h; omega
    · cases h
  · cases h
end

section
variable {h H : Heap} {m : Map}
theorem cell_R (hP : PRel m h H) {id off ver : Nat} {c : Value} (hc : h.cell? id off ver = some c) : ∃ a v, m id = some a ∧ H.cell? a off ver = some v ∧ R (Wr m h) H m c v := by
  unfold Heap.cell? at hc
  split at hc
  · rename_i r hr
    obtain ⟨a, r', k1, k2, k3, k4, k5, k6⟩ := hP.row? hr
    have hlt := (List.getElem?_eq_some_iff.1 hc).1
    obtain ⟨v, hv⟩ : ∃ v, r'.cells[off]? = some v := ⟨_, List.getElem?_eq_getElem (by rw [← k6.length]; exact hlt)⟩
    exact ⟨a, v, k1, by simp only [Heap.cell?, k2, hv], k6.get _ _ _ hc hv⟩
  · cases hc
theorem cells_R (hP : PRel m h H) {id off ver n : Nat} {cs : List Value} (hc : h.cells? id off ver n = some cs) : ∃ a vs, m id = some a ∧ H.cells? a off ver n = some vs ∧ Rs (Wr m h) H m cs vs := by
  unfold Heap.cells? at hc
  split at hc
  · rename_i r hr
    obtain ⟨a, r', k1, k2, k3, k4, k5, k6⟩ := hP.row? hr
    split at hc
    · rename_i hb
      cases hc
      exact ⟨a, _, k1, by simp only [Heap.cells?, k2]; rw [if_pos (by rw [← k6.length]; exact hb)], (k6.drop off).take n⟩
    · cases hc
  · cases hc

theorem pLd_R (hP : PRel m h H) {x x' p : Value} (hx : R (Wr m h) H m x x') (hp : pLd h x = some p) : ∃ v, ldV H x' = some v ∧ R (Wr m h) H m p v := by
  cases hx with
  | fptr hr hf hb hc =>
    simp only [pLd, asFptr_fptr] at hp
    have hlt := (List.getElem?_eq_some_iff.1 hp).1
    rename_i cs a off ver r
    have hb := hb (by omega)
    obtain ⟨v, hv⟩ : ∃ v, r.cells[off + 0]? = some v := ⟨_, List.getElem?_eq_getElem (by omega)⟩
    exact ⟨v, by simp only [ldV, Heap.cell?, hr]; exact hv, (hc 0 p v hp hv).mono (.refl _ _) (.none m)⟩
  | ptr hm =>
    simp only [pLd, asFptr, ldV] at hp
    obtain ⟨a, v, k1, k2, k3⟩ := cell_R hP hp
    rw [hm] at k1; cases k1
    exact ⟨v, k2, k3⟩
  | lst => simp [pLd, ldV, lst] at hp; cases hp
  | lstNil => simp [pLd, ldV, lst] at hp; cases hp
  | _ => simp [pLd, asFptr, ldV] at hp
theorem pLdA_R (hP : PRel m h H) {n : Nat} {x x' p : Value} (hx : R (Wr m h) H m x x') (hp : pLdA h n x = some p) : ∃ v, ldA H n x' = some v ∧ R (Wr m h) H m p v := by
  cases hx with
  | fptr hr hf hb hc =>
    simp only [pLdA, asFptr_fptr] at hp
    rename_i cs a off ver r
    split at hp
    · rename_i hn
      cases hp
      have hb := hb (by omega)
      refine ⟨_, by simp only [ldA, Heap.cells?, hr]; rw [if_pos (by omega)]; rfl, .agg' (.of_get ?_ fun i p v h1 h2 => ?_)⟩
      · simp; omega
      · simp only [List.getElem?_take, List.getElem?_drop] at h1 h2
        split at h1
        · rename_i hi; rw [if_pos hi] at h2; exact (hc i p v h1 h2).mono (.refl _ _) (.none m)
        · cases h1
    · cases hp
  | ptr hm =>
    simp only [pLdA, asFptr, ldA] at hp
    obtain ⟨cs, hcs, e⟩ := Option.map_eq_some_iff.1 hp
    subst e
    obtain ⟨a, vs, k1, k2, k3⟩ := cells_R hP hcs
    rw [hm] at k1; cases k1
    exact ⟨.agg vs.toArray, by simp only [ldA, k2, Option.map_some], .agg' (by simpa using k3)⟩
  | lst => simp [pLdA, ldA, lst] at hp; cases hp
  | lstNil => simp [pLdA, ldA, lst] at hp; cases hp
  | _ => simp [pLdA, asFptr, ldA] at hp
theorem pField_R {W : Nat → Prop} {off : Nat} {x x' p : Value} (hx : R W H m x x') (hp : pField off x = some p) : ∃ v, fieldV off x' = some v ∧ R W H m p v := by
  cases hx with
  | fptr hr hf hb hc =>
    simp only [pField, asFptr_fptr, Option.some.injEq] at hp
    subst hp
    rename_i cs a o ver r
    exact ⟨_, rfl, .fptr hr hf (fun h0 => by simp at h0 ⊢; have := hb (by omega); omega) fun j c v h1 h2 => hc (off + j) c v (by simpa [List.getElem?_drop] using h1) (by rw [← Nat.add_assoc]; exact h2)⟩
  | ptr hm =>
    simp only [pField, asFptr, fieldV, Option.some.injEq] at hp
    subst hp
    exact ⟨_, rfl, .ptr hm⟩
  | lst => simp [pField, fieldV, lst] at hp; cases hp
  | lstNil => simp [pField, fieldV, lst] at hp; cases hp
  | _ => simp [pField, asFptr, fieldV] at hp
theorem pIdxP_R {W : Nat → Prop} {len e : Nat} {x y x' y' p : Value} (hx : R W H m x x') (hy : R W H m y y') (hp : pIdxP len e x y = some p) : ∃ v, idxPV len e x' y' = some v ∧ R W H m p v := by
  cases hx with
  | fptr hr hf hb hc =>
    simp only [pIdxP, asFptr_fptr] at hp
    split at hp
    · rename_i i
      cases r_int hy
      split at hp
      · rename_i hi
        cases hp
        rename_i cs a o ver r _
        exact ⟨_, by simp only [idxPV]; rw [if_pos hi], .fptr hr hf (fun h0 => by simp at h0 ⊢; have := hb (by omega); omega) fun j c v h1 h2 => hc (i.toNat * e + j) c v (by simpa [List.getElem?_drop] using h1) (by rw [← Nat.add_assoc]; exact h2)⟩
      · cases hp
    · cases hp
  | ptr hm =>
    simp only [pIdxP, asFptr] at hp
    unfold idxPV at hp
    split at hp
    · rename_i e1
      cases e1
      cases r_int hy
      split at hp
      · rename_i hi; cases hp; exact ⟨_, by simp only [idxPV]; rw [if_pos hi], .ptr hm⟩
      · cases hp
    · cases hp
  | lst => simp [pIdxP, idxPV, lst] at hp; cases hp
  | lstNil => simp [pIdxP, idxPV, lst] at hp; cases hp
  | _ => simp [pIdxP, asFptr, idxPV] at hp
theorem pIdxA_R {W : Nat → Prop} {e : Nat} {x y x' y' p : Value} (hx : R W H m x x') (hy : R W H m y y') (hp : pIdxA e x y = some p) : ∃ v, idxAV e x' y' = some v ∧ R W H m p v := by
  cases hx with
  | @lst m e' n cs a o ver r hr hf he hl hb hc =>
    simp only [pIdxA, asLst_lst] at hp
    split at hp
    · rename_i i
      cases r_int hy
      split at hp
      · rename_i hi
        obtain ⟨he', h1, h2⟩ := hi
        subst he'
        subst he
        cases hp
        refine ⟨_, by simp only [idxAV]; rw [if_pos ⟨h1, h2⟩], .fptr hr hf (fun h0 => ?_) fun j c v q1 q2 => ?_⟩
        · have hm : (i.toNat + 1) * r.esz ≤ n * r.esz := Nat.mul_le_mul_right _ (by omega)
          rw [Nat.succ_mul] at hm
          simp only [List.length_take, List.length_drop]
          omega
        · rw [List.getElem?_take] at q1
          split at q1
          · rw [List.getElem?_drop] at q1
            exact hc _ c v q1 (by rw [← Nat.add_assoc]; exact q2)
          · cases q1
      · cases hp
    · cases hp
  | lstNil =>
    simp only [pIdxA, asLst_lst] at hp
    split at hp
    · split at hp
      · omega
      · cases hp
    · cases hp
  | slice hm =>
    simp only [pIdxA, asLst] at hp
    unfold idxAV at hp
    split at hp
    · rename_i e1
      cases e1
      cases r_int hy
      split at hp
      · rename_i hi; cases hp; exact ⟨_, by simp only [idxAV]; rw [if_pos hi], .ptr hm⟩
      · cases hp
    · cases hp
  | fptr => simp [pIdxA, idxAV, fptr] at hp; cases hp
  | _ => simp [pIdxA, asLst, idxAV] at hp
theorem pLen_R {W : Nat → Prop} {x x' p : Value} (hx : R W H m x x') (hp : pLen x = some p) : ∃ v, lenV x' = some v ∧ R W H m p v := by
  cases hx with
  | lst => simp only [pLen, asLst_lst, Option.some.injEq] at hp; subst hp; exact ⟨_, rfl, .int _ _⟩
  | lstNil => simp only [pLen, asLst_lst, Option.some.injEq] at hp; subst hp; exact ⟨_, rfl, .int _ _⟩
  | slice => simp only [pLen, asLst, lenV, Option.some.injEq] at hp; subst hp; exact ⟨_, rfl, .int _ _⟩
  | sliceNil => simp only [pLen, asLst, lenV, Option.some.injEq] at hp; subst hp; exact ⟨_, rfl, .int _ _⟩
  | fptr => simp [pLen, lenV, fptr] at hp; cases hp
  | _ => simp [pLen, asLst, lenV] at hp
theorem pPtr_R {W : Nat → Prop} {x x' p : Value} (hx : R W H m x x') (hp : pPtr x = some p) : ∃ v, ptrV x' = some v ∧ R W H m p v := by
  cases hx with
  | fptr hr hf hb hc => simp only [pPtr, asFptr_fptr, Option.some.injEq] at hp; subst hp; exact ⟨_, rfl, .fptr hr hf hb hc⟩
  | ptr hm => simp only [pPtr, asFptr, ptrV, Option.some.injEq] at hp; subst hp; exact ⟨_, rfl, .ptr hm⟩
  | lst => simp [pPtr, ptrV, lst] at hp; cases hp
  | lstNil => simp [pPtr, ptrV, lst] at hp; cases hp
  | _ => simp [pPtr, asFptr, ptrV] at hp
theorem pCut_R (hP : PRel m h H) {e : Nat} {x x' p : Value} {fr afr : Fr} (hF : FR (Wr m h) H m fr afr) {lo hi : Option Operand} (hlo : okOpt lo = true) (hhi : okOpt hi = true) (hx : R (Wr m h) H m x x')
    (hp : pCut h e x (lo.map (ev fr)) (hi.map (ev fr)) = some p) : ∃ v, cutV H e x' (lo.map (ev afr)) (hi.map (ev afr)) = some v ∧ R (Wr m h) H m p v := by
  cases hx with
  | @lst m e' n cs a o ver r hr hf he hl hb hc =>
    simp only [pCut, asLst_lst] at hp
    split at hp
    · rename_i l k h1 h2
      split at hp
      · rename_i hi
        obtain ⟨he', hlk⟩ := hi
        subst he'
        cases hp
        have hkn := hiV_le h2
        refine ⟨_, by simp only [cutV, hr, loV_R hF hlo h1, hiV_R hF hhi h2]; rw [if_pos ⟨he, hlk⟩], .lst hr hf he ?_ ?_ fun j c v q1 q2 => ?_⟩
        · have h3 : k * e' ≤ n * e' := Nat.mul_le_mul_right _ hkn
          have h4 : (k - l) * e' = k * e' - l * e' := Nat.sub_mul ..
          simp only [List.length_take, List.length_drop]; omega
        · have h3 : k * e' ≤ n * e' := Nat.mul_le_mul_right _ hkn
          have h4 : (k - l) * e' = k * e' - l * e' := Nat.sub_mul ..
          have h5 : l * e' ≤ k * e' := Nat.mul_le_mul_right _ hlk
          omega
        · rw [List.getElem?_take] at q1
          split at q1
          · rw [List.getElem?_drop] at q1
            exact hc _ c v q1 (by rw [← Nat.add_assoc]; exact q2)
          · cases q1
      · cases hp
    · cases hp
  | lstNil =>
    simp only [pCut, asLst_lst] at hp
    split at hp
    · rename_i l k h1 h2
      have hkn := hiV_le h2
      split at hp
      · rename_i hi
        cases hp
        refine ⟨_, by simp only [cutV, loV_R hF hlo h1, hiV_R hF hhi h2]; rw [if_pos hi.2], ?_⟩
        have : k - l = 0 := by omega
        rw [this]; simp; exact .lstNil
      · cases hp
    · cases hp
  | slice hm =>
    simp only [pCut, asLst, cutV] at hp ⊢
    split at hp
    · rename_i r l k hr h1 h2
      split at hp
      · rename_i hc
        cases hp
        obtain ⟨a, r', k1, k2, k3, k4, k5, k6⟩ := hP.row? hr
        rw [hm] at k1; cases k1
        exact ⟨_, by simp only [k2, loV_R hF hlo h1, hiV_R hF hhi h2]; rw [if_pos ⟨k3.trans hc.1, hc.2⟩], .slice hm⟩
      · cases hp
    · cases hp
  | sliceNil =>
    simp only [pCut, asLst, cutV] at hp ⊢
    split at hp
    · rename_i l k h1 h2
      split at hp
      · rename_i hc
        cases hp
        exact ⟨_, by simp only [loV_R hF hlo h1, hiV_R hF hhi h2]; rw [if_pos hc], .sliceNil⟩
      · cases hp
    · cases hp
  | fptr => simp [pCut, cutV, fptr] at hp; cases hp
  | _ => simp [pCut, asLst, cutV] at hp
theorem pFn_R {W : Nat → Prop} {f : Fn} {cs cs' : List Value} {p : Value} (hc : Rs W H m cs cs') (hp : pFn f cs = some p) : ∃ v, some (Value.func f #[] cs'.toArray) = some v ∧ R W H m p v := by
  unfold pFn at hp
  split at hp
  · cases hp
    exact ⟨_, rfl, .func rfl (fun i x y h => by simp at h) (by simpa using hc.length) fun i x y h1 h2 => hc.get i x y (by simpa using h1) (by simpa using h2)⟩
  · cases hp

/-- Quiet operations are done alike. -/
theorem pq_sound (hP : PRel m h H) {fr afr : Fr} (hF : FR (Wr m h) H m fr afr) {o : QOp} (ho : okQ o = true) {p : Value} (hp : pqop o fr h = some p) : ∃ v, qop o afr H = some v ∧ R (Wr m h) H m p v := by
  cases o with
  | val x => cases hp; exact ⟨_, rfl, hF.ev ho⟩
  | pick c a b => simp only [okQ, Bool.and_eq_true] at ho; exact pickV_R (hF.ev ho.1.2) (hF.ev ho.2) (hF.ev ho.1.1) hp
  | build z ps =>
    simp only [okQ, Bool.and_eq_true] at ho
    obtain ⟨r, hr, e⟩ := Option.map_eq_some_iff.1 hp
    subst e
    obtain ⟨r', k1, k2⟩ := fill_ops hF ho.1 ho.2 hr
    exact ⟨.agg r'.toArray, by simp only [qop, k1, Option.map_some], .agg' (by simpa using k2)⟩
  | load x => exact pLd_R hP (hF.ev ho) hp
  | loadA n x => exact pLdA_R hP (hF.ev ho) hp
  | bin op x y => simp only [okQ, Bool.and_eq_true] at ho; exact binV_R (hF.ev ho.1) (hF.ev ho.2) hp
  | eqB g x y => simp only [okQ, Bool.and_eq_true] at ho; exact eqBV_R (hF.ev ho.1) (hF.ev ho.2) hp
  | not x => exact notV_R (hF.ev ho) hp
  | neg x => exact negV_R (hF.ev ho) hp
  | conv k x => exact convV_R (hF.ev ho) hp
  | fn f cs => exact pFn_R (hF.map ho) hp
  | cut e x lo hi => simp only [okQ, Bool.and_eq_true] at ho; exact pCut_R hP hF ho.1.2 ho.2 (hF.ev ho.1.1) hp
  | fieldA off x => exact pField_R (hF.ev ho) hp
  | part n off x => exact partV_R (hF.ev ho) hp
  | idxA e x i => simp only [okQ, Bool.and_eq_true] at ho; exact pIdxA_R (hF.ev ho.1) (hF.ev ho.2) hp
  | idxP l e x i => simp only [okQ, Bool.and_eq_true] at ho; exact pIdxP_R (hF.ev ho.1) (hF.ev ho.2) hp
  | idx n l e x i => simp only [okQ, Bool.and_eq_true] at ho; exact idxV_R (hF.ev ho.1) (hF.ev ho.2) hp
  | ext x i => exact extV_R (hF.ev ho) hp
  | len x => exact pLen_R (hF.ev ho) hp
  | lenS x => exact lenSV_R (hF.ev ho) hp
  | idxS x i => simp only [okQ, Bool.and_eq_true] at ho; exact idxSV_R (hF.ev ho.1) (hF.ev ho.2) hp
  | ptrCk x => exact pPtr_R (hF.ev ho) hp
  | eqS g x y => simp only [okQ, Bool.and_eq_true] at ho; exact eqSV_R (hF.ev ho.1) (hF.ev ho.2) hp
  | eqA ks g x y => simp only [okQ, Bool.and_eq_true] at ho; exact eqAV_R (hF.ev ho.1) (hF.ev ho.2) hp
  | mm mx x ys => simp only [okQ, Bool.and_eq_true] at ho; exact mmV_R (hF.ev ho.1) (hF.map ho.2) hp
end
end Pm
