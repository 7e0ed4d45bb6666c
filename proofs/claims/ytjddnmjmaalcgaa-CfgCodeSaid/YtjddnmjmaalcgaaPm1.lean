/- The pure machine, first part: what is not written any more stands in the values themselves, as lists; how its values and heap stand to the abstract machine's.
   No condition: plain lemmas. -/
import Derived.Test.YtjddnmjmaalcgaaAmRun
namespace Pm
set_option linter.unusedSimpArgs false
set_option linter.unusedVariables false
open Go Am

/-- A slice that is not written any more: cells an element, how many elements, all cells. -/
def lst (e n : Nat) (cs : List Value) : Value := .func (.yield 0) cs.toArray #[.int .i64 n, .int .i64 e]
/-- A pointer to cells that are not written any more. -/
def fptr (cs : List Value) : Value := .func (.yield 1) cs.toArray #[]

def asLst : Value → Option (Nat × Nat × List Value)
  | .func (.yield 0) cs g => match g.toList with | [.int .i64 n, .int .i64 e] => some (e.toNat, n.toNat, cs.toList) | _ => none
  | _ => none
def asFptr : Value → Option (List Value)
  | .func (.yield 1) cs _ => some cs.toList
  | _ => none
@[simp] theorem asLst_lst {e n : Nat} {cs : List Value} : asLst (lst e n cs) = some (e, n, cs) := by simp [asLst, lst]
@[simp] theorem asFptr_fptr {cs : List Value} : asFptr (fptr cs) = some cs := by simp [asFptr, fptr]
@[simp] theorem asLst_fptr {cs : List Value} : asLst (fptr cs) = none := by simp [asLst, fptr]
@[simp] theorem asFptr_lst {e n : Nat} {cs : List Value} : asFptr (lst e n cs) = none := by simp [asFptr, lst]

abbrev Map := Nat → Option Nat
def Map.none : Map := fun _ => Option.none

/-- A value of the pure machine and one of the abstract machine: 'W': the rows that may be written, 'H': its heap. -/
inductive R (W : Nat → Prop) (H : Heap) : Map → Value → Value → Prop
  | bool {m : Map} (b : Bool) : R W H m (.bool b) (.bool b)
  | int {m : Map} (k : IntKind) (n : Int) : R W H m (.int k n) (.int k n)
  | string {m : Map} (s : ByteArray) : R W H m (.string s) (.string s)
  | ptrNil {m : Map} : R W H m (.pointer Option.none) (.pointer Option.none)
  | sliceNil {m : Map} : R W H m (.slice Option.none 0 0) (.slice Option.none 0 0)
  | nilFunc {m : Map} : R W H m .nilFunc .nilFunc
  | nilIface {m : Map} : R W H m .nilIface .nilIface
  | ptr {m : Map} {id a off ver : Nat} (h : m id = some a) : R W H m (.pointer (some ⟨id, off, some ver⟩)) (.pointer (some ⟨a, off, some ver⟩))
  | slice {m : Map} {id a off len ver : Nat} (h : m id = some a) : R W H m (.slice (some ⟨id, off, Option.none⟩) len ver) (.slice (some ⟨a, off, Option.none⟩) len ver)
  | lstNil {m : Map} {e : Nat} : R W H m (lst e 0 []) (.slice Option.none 0 0)
  | lst {m : Map} {e n : Nat} {cs : List Value} {a off ver : Nat} {r : Row} (hr : H.row? a ver = some r) (hf : ¬ W a) (he : r.esz = e) (hl : cs.length = n * e) (hb : off + n * e ≤ r.cells.length)
      (hc : ∀ (j : Nat) (c v : Value), cs[j]? = some c → r.cells[off + j]? = some v → R W H Map.none c v) : R W H m (lst e n cs) (.slice (some ⟨a, off, Option.none⟩) n ver)
  | fptr {m : Map} {cs : List Value} {a off ver : Nat} {r : Row} (hr : H.row? a ver = some r) (hf : ¬ W a) (hb : 0 < cs.length → off + cs.length ≤ r.cells.length)
      (hc : ∀ (j : Nat) (c v : Value), cs[j]? = some c → r.cells[off + j]? = some v → R W H Map.none c v) : R W H m (fptr cs) (.pointer (some ⟨a, off, some ver⟩))
  | agg {m : Map} {xs ys : Array Value} (hs : xs.size = ys.size) (h : ∀ (i : Nat) (x y : Value), xs[i]? = some x → ys[i]? = some y → R W H m x y) : R W H m (.agg xs) (.agg ys)
  | tup {m : Map} {xs ys : Array Value} (hs : xs.size = ys.size) (h : ∀ (i : Nat) (x y : Value), xs[i]? = some x → ys[i]? = some y → R W H m x y) : R W H m (.tuple xs) (.tuple ys)
  | func {m : Map} {f : FuncId} {f1 g1 f2 g2 : Array Value} (hs : f1.size = f2.size) (h : ∀ (i : Nat) (x y : Value), f1[i]? = some x → f2[i]? = some y → R W H m x y)
      (hs' : g1.size = g2.size) (h' : ∀ (i : Nat) (x y : Value), g1[i]? = some x → g2[i]? = some y → R W H m x y) : R W H m (.func (.func f) f1 g1) (.func (.func f) f2 g2)

/-- The heap grows; what may not be written stays. -/
structure Stp (W : Nat → Prop) (H : Heap) (W' : Nat → Prop) (H' : Heap) : Prop where
  len : H.length ≤ H'.length
  same : ∀ a, a < H.length → ¬ W a → H'[a]? = H[a]?
  wr : ∀ a, W' a → W a ∨ H.length ≤ a

theorem Stp.refl (W : Nat → Prop) (H : Heap) : Stp W H W H := ⟨Nat.le_refl _, fun _ _ _ => rfl, fun _ h => .inl h⟩
theorem Stp.trans {W W1 W2 : Nat → Prop} {H H1 H2 : Heap} (h : Stp W H W1 H1) (k : Stp W1 H1 W2 H2) : Stp W H W2 H2 :=
  ⟨Nat.le_trans h.len k.len, fun a ha hw => by rw [k.same a (Nat.lt_of_lt_of_le ha h.len) (fun x => (h.wr a x).elim hw (by omega)), h.same a ha hw],
   fun a ha => (k.wr a ha).elim (h.wr a) fun x => .inr (Nat.le_trans h.len x)⟩
/-- Less may be written. -/
theorem Stp.less {W W' : Nat → Prop} {H : Heap} (h : ∀ a, W' a → W a) : Stp W H W' H := ⟨Nat.le_refl _, fun _ _ _ => rfl, fun a x => .inl (h a x)⟩

def MLe (m m' : Map) : Prop := ∀ id a, m id = some a → m' id = some a
theorem MLe.refl (m : Map) : MLe m m := fun _ _ h => h
theorem MLe.trans {a b c : Map} (h : MLe a b) (k : MLe b c) : MLe a c := fun _ _ x => k _ _ (h _ _ x)
theorem MLe.none (m : Map) : MLe Map.none m := fun _ _ h => by cases h

theorem row?_lt {H : Heap} {a ver : Nat} {r : Row} (h : H.row? a ver = some r) : a < H.length := (List.getElem?_eq_some_iff.1 (Heap.row?_some h).1).1
theorem row?_same {H H' : Heap} {a ver : Nat} (h : H'[a]? = H[a]?) : H'.row? a ver = H.row? a ver := by simp only [Heap.row?, h]

section
variable {W W' : Nat → Prop} {H H' : Heap} {m m' : Map}
theorem R.mono {p v : Value} (h : R W H m p v) (s : Stp W H W' H') (e : MLe m m') : R W' H' m' p v := by
  induction h generalizing m' with
  | bool b => exact .bool b
  | int k n => exact .int k n
  | string s => exact .string s
  | ptrNil => exact .ptrNil
  | sliceNil => exact .sliceNil
  | nilFunc => exact .nilFunc
  | nilIface => exact .nilIface
  | ptr h => exact .ptr (e _ _ h)
  | slice h => exact .slice (e _ _ h)
  | lstNil => exact .lstNil
  | lst hr hf he hl hb hc ih =>
    have hlt := row?_lt hr
    exact .lst (by rw [row?_same (s.same _ hlt hf)]; exact hr) (fun x => (s.wr _ x).elim hf (by omega)) he hl hb fun j c v h1 h2 => ih j c v h1 h2 (.refl _)
  | fptr hr hf hb hc ih =>
    have hlt := row?_lt hr
    exact .fptr (by rw [row?_same (s.same _ hlt hf)]; exact hr) (fun x => (s.wr _ x).elim hf (by omega)) hb fun j c v h1 h2 => ih j c v h1 h2 (.refl _)
  | agg hs _ ih => exact .agg hs fun i x y hx hy => ih i x y hx hy e
  | tup hs _ ih => exact .tup hs fun i x y hx hy => ih i x y hx hy e
  | func hs _ hs' _ ih ih' => exact .func hs (fun i x y hx hy => ih i x y hx hy e) hs' (fun i x y hx hy => ih' i x y hx hy e)

theorem R.undef : R W H m (.tuple #[]) (.tuple #[]) := .tup rfl fun i x y h => by simp at h

theorem R.cellLike {p v : Value} (h : R W H m p v) : cellLike v = cellLike p := by cases h <;> rfl

/-- What was related by a map, and is again by a greater one, is by any that goes on as the greater does. -/
theorem R.both {m0 : Map} {W0 : Nat → Prop} {H0 : Heap} {p v0 v : Value} (h : R W0 H0 m0 p v0) (h' : R W H m p v) (e : ∀ id a, m0 id = some a → m' id = m id) : R W H m' p v := by
  induction h' generalizing v0 with
  | bool b => exact .bool b
  | int k n => exact .int k n
  | string s => exact .string s
  | ptrNil => exact .ptrNil
  | sliceNil => exact .sliceNil
  | nilFunc => exact .nilFunc
  | nilIface => exact .nilIface
  | ptr h1 => cases h with | ptr h2 => exact .ptr (by rw [e _ _ h2]; exact h1)
  | slice h1 => cases h with | slice h2 => exact .slice (by rw [e _ _ h2]; exact h1)
  | lstNil => exact .lstNil
  | lst hr hf he hl hb hc ih => exact .lst hr hf he hl hb hc
  | fptr hr hf hb hc ih => exact .fptr hr hf hb hc
  | agg hs h1 ih =>
    cases h with
    | agg hs' h2 =>
      refine .agg hs fun i x y hx hy => ?_
      obtain ⟨z, hz⟩ := get_of_size (hs' ▸ size_of_get hx)
      exact ih i x y hx hy (h2 i x z hx hz) e
  | tup hs h1 ih =>
    cases h with
    | tup hs' h2 =>
      refine .tup hs fun i x y hx hy => ?_
      obtain ⟨z, hz⟩ := get_of_size (hs' ▸ size_of_get hx)
      exact ih i x y hx hy (h2 i x z hx hz) e
  | func hs h1 hs1 h2 ih ih' =>
    cases h with
    | func ks k1 ks1 k2 =>
      refine .func hs (fun i x y hx hy => ?_) hs1 (fun i x y hx hy => ?_)
      · obtain ⟨z, hz⟩ := get_of_size (ks ▸ size_of_get hx)
        exact ih i x y hx hy (k1 i x z hx hz) e
      · obtain ⟨z, hz⟩ := get_of_size (ks1 ▸ size_of_get hx)
        exact ih' i x y hx hy (k2 i x z hx hz) e
end

/-- Side by side. -/
inductive Rs (W : Nat → Prop) (H : Heap) (m : Map) : List Value → List Value → Prop
  | nil : Rs W H m [] []
  | cons {p v : Value} {ps vs : List Value} (h : R W H m p v) (t : Rs W H m ps vs) : Rs W H m (p :: ps) (v :: vs)
section
variable {W W' : Nat → Prop} {H H' : Heap} {m m' : Map}
theorem Rs.mono {ps vs : List Value} (h : Rs W H m ps vs) (s : Stp W H W' H') (e : MLe m m') : Rs W' H' m' ps vs := by
  induction h with
  | nil => exact .nil
  | cons h _ ih => exact .cons (h.mono s e) ih
theorem Rs.length {ps vs : List Value} (h : Rs W H m ps vs) : ps.length = vs.length := by
  induction h with
  | nil => rfl
  | cons _ _ ih => simp [ih]
theorem Rs.get {ps vs : List Value} (h : Rs W H m ps vs) : ∀ (i : Nat) (p v : Value), ps[i]? = some p → vs[i]? = some v → R W H m p v := by
  induction h with
  | nil => intro i p v hp; simp at hp
  | cons h _ ih =>
    intro i p v hp hv
    cases i with
    | zero => simp at hp hv; subst hp; subst hv; exact h
    | succ i => exact ih i p v (by simpa using hp) (by simpa using hv)
theorem Rs.of_get {ps vs : List Value} (hl : ps.length = vs.length) (h : ∀ (i : Nat) (p v : Value), ps[i]? = some p → vs[i]? = some v → R W H m p v) : Rs W H m ps vs := by
  induction ps generalizing vs with
  | nil => cases vs with | nil => exact .nil | cons c cs => simp at hl
  | cons p ps ih =>
    cases vs with
    | nil => simp at hl
    | cons v vs => exact .cons (h 0 p v rfl rfl) (ih (by simpa using hl) (fun i p' v' hp hv => h (i + 1) p' v' (by simpa using hp) (by simpa using hv)))
theorem Rs.append {ps vs ps' vs' : List Value} (h : Rs W H m ps vs) (k : Rs W H m ps' vs') : Rs W H m (ps ++ ps') (vs ++ vs') := by
  induction h with
  | nil => exact k
  | cons h _ ih => exact .cons h ih
theorem Rs.take {ps vs : List Value} (h : Rs W H m ps vs) (n : Nat) : Rs W H m (ps.take n) (vs.take n) := by
  induction h generalizing n with
  | nil => simp; exact .nil
  | cons h _ ih => cases n with | zero => exact .nil | succ n => exact .cons h (ih n)
theorem Rs.drop {ps vs : List Value} (h : Rs W H m ps vs) (n : Nat) : Rs W H m (ps.drop n) (vs.drop n) := by
  induction h generalizing n with
  | nil => simp; exact .nil
  | cons h t ih => cases n with | zero => exact .cons h t | succ n => exact ih n
theorem Rs.set {ps vs : List Value} (h : Rs W H m ps vs) (n : Nat) {p v : Value} (hv : R W H m p v) : Rs W H m (ps.set n p) (vs.set n v) := by
  induction h generalizing n with
  | nil => exact .nil
  | cons h t ih => cases n with | zero => exact .cons hv t | succ n => exact .cons h (ih n)
theorem Rs.setAll {l l' vs vs' : List Value} (h : Rs W H m l l') (k : Rs W H m vs vs') (off : Nat) : Rs W H m (setAll l off vs) (setAll l' off vs') := by
  induction k generalizing l l' off with
  | nil => exact h
  | cons hv _ ih => exact ih (h.set off hv) (off + 1)
theorem Rs.cellLike {ps vs : List Value} (h : Rs W H m ps vs) : vs.all cellLike = ps.all cellLike := by
  induction h with
  | nil => rfl
  | cons h _ ih => simp only [List.all_cons, ih, h.cellLike]
theorem R.agg' {xs ys : Array Value} (h : Rs W H m xs.toList ys.toList) : R W H m (.agg xs) (.agg ys) :=
  .agg (by simpa using h.length) fun i x y hx hy => h.get i x y (by simpa using hx) (by simpa using hy)
theorem R.agg_list {xs : Array Value} {v : Value} (h : R W H m (.agg xs) v) : ∃ ys, v = .agg ys ∧ Rs W H m xs.toList ys.toList := by
  cases h with
  | agg hs h => exact ⟨_, rfl, .of_get (by simpa using hs) fun i x y hx hy => h i x y (by simpa using hx) (by simpa using hy)⟩
theorem R.tup_list {xs : Array Value} {v : Value} (h : R W H m (.tuple xs) v) : ∃ ys, v = .tuple ys ∧ Rs W H m xs.toList ys.toList := by
  cases h with
  | tup hs h => exact ⟨_, rfl, .of_get (by simpa using hs) fun i x y hx hy => h i x y (by simpa using hx) (by simpa using hy)⟩
theorem plainC_R {v : Value} (h : plainC v = true) : R W H m v v := by
  unfold plainC at h
  split at h <;> first | exact .bool _ | exact .int _ _ | exact .string _ | exact .ptrNil | exact .sliceNil | exact .nilFunc | exact .nilIface | cases h
theorem plainC_Rs : ∀ {vs : List Value}, vs.all plainC = true → Rs W H m vs vs
  | [], _ => .nil
  | v :: vs, h => by
    simp only [List.all_cons, Bool.and_eq_true] at h
    exact .cons (plainC_R h.1) (plainC_Rs h.2)
theorem plainV_R {v : Value} (h : plainV v = true) : R W H m v v := by
  unfold plainV at h
  split at h
  · exact .agg' (plainC_Rs h)
  · rename_i cs
    have : cs = #[] := by simpa using h
    subst this; exact .undef
  · exact plainC_R h
theorem rep_Rs {z c : List Value} (h : Rs W H m z c) : ∀ n, Rs W H m (rep n z) (rep n c)
  | 0 => .nil
  | n + 1 => by rw [rep_succ, rep_succ]; exact (rep_Rs h n).append h
end

/-- The rows that may be written. -/
def Wr (m : Map) (h : Heap) : Nat → Prop := fun a => ∃ id r, h[id]? = some (.row r) ∧ r.rw = true ∧ m id = some a

/-- The pure machine's heap and the abstract machine's. -/
structure PRel (m : Map) (h : Heap) (H : Heap) : Prop where
  row : ∀ (id : Nat) (r : Row), h[id]? = some (.row r) → ∃ a r', m id = some a ∧ H[a]? = some (.row r') ∧ r'.esz = r.esz ∧ r'.ver = r.ver ∧ (r.rw = true → r'.rw = true) ∧ Rs (Wr m h) H m r.cells r'.cells
  inj : ∀ id id' a, m id = some a → m id' = some a → id = id'
  dom : ∀ id a, m id = some a → id < h.length ∧ a < H.length

theorem PRel.empty (H : Heap) : PRel Map.none [] H := ⟨fun id r h => by simp at h, fun _ _ _ h => (by cases h), fun _ _ h => (by cases h)⟩

def FR (W : Nat → Prop) (H : Heap) (m : Map) (fr afr : Fr) : Prop := ∀ t, R W H m (fr t) (afr t)

section
variable {W W' : Nat → Prop} {H H' h h' : Heap} {m m' : Map} {fr afr : Fr}
theorem FR.mono (k : FR W H m fr afr) (s : Stp W H W' H') (e : MLe m m') : FR W' H' m' fr afr := fun t => (k t).mono s e
theorem FR.ev (k : FR W H m fr afr) {x : Operand} (hx : okO x = true) : R W H m (ev fr x) (ev afr x) := by
  cases x with
  | tmp t => exact k t
  | const v => exact plainV_R hx
  | global g => simp [okO] at hx
  | func f => exact .func rfl (fun i x y h => by simp at h) rfl (fun i x y h => by simp at h)
theorem FR.upd (k : FR W H m fr afr) (d : Option Nat) {p v : Value} (hv : R W H m p v) : FR W H m (updO fr d p) (updO afr d v) := by
  intro t
  cases d with
  | none => exact k t
  | some d =>
    simp only [updO, Am.upd]
    split
    · exact hv
    · exact k t
theorem FR.map (k : FR W H m fr afr) : ∀ {xs : List Operand}, okL xs = true → Rs W H m (xs.map (Am.ev fr)) (xs.map (Am.ev afr))
  | [], _ => .nil
  | x :: xs, hx => by
    simp only [okL, List.all_cons, Bool.and_eq_true] at hx
    exact .cons (k.ev hx.1) (FR.map k (by simpa [okL] using hx.2))

theorem PRel.row? (k : PRel m h H) {id ver : Nat} {r : Row} (hr : h.row? id ver = some r) : ∃ a r', m id = some a ∧ H.row? a ver = some r' ∧ r'.esz = r.esz ∧ r'.ver = r.ver ∧ (r.rw = true → r'.rw = true) ∧ Rs (Wr m h) H m r.cells r'.cells := by
  obtain ⟨h1, h2⟩ := Heap.row?_some hr
  obtain ⟨a, r', k1, k2, k3, k4, k5, k6⟩ := k.row id r h1
  exact ⟨a, r', k1, by simp [Heap.row?, k2, k4, h2], k3, k4, k5, k6⟩
end
end Pm
