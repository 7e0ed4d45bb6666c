/- The pure machine: a law's call, and what its arguments are.
   No condition: plain lemmas. -/
import Derived.Test.YtmdnkninbkcmkaaZHPmEnter
namespace Pm
set_option linter.unusedSimpArgs false
set_option linter.unusedVariables false
open Go Am

theorem law_of {P : Program} {f : FuncId} {args acs : List Value} {m : Mu} {H : Heap} {w : World} {cargs : Array Value} (h : PCall P f args [] fun r _ => r = .bool true) (hc : Came m H w) (hi : In m H w cargs.toList acs args) :
    Calls P f cargs w fun e w' => e = .returned (.bool true) ∧ RowKit.Below w.heap.size w w' := by
  refine Am.law_of (args := acs) (m := m) (H := H) ((h Map.none H acs (.empty H) (hi.pm.mono (.less fun a ⟨id, r, h, _⟩ => by simp at h) (.refl _))).mono fun v H' => ?_) hc hi.rel
  rintro ⟨p, h', m', rfl, _, hr, _, _⟩
  exact r_bool hr

/-- An instruction of the program's programs. -/
structure Ins where
  op : Nat
  a : Int
  b : Int
  c : Int
theorem Ins.ext_iff' {x y : Ins} : x = y ↔ x.op = y.op ∧ x.a = y.a ∧ x.b = y.b ∧ x.c = y.c := by
  cases x; cases y; simp
instance : DecidableEq Ins := fun _ _ => decidable_of_iff _ Ins.ext_iff'.symm
def vIns (i : Ins) : List Value := [v8 i.op, vI i.a, vI i.b, vI i.c]
instance : Flat vIns 4 := ⟨fun _ => rfl⟩

def inI (n : Int) : Prop := -9223372036854775808 ≤ n ∧ n ≤ 9223372036854775807
theorem wf_u8 {n : Int} (h : (Lit.int .u8 n).wf = true) : ∃ k : Nat, n = k ∧ k ≤ 255 := by
  have : 0 ≤ n ∧ n ≤ 255 := by simpa [Lit.wf, IntKind.min, IntKind.max, IntKind.signed, IntKind.bits] using h
  exact ⟨n.toNat, by omega, by omega⟩
theorem wf_i64 {n : Int} (h : (Lit.int .i64 n).wf = true) : inI n := by
  simpa [Lit.wf, IntKind.min, IntKind.max, IntKind.signed, IntKind.bits, inI] using h
theorem dec_list {α : Type} {F : α → List Value} {Q : α → Prop} {e : Sh} (he : ∀ x, Fits e x → ∃ y, x = F y ∧ Q y) : ∀ (xs : List (List Value)), (∀ x ∈ xs, Fits e x) → ∃ l : List α, xs.flatten = l.flatMap F ∧ xs.length = l.length ∧ ∀ y ∈ l, Q y
  | [], _ => ⟨[], rfl, rfl, fun y h => by simp at h⟩
  | x :: xs, h => by
    obtain ⟨y, rfl, hy⟩ := he x (h x (by simp))
    obtain ⟨l, h1, h2, h3⟩ := dec_list he xs fun z hz => h z (by simp [hz])
    refine ⟨y :: l, by simp [h1], by simp [h2], fun z hz => ?_⟩
    rcases List.mem_cons.1 hz with rfl | hz
    · exact hy
    · exact h3 z hz
theorem dec_L {α : Type} {f : α → Value} {Q : α → Prop} {e : Sh} (he : ∀ x, Fits e x → ∃ y, x = [f y] ∧ Q y) (h1 : e.size = 1) (xs : List (List Value)) (h : ∀ x ∈ xs, Fits e x) : ∃ l : List α, lst e.size xs.length xs.flatten = vL f l ∧ xs.length = l.length ∧ ∀ y ∈ l, Q y := by
  obtain ⟨l, k1, k2, k3⟩ := dec_list (F := fun y => [f y]) he xs h
  refine ⟨l, ?_, k2, k3⟩
  rw [k1, k2, h1, vL]
  congr 1
  clear k1 k2 k3 h
  induction l with
  | nil => rfl
  | cons a l ih => simp [List.flatMap_cons, ih]
theorem dec_u8 (x : List Value) (h : Fits (.int .u8 .nil) x) : ∃ y : Nat, x = [v8 y] ∧ y ≤ 255 := by
  obtain ⟨n, cs, rfl, hw, rfl⟩ := h
  obtain ⟨k, rfl, hk⟩ := wf_u8 hw
  exact ⟨k, rfl, hk⟩
theorem dec_i64 (x : List Value) (h : Fits (.int .i64 .nil) x) : ∃ y : Int, x = [vI y] ∧ inI y := by
  obtain ⟨n, cs, rfl, hw, rfl⟩ := h
  exact ⟨n, rfl, wf_i64 hw⟩
/-- Not longer than may be. -/
def Short {α : Type} (l : List α) : Prop := l.length < 9223372036854775808
theorem short_of {α : Type} {l : List α} {n : Nat} (h : n ≤ maxLen) (e : n = l.length) : Short l := by
  have : maxLen = 9223372036854775807 := rfl
  unfold Short; omega
def Bytes (l : List Nat) : Prop := Short l ∧ ∀ k ∈ l, k ≤ 255
theorem dec_bytes (x : List Value) (h : Fits (.sl (.int .u8 .nil) .nil) x) : ∃ y : List Nat, x = [vL v8 y] ∧ Bytes y := by
  obtain ⟨xs, cs, rfl, hm, hx, rfl⟩ := h
  obtain ⟨l, h1, h2, h3⟩ := dec_L dec_u8 rfl xs hx
  exact ⟨l, by rw [h1], short_of hm h2, h3⟩
theorem dec_ints (x : List Value) (h : Fits (.sl (.int .i64 .nil) .nil) x) : ∃ y : List Int, x = [vL vI y] ∧ Short y ∧ ∀ k ∈ y, inI k := by
  obtain ⟨xs, cs, rfl, hm, hx, rfl⟩ := h
  obtain ⟨l, h1, h2, h3⟩ := dec_L dec_i64 rfl xs hx
  exact ⟨l, by rw [h1], short_of hm h2, h3⟩
theorem dec_intss (x : List Value) (h : Fits (.sl (.sl (.int .i64 .nil) .nil) .nil) x) : ∃ y : List (List Int), x = [vL (vL vI) y] ∧ Short y ∧ ∀ l ∈ y, Short l ∧ ∀ k ∈ l, inI k := by
  obtain ⟨xs, cs, rfl, hm, hx, rfl⟩ := h
  obtain ⟨l, h1, h2, h3⟩ := dec_L dec_ints rfl xs hx
  exact ⟨l, by rw [h1], short_of hm h2, h3⟩
/-- An instruction that may come in. -/
structure Ins.In (i : Ins) : Prop where
  op : i.op ≤ 255
  a : inI i.a
  b : inI i.b
  c : inI i.c
theorem fits_app {s : Sh} {a : Sh} {pcs : List Value} (h : Fits (a.app s) pcs) : ∃ q r, pcs = q ++ r ∧ Fits a q ∧ Fits s r := by
  induction a generalizing pcs with
  | nil => exact ⟨[], pcs, rfl, rfl, h⟩
  | int k t ih =>
    obtain ⟨n, cs, rfl, hw, h⟩ := h
    obtain ⟨q, r, rfl, h1, h2⟩ := ih h
    exact ⟨_ :: q, r, rfl, ⟨n, q, rfl, hw, h1⟩, h2⟩
  | bool t ih =>
    obtain ⟨n, cs, rfl, h⟩ := h
    obtain ⟨q, r, rfl, h1, h2⟩ := ih h
    exact ⟨_ :: q, r, rfl, ⟨n, q, rfl, h1⟩, h2⟩
  | string t ih =>
    obtain ⟨n, cs, rfl, hw, h⟩ := h
    obtain ⟨q, r, rfl, h1, h2⟩ := ih h
    exact ⟨_ :: q, r, rfl, ⟨n, q, rfl, hw, h1⟩, h2⟩
  | sl e t _ ih =>
    obtain ⟨n, cs, rfl, hw, hx, h⟩ := h
    obtain ⟨q, r, rfl, h1, h2⟩ := ih h
    exact ⟨_ :: q, r, rfl, ⟨n, q, rfl, hw, hx, h1⟩, h2⟩
end Pm
