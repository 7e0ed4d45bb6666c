/- The pure machine: lists, and lists that grow.
   No condition: plain lemmas. -/
import Derived.Test.YtjddnmjmaalcgaaPm5
namespace Pm
set_option linter.unusedSimpArgs false
set_option linter.unusedVariables false
open Go Am

/-! ### Values -/
abbrev vI : Int → Value := .int .i64
abbrev vB : Bool → Value := .bool
abbrev v8 : Nat → Value := fun x => .int .u8 x
abbrev vU : Nat → Value := fun x => .int .u64 x
abbrev nilS : Value := .slice none 0 0

/-- A list of values of one cell each. -/
def vL {α : Type} (f : α → Value) (l : List α) : Value := lst 1 l.length (l.map f)
/-- A list of values of more cells each. -/
class Flat {α : Type} (f : α → List Value) (e : outParam Nat) : Prop where
  len : ∀ x, (f x).length = e
def vM {α : Type} (e : Nat) (f : α → List Value) (l : List α) : Value := lst e l.length (l.flatMap f)

theorem flat_len {α : Type} {f : α → List Value} {e : Nat} (h : ∀ x, (f x).length = e) : ∀ l : List α, (l.flatMap f).length = l.length * e
  | [] => by simp
  | x :: l => by simp only [List.flatMap_cons, List.length_append, List.length_cons, flat_len h l, h, Nat.succ_mul]; omega
theorem flat_drop {α : Type} {f : α → List Value} {e : Nat} (h : ∀ x, (f x).length = e) : ∀ (l : List α) (i : Nat), (l.flatMap f).drop (i * e) = (l.drop i).flatMap f
  | l, 0 => by simp
  | [], i + 1 => by simp
  | x :: l, i + 1 => by
    rw [List.flatMap_cons, List.drop_succ_cons, ← flat_drop h l i, Nat.succ_mul, Nat.add_comm, ← h x, List.drop_append]
    simp [h]
theorem flat_take {α : Type} {f : α → List Value} {e : Nat} (h : ∀ x, (f x).length = e) : ∀ (l : List α) (i : Nat), (l.flatMap f).take (i * e) = (l.take i).flatMap f
  | l, 0 => by simp
  | [], i + 1 => by simp
  | x :: l, i + 1 => by
    rw [List.flatMap_cons, List.take_succ_cons, List.flatMap_cons, ← flat_take h l i, Nat.succ_mul, Nat.add_comm, List.take_append]
    simp [h, List.take_of_length_le]

section
variable {α : Type} {f : α → Value} {F : α → List Value} {l : List α} {e n : Nat} {cs : List Value} {k : IntKind} {x : Int} {h : Heap} {v : Value}
@[simp] theorem pLen_lst : pLen (lst e n cs) = some (.int .i64 n) := by simp [pLen]
@[simp] theorem pLen_vL : pLen (vL f l) = some (.int .i64 l.length) := by simp [vL]
@[simp] theorem pLen_vM : pLen (vM e F l) = some (.int .i64 l.length) := by simp [vM]
@[simp] theorem pLen_slice {o : Option Addr} {len ver : Nat} : pLen (.slice o len ver) = some (.int .i64 len) := Eq.trans rfl rfl
theorem map_seg (i : Nat) : ((l.map f).drop (i * 1)).take 1 = ((l[i]?).map f).toList := by
  rw [Nat.mul_one]
  by_cases h : i < l.length
  · rw [List.drop_eq_getElem_cons (by simpa using h)]; simp [h]
  · rw [List.drop_eq_nil_of_le (by simp; omega), List.getElem?_eq_none (by omega)]; rfl
@[simp] theorem pIdxA_vL : pIdxA 1 (vL f l) (.int k x) = if 0 ≤ x then (l[x.toNat]?).map fun y => fptr [f y] else none := by
  simp only [pIdxA, vL, asLst_lst, true_and, map_seg]
  by_cases h0 : 0 ≤ x
  · by_cases h1 : x.toNat < l.length
    · rw [if_pos ⟨h0, by omega⟩, if_pos h0]; simp [h1]
    · rw [if_neg (by omega), if_pos h0, List.getElem?_eq_none (by omega)]; rfl
  · rw [if_neg (by omega), if_neg h0]
@[simp] theorem pIdxA_vM [hF : Flat F e] : pIdxA e (vM e F l) (.int k x) = if 0 ≤ x then (l[x.toNat]?).map fun y => fptr (F y) else none := by
  simp only [pIdxA, vM, asLst_lst, true_and]
  by_cases h0 : 0 ≤ x
  · by_cases h1 : x.toNat < l.length
    · rw [if_pos ⟨h0, by omega⟩, if_pos h0, flat_drop hF.len, List.drop_eq_getElem_cons h1, List.flatMap_cons, List.take_append, hF.len, List.take_of_length_le (by rw [hF.len]; exact Nat.le_refl _)]
      simp [h1]
    · rw [if_neg (by omega), if_pos h0, List.getElem?_eq_none (by omega)]; rfl
  · rw [if_neg (by omega), if_neg h0]
@[simp] theorem pIdxA_slice {id off len ver : Nat} : pIdxA e (.slice (some ⟨id, off, none⟩) len ver) (.int k x) = if 0 ≤ x ∧ x < len then some (.pointer (some ⟨id, off + x.toNat * e, some ver⟩)) else none := Eq.trans rfl rfl
@[simp] theorem pLd_fptr : pLd h (fptr cs) = cs[0]? := by simp [pLd]
@[simp] theorem pLd_ptr {id off ver : Nat} : pLd h (.pointer (some ⟨id, off, some ver⟩)) = h.cell? id off ver := Eq.trans rfl rfl
@[simp] theorem pLdA_fptr : pLdA h n (fptr cs) = if n ≤ cs.length ∧ 0 < n then some (.agg (cs.take n).toArray) else none := by simp [pLdA]
@[simp] theorem pLdA_ptr {id off ver : Nat} : pLdA h n (.pointer (some ⟨id, off, some ver⟩)) = (h.cells? id off ver n).map fun l => .agg l.toArray := Eq.trans rfl rfl
@[simp] theorem pField_fptr {off : Nat} : pField off (fptr cs) = some (fptr (cs.drop off)) := by simp [pField]
@[simp] theorem pField_ptr {id off o ver : Nat} : pField o (.pointer (some ⟨id, off, some ver⟩)) = some (.pointer (some ⟨id, off + o, some ver⟩)) := Eq.trans rfl rfl
@[simp] theorem pIdxP_fptr : pIdxP n e (fptr cs) (.int k x) = if 0 ≤ x ∧ x < n then some (fptr (cs.drop (x.toNat * e))) else none := by simp [pIdxP]
@[simp] theorem pIdxP_ptr {id off ver : Nat} : pIdxP n e (.pointer (some ⟨id, off, some ver⟩)) (.int k x) = if 0 ≤ x ∧ x < n then some (.pointer (some ⟨id, off + x.toNat * e, some ver⟩)) else none := Eq.trans rfl rfl
@[simp] theorem pPtr_ptr {o : Addr} : pPtr (.pointer (some o)) = some (.pointer (some o)) := Eq.trans rfl rfl
@[simp] theorem pPtr_fptr : pPtr (fptr cs) = some (fptr cs) := by simp [pPtr]
@[simp] theorem pCut_vL {lo hi : Option Value} : pCut h 1 (vL f l) lo hi = match loV lo, hiV l.length hi with | some a, some b => if a ≤ b then some (vL f ((l.drop a).take (b - a))) else none | _, _ => none := by
  simp only [pCut, vL, asLst_lst, true_and, Nat.mul_one]
  cases h1 : loV lo with
  | none => rfl
  | some a =>
    cases h2 : hiV l.length hi with
    | none => rfl
    | some b =>
      have := hiV_le h2
      simp only [List.map_take, List.map_drop, List.length_take, List.length_drop]
      rw [show min (b - a) (l.length - a) = b - a by omega]
@[simp] theorem pCut_vM [hF : Flat F e] {lo hi : Option Value} : pCut h e (vM e F l) lo hi = match loV lo, hiV l.length hi with | some a, some b => if a ≤ b then some (vM e F ((l.drop a).take (b - a))) else none | _, _ => none := by
  simp only [pCut, vM, asLst_lst, true_and]
  cases h1 : loV lo with
  | none => rfl
  | some a =>
    cases h2 : hiV l.length hi with
    | none => rfl
    | some b =>
      have := hiV_le h2
      simp only
      rw [flat_drop hF.len, flat_take hF.len]
      simp only [List.length_take, List.length_drop]
      rw [show min (b - a) (l.length - a) = b - a by omega]
theorem pCut_own {o : Addr} {len ver : Nat} {lo hi : Option Value} : pCut h e (.slice (some o) len ver) lo hi = cutV h e (.slice (some o) len ver) lo hi := Eq.trans rfl rfl
@[simp] theorem pElems_vL : pElems h 1 (vL f l) = some (l.length, l.map f) := by simp [pElems, vL]
@[simp] theorem pElems_vM : pElems h e (vM e F l) = some (l.length, l.flatMap F) := by simp [pElems, vM]
@[simp] theorem pElems_lst : pElems h e (lst e n cs) = some (n, cs) := by simp [pElems]
@[simp] theorem pElems_nil : pElems h e nilS = some (0, []) := Eq.trans rfl rfl
theorem pElems_own {id off len ver : Nat} : pElems h e (.slice (some ⟨id, off, none⟩) len ver) = (h.cells? id off ver (len * e)).map fun l => (len, l) := Eq.trans rfl rfl
@[simp] theorem frzV_lst : frzV h e (lst n n cs) = some (lst n n cs, h) := by simp [frzV, frzC, lst, closedC]
theorem frzV_lst' {m : Nat} : frzV h e (lst m n cs) = some (lst m n cs, h) := by simp [frzV, frzC, lst, closedC]
@[simp] theorem frzV_vL : frzV h e (vL f l) = some (vL f l, h) := frzV_lst'
@[simp] theorem frzV_vM {m : Nat} : frzV h e (vM m F l) = some (vM m F l, h) := frzV_lst'
@[simp] theorem frzV_nil : frzV h e nilS = some (lst e 0 [], h) := Eq.trans rfl rfl
@[simp] theorem frzV_int : frzV h e (.int k x) = some (.int k x, h) := Eq.trans rfl rfl
@[simp] theorem frzV_bool {b : Bool} : frzV h e (.bool b) = some (.bool b, h) := Eq.trans rfl rfl
@[simp] theorem closedC_int : closedC (.int k x) = true := Eq.trans rfl rfl
@[simp] theorem closedC_bool {b : Bool} : closedC (.bool b) = true := Eq.trans rfl rfl
@[simp] theorem closedC_string {b : ByteArray} : closedC (.string b) = true := Eq.trans rfl rfl
@[simp] theorem closedC_lst {m : Nat} : closedC (lst m n cs) = true := Eq.trans rfl rfl
@[simp] theorem closedC_vL : closedC (vL f l) = true := Eq.trans rfl rfl
@[simp] theorem closedC_vM : closedC (vM e F l) = true := Eq.trans rfl rfl
@[simp] theorem fillL_none {zs : List Value} : fillL zs [] = some zs := Eq.trans rfl rfl
@[simp] theorem fillL_one {zs : List Value} {o m : Nat} {ps : List (Nat × Nat × Value)} : fillL zs ((o, m, v) :: ps) = match cellsOf v with | some vs => if vs.length = m ∧ o + m ≤ zs.length then fillL (setAll zs o vs) ps else none | none => none := Eq.trans rfl rfl
@[simp] theorem cellsOf_int : cellsOf (.int k x) = some [.int k x] := Eq.trans rfl rfl
@[simp] theorem cellsOf_bool {b : Bool} : cellsOf (.bool b) = some [.bool b] := Eq.trans rfl rfl
@[simp] theorem cellsOf_string {b : ByteArray} : cellsOf (.string b) = some [.string b] := Eq.trans rfl rfl
@[simp] theorem cellsOf_slice {o : Option Addr} {len ver : Nat} : cellsOf (.slice o len ver) = some [.slice o len ver] := Eq.trans rfl rfl
@[simp] theorem cellsOf_pointer {o : Option Addr} : cellsOf (.pointer o) = some [.pointer o] := Eq.trans rfl rfl
@[simp] theorem cellsOf_lst {m : Nat} : cellsOf (lst m n cs) = some [lst m n cs] := Eq.trans rfl rfl
@[simp] theorem cellsOf_vL : cellsOf (vL f l) = some [vL f l] := Eq.trans rfl rfl
@[simp] theorem cellsOf_vM : cellsOf (vM e F l) = some [vM e F l] := Eq.trans rfl rfl
@[simp] theorem cellsOf_agg {xs : Array Value} : cellsOf (.agg xs) = if xs.toList.all cellLike then some xs.toList else none := Eq.trans rfl rfl
@[simp] theorem cellLike_int : cellLike (.int k x) = true := Eq.trans rfl rfl
@[simp] theorem cellLike_bool {b : Bool} : cellLike (.bool b) = true := Eq.trans rfl rfl
@[simp] theorem cellLike_string {b : ByteArray} : cellLike (.string b) = true := Eq.trans rfl rfl
@[simp] theorem cellLike_slice {o : Option Addr} {len ver : Nat} : cellLike (.slice o len ver) = true := Eq.trans rfl rfl
@[simp] theorem cellLike_vL : cellLike (vL f l) = true := Eq.trans rfl rfl
@[simp] theorem cellLike_vM : cellLike (vM e F l) = true := Eq.trans rfl rfl
@[simp] theorem setAll_nil {zs : List Value} {o : Nat} : setAll zs o [] = zs := Eq.trans rfl rfl
@[simp] theorem setAll_cons {zs vs : List Value} {o : Nat} : setAll zs o (v :: vs) = setAll (zs.set o v) (o + 1) vs := Eq.trans rfl rfl
@[simp] theorem partV_some {xs : Array Value} {off : Nat} : partV (some n) off (.agg xs) = if off + n ≤ xs.size then some (.agg (xs.extract off (off + n))) else none := Eq.trans rfl rfl
@[simp] theorem partV_none {xs : Array Value} {off : Nat} : partV none off (.agg xs) = xs[off]? := Eq.trans rfl rfl
@[simp] theorem idxV_int {o : Option Nat} {len : Nat} : idxV o len e v (.int k x) = if 0 ≤ x ∧ x < len then partV o (x.toNat * e) v else none := Eq.trans rfl rfl
@[simp] theorem eqAV_agg {ks : List Nat} {g : Bool} {xs ys : Array Value} : eqAV ks g (.agg xs) (.agg ys) = (eqCs ks xs.toList ys.toList).map fun b => .bool (if g then !b else b) := Eq.trans rfl rfl
@[simp] theorem eqCs_nil : eqCs [] [] [] = some true := Eq.trans rfl rfl
theorem eqCs_cons {k : Nat} {ks : List Nat} {x y : Value} {xs ys : List Value} : eqCs (k :: ks) (x :: xs) (y :: ys) = match eqC k x y with | some true => eqCs ks xs ys | some false => some false | none => none := Eq.trans rfl rfl
/-- Numbers, truth values, strings side by side. -/
@[simp] theorem eqCs_int {ks : List Nat} {kk : IntKind} {a b : Int} {xs ys : List Value} : eqCs (0 :: ks) (.int kk a :: xs) (.int kk b :: ys) = if a = b then eqCs ks xs ys else some false := by
  rw [eqCs_cons]
  simp only [eqC, if_true]
  by_cases h : a = b
  · simp [h]
  · have : (a == b) = false := by simpa using h
    simp [h, this]
@[simp] theorem eqCs_bool {ks : List Nat} {a b : Bool} {xs ys : List Value} : eqCs (1 :: ks) (.bool a :: xs) (.bool b :: ys) = if a = b then eqCs ks xs ys else some false := by
  rw [eqCs_cons]
  simp only [eqC]
  cases a <;> cases b <;> simp
@[simp] theorem mmV_nil {mx : Bool} : mmV mx v [] = some v := by simp [mmV]
@[simp] theorem mmV_cons {mx : Bool} {k' : IntKind} {a b : Int} {ys : List Value} : mmV mx (.int k a) (.int k' b :: ys) = mmV mx (.int k (if (if mx then a < b else b < a) then b else a)) ys := by simp [mmV]
end

@[simp] theorem enterF_eq {args : List Value} {t : Nat} : enterF args t = (args[t]?).getD (.tuple #[]) := Eq.trans rfl rfl

/-! ### Heaps -/
def Keeps (b : Nat) (h h' : Heap) : Prop := h.length ≤ h'.length ∧ ∀ i, i < b → h'[i]? = h[i]?
theorem Keeps.refl (b : Nat) (h : Heap) : Keeps b h h := ⟨Nat.le_refl _, fun _ _ => rfl⟩
theorem Keeps.trans {b : Nat} {h h1 h2 : Heap} (k : Keeps b h h1) (k' : Keeps b h1 h2) : Keeps b h h2 := ⟨Nat.le_trans k.1 k'.1, fun i hi => by rw [k'.2 i hi, k.2 i hi]⟩
theorem Keeps.new {b : Nat} {h h1 : Heap} (k : Keeps b h h1) (hb : b ≤ h.length) (vs : List Value) (e : Nat) : Keeps b h (Am.newRow h1 vs e) :=
  ⟨by simp [Am.newRow]; exact Nat.le_succ_of_le k.1, fun i hi => by unfold Am.newRow; rw [List.getElem?_append_left (by have := k.1; omega)]; exact k.2 i hi⟩
theorem Keeps.ext {h h' : Heap} (k : Keeps h.length h h') : ∃ g, h' = h ++ g := by
  refine ⟨h'.drop h.length, ?_⟩
  apply List.ext_getElem?
  intro i
  by_cases hi : i < h.length
  · rw [List.getElem?_append_left hi]; exact k.2 i hi
  · rw [List.getElem?_append_right (by omega), List.getElem?_drop]; congr 1; omega
theorem Keeps.app {h g : Heap} : Keeps h.length h (h ++ g) := ⟨by simp, fun i hi => List.getElem?_append_left hi⟩

/-- A row that was just made, and is not written any more. -/
@[simp] theorem frzV_new {h : Heap} {cs : List Value} {e e' n k : Nat} (hk : k = h.length) (hl : cs.length = n * e) (hc : cs.all closedC = true) : frzV (Am.newRow h cs e) e' (.slice (some ⟨k, 0, none⟩) n 0) = some (lst e n cs, h ++ [.row ⟨cs, e, 0, false⟩]) := by
  subst hk
  have hs : seg cs 0 (n * e) = cs := by unfold seg; rw [List.drop_zero, List.take_of_length_le (by omega)]
  simp only [frzV, frzC, Heap.row?, Am.newRow, app_at0, List.getElem?_cons_zero, if_true, hs, hc]
  rw [if_pos ⟨by omega, trivial⟩]
  simp
@[simp] theorem lst_one {x : Int} : lst 1 1 [.int .i64 x] = vL vI [x] := Eq.trans rfl rfl
@[simp] theorem lst_two {x y : Int} : lst 1 2 [.int .i64 x, .int .i64 y] = vL vI [x, y] := Eq.trans rfl rfl
@[simp] theorem lst_three {x y z : Int} : lst 1 3 [.int .i64 x, .int .i64 y, .int .i64 z] = vL vI [x, y, z] := Eq.trans rfl rfl

/-! ### A list that grows -/
def Acc (e b : Nat) (h : Heap) (v : Value) (n : Nat) (cs : List Value) : Prop :=
  (v = nilS ∧ n = 0 ∧ cs = []) ∨ ∃ id ver, v = .slice (some ⟨id, 0, none⟩) n ver ∧ b ≤ id ∧ h[id]? = some (.row ⟨cs, e, ver, true⟩) ∧ cs.length = n * e
def rid : Value → Option Nat
  | .slice (some a) _ _ => some a.block
  | _ => none
/-- Not of the same row. -/
def Apart (v w : Value) : Prop := ∀ i, rid v = some i → rid w ≠ some i
theorem Apart.symm {v w : Value} (h : Apart v w) : Apart w v := fun i h1 h2 => h i h2 h1
theorem Apart.nil {v : Value} : Apart nilS v := fun i h => by simp [rid] at h

section
variable {e b : Nat} {h h' : Heap} {v w : Value} {n : Nat} {cs : List Value}
theorem Acc.nil : Acc e b h nilS 0 [] := .inl ⟨rfl, rfl, rfl⟩
theorem Acc.len (ha : Acc e b h v n cs) : pLen v = some (.int .i64 n) := by
  rcases ha with ⟨rfl, rfl, _⟩ | ⟨id, ver, rfl, _⟩ <;> rfl
theorem Acc.lt (ha : Acc e b h v n cs) {i : Nat} (hi : rid v = some i) : i < h.length := by
  rcases ha with ⟨rfl, _⟩ | ⟨id, ver, rfl, _, hr, _⟩
  · simp [rid] at hi
  · simp [rid] at hi; subst hi; exact (List.getElem?_eq_some_iff.1 hr).1
/-- Another one's rows change. -/
theorem Acc.keep (ha : Acc e b h v n cs) (hk : ∀ i, rid v = some i → h'[i]? = h[i]?) : Acc e b h' v n cs := by
  rcases ha with ⟨rfl, h1, h2⟩ | ⟨id, ver, rfl, h1, h2, h3⟩
  · exact .inl ⟨rfl, h1, h2⟩
  · exact .inr ⟨id, ver, rfl, h1, by rw [hk id rfl]; exact h2, h3⟩
theorem Acc.ext (ha : Acc e b h v n cs) (hk : Keeps h.length h h') : Acc e b h' v n cs := ha.keep fun i hi => hk.2 i (ha.lt hi)
/-- More is laid behind it. -/
theorem Acc.app (ha : Acc e b h v n cs) (hb : b ≤ h.length) {h1 : Heap} (hx : Keeps h.length h h1) {x : Value} {k : Nat} {new : List Value} (hn : pElems h1 e x = some (k, new)) (hl : new.length = k * e) (hlim : n + k ≤ lim) :
    ∃ v' h2, pApp h1 e v x = some (v', h2) ∧ Acc e b h2 v' (n + k) (cs ++ new) ∧ Keeps b h h2 ∧ (∀ i, i < h.length → rid v ≠ some i → h2[i]? = h[i]?) ∧ ∀ i, rid v' = some i → rid v = some i ∨ h.length ≤ i := by
  simp only [pApp, hn]
  rcases ha with ⟨rfl, rfl, rfl⟩ | ⟨id, ver, rfl, h2, h3, h4⟩
  · simp only [pMore]
    by_cases h0 : k = 0
    · subst h0
      have : new = [] := List.length_eq_zero_iff.1 (by simpa using hl)
      subst this
      exact ⟨nilS, h1, by rw [if_pos rfl], .nil, ⟨hx.1, fun i hi => hx.2 i (by omega)⟩, fun i hi _ => hx.2 i hi, fun i hi => by simp [rid] at hi⟩
    · rw [if_neg h0, if_pos (by omega)]
      have h1l := hx.1
      refine ⟨_, _, rfl, .inr ⟨h1.length, 0, by simp, by omega, by simp [Am.newRow], by simpa using hl⟩, ⟨by simp [Am.newRow]; omega, fun i hi => ?_⟩, fun i hi _ => ?_, fun i hi => ?_⟩
      · unfold Am.newRow; rw [List.getElem?_append_left (by omega)]; exact hx.2 i (by omega)
      · unfold Am.newRow; rw [List.getElem?_append_left (by omega)]; exact hx.2 i hi
      · simp [rid] at hi; omega
  · have hid := (List.getElem?_eq_some_iff.1 h3).1
    have h3' : h1[id]? = some (.row ⟨cs, e, ver, true⟩) := by rw [hx.2 id hid]; exact h3
    have h1l := hx.1
    simp only [pMore, Heap.row?, h3', if_true]
    rw [if_pos ⟨trivial, trivial, by omega, hlim⟩]
    refine ⟨_, _, rfl, .inr ⟨id, ver + 1, rfl, h2, ?_, by simp [hl, h4, Nat.add_mul]⟩, ⟨by simpa using h1l, fun i hi => ?_⟩, fun i hi hne => ?_, fun i hi => ?_⟩
    · rw [List.getElem?_set_self (by omega), List.drop_zero, List.take_of_length_le (by omega)]
    · rw [List.getElem?_set_ne (by omega)]; exact hx.2 i (by omega)
    · rw [List.getElem?_set_ne (fun x => hne (by rw [x]; rfl))]; exact hx.2 i hi
    · simp [rid] at hi ⊢; exact .inl hi
/-- It is not written any more. -/
theorem Acc.frz (ha : Acc e b h v n cs) (hc : cs.all closedC = true) : ∃ h', frzV h e v = some (lst e n cs, h') ∧ Keeps b h h' ∧ h'.length = h.length ∧ ∀ i, rid v ≠ some i → h'[i]? = h[i]? := by
  rcases ha with ⟨rfl, rfl, rfl⟩ | ⟨id, ver, rfl, h2, h3, h4⟩
  · exact ⟨h, rfl, .refl _ _, rfl, fun _ _ => rfl⟩
  · have hs : seg cs 0 (n * e) = cs := by unfold seg; rw [List.drop_zero, List.take_of_length_le (by omega)]
    refine ⟨h.set id (.row ⟨cs, e, ver, false⟩), ?_, ⟨by simp, fun i hi => by rw [List.getElem?_set_ne (by omega)]⟩, by simp, fun i hi => by rw [List.getElem?_set_ne (fun x => hi (by rw [x]; rfl))]⟩
    simp only [frzV, frzC, Heap.row?, h3, if_true, hs, hc]
    rw [if_pos ⟨by omega, trivial⟩]
theorem Acc.inl (ha : Acc e b h v n cs) (hc : cs.all closedC = true) : Inl b h v (lst e n cs) := by
  rcases ha with ⟨rfl, rfl, rfl⟩ | ⟨id, ver, rfl, h2, h3, h4⟩
  · exact .nil
  · exact .row (r := ⟨cs, e, ver, true⟩) h2 (by simp [Heap.row?, h3]) (by simp; omega) h4 fun j c c' h5 h6 => by
      simp only [Nat.zero_add] at h5
      rw [h5] at h6; cases h6
      exact .cell (List.all_eq_true.1 hc _ (List.mem_of_getElem? h5))
end

/-- One of values of one cell each. -/
def AccL {α : Type} (f : α → Value) (b : Nat) (h : Heap) (v : Value) (l : List α) : Prop := Acc 1 b h v l.length (l.map f)
def AccM {α : Type} (e : Nat) (f : α → List Value) (b : Nat) (h : Heap) (v : Value) (l : List α) : Prop := Acc e b h v l.length (l.flatMap f)
section
variable {α : Type} {f : α → Value} {F : α → List Value} {e b : Nat} {h h' : Heap} {v : Value} {l : List α}
theorem AccL.nil : AccL f b h nilS [] := Acc.nil
theorem AccM.nil : AccM e F b h nilS [] := Acc.nil
theorem AccL.ext (ha : AccL f b h v l) (hk : Keeps h.length h h') : AccL f b h' v l := Acc.ext ha hk
theorem AccM.ext (ha : AccM e F b h v l) (hk : Keeps h.length h h') : AccM e F b h' v l := Acc.ext ha hk
theorem closed_map (hc : ∀ x, closedC (f x) = true) (l : List α) : (l.map f).all closedC = true := by simp [hc]
theorem closed_flat (hc : ∀ x, (F x).all closedC = true) (l : List α) : (l.flatMap F).all closedC = true := by
  rw [List.all_eq_true]
  intro c hx
  obtain ⟨y, _, hy⟩ := List.mem_flatMap.1 hx
  exact List.all_eq_true.1 (hc y) c hy
theorem AccL.inl (ha : AccL f b h v l) (hc : ∀ x, closedC (f x) = true) : Inl b h v (vL f l) := Acc.inl ha (closed_map hc l)
theorem AccM.inl (ha : AccM e F b h v l) (hc : ∀ x, (F x).all closedC = true) : Inl b h v (vM e F l) := Acc.inl ha (closed_flat hc l)
section
variable {P : Program} {K : Fr → Heap → Prop} {is : List AIns} {d : Option Nat} {fr : Fr}
/-- One element more, out of a row that was made for it. -/
theorem AccL.push (ha : AccL f b h v l) (hb : b ≤ h.length) (hl : l.length < lim) {x : α} (hk : ∀ v' h', AccL f b h' v' (l ++ [x]) → Keeps b h h' → (∀ i, i < h.length → rid v ≠ some i → h'[i]? = h[i]?) → (∀ i, rid v' = some i → rid v = some i ∨ h.length ≤ i) → pOps P K is (updO fr d v') h') :
    eK P K is d [] fr (pApp (Am.newRow h [f x] 1) 1 v (.slice (some ⟨h.length, 0, none⟩) 1 0)) := by
  obtain ⟨v', h2, k1, k2, k3, k4, k5⟩ := Acc.app ha hb (h1 := Am.newRow h [f x] 1) ((Keeps.refl _ _).new (Nat.le_refl _) _ _) (x := .slice (some ⟨h.length, 0, none⟩) 1 0) (k := 1) (new := [f x]) (by simp [pElems_own, Heap.cells?, Heap.row?, Am.newRow]) rfl (by omega)
  rw [k1, eK_some]
  exact ⟨rfl, hk v' h2 (by simpa [AccL] using k2) k3 k4 k5⟩
theorem AccM.push [hF : Flat F e] (ha : AccM e F b h v l) (hb : b ≤ h.length) (hl : l.length < lim) {x : α} {cs : List Value} (hx : F x = cs) (hk : ∀ v' h', AccM e F b h' v' (l ++ [x]) → Keeps b h h' → (∀ i, i < h.length → rid v ≠ some i → h'[i]? = h[i]?) → (∀ i, rid v' = some i → rid v = some i ∨ h.length ≤ i) → pOps P K is (updO fr d v') h') :
    eK P K is d [] fr (pApp (Am.newRow h cs e) e v (.slice (some ⟨h.length, 0, none⟩) 1 0)) := by
  subst hx
  obtain ⟨v', h2, k1, k2, k3, k4, k5⟩ := Acc.app ha hb (h1 := Am.newRow h (F x) e) ((Keeps.refl _ _).new (Nat.le_refl _) _ _) (x := .slice (some ⟨h.length, 0, none⟩) 1 0) (k := 1) (new := F x) (by
    have := hF.len x
    simp [pElems_own, Heap.cells?, Heap.row?, Am.newRow, this]
    exact List.take_of_length_le (by omega)) (by rw [hF.len]; omega) (by omega)
  rw [k1, eK_some]
  exact ⟨rfl, hk v' h2 (by simpa [AccM] using k2) k3 k4 k5⟩
theorem AccL.pushK (ha : AccL f b h v l) (hb : b ≤ h.length) (hl : l.length < lim) {x : α} {k : Nat} (hx : k = h.length) (hk : ∀ v' h', AccL f b h' v' (l ++ [x]) → Keeps b h h' → (∀ i, i < h.length → rid v ≠ some i → h'[i]? = h[i]?) → (∀ i, rid v' = some i → rid v = some i ∨ h.length ≤ i) → pOps P K is (updO fr d v') h') :
    eK P K is d [] fr (pApp (Am.newRow h [f x] 1) 1 v (.slice (some ⟨k, 0, none⟩) 1 0)) := by
  subst hx; exact ha.push hb hl hk
theorem AccM.pushK [hF : Flat F e] (ha : AccM e F b h v l) (hb : b ≤ h.length) (hl : l.length < lim) {x : α} {cs : List Value} (hx : F x = cs) {k : Nat} (hkk : k = h.length) (hk : ∀ v' h', AccM e F b h' v' (l ++ [x]) → Keeps b h h' → (∀ i, i < h.length → rid v ≠ some i → h'[i]? = h[i]?) → (∀ i, rid v' = some i → rid v = some i ∨ h.length ≤ i) → pOps P K is (updO fr d v') h') :
    eK P K is d [] fr (pApp (Am.newRow h cs e) e v (.slice (some ⟨k, 0, none⟩) 1 0)) := by
  subst hkk; exact ha.push hb hl hx hk
/-- A whole list behind it. -/
theorem AccL.apps (ha : AccL f b h v l) (hb : b ≤ h.length) {x : Value} {m : List α} (hx : pElems h 1 x = some (m.length, m.map f)) (hl : l.length + m.length ≤ lim) (hk : ∀ v' h', AccL f b h' v' (l ++ m) → Keeps b h h' → (∀ i, i < h.length → rid v ≠ some i → h'[i]? = h[i]?) → (∀ i, rid v' = some i → rid v = some i ∨ h.length ≤ i) → pOps P K is (updO fr d v') h') :
    eK P K is d [] fr (pApp h 1 v x) := by
  obtain ⟨v', h2, k1, k2, k3, k4, k5⟩ := Acc.app ha hb (.refl _ _) hx (by simp) hl
  rw [k1, eK_some]
  exact ⟨rfl, hk v' h2 (by simpa [AccL] using k2) k3 k4 k5⟩
theorem AccM.apps [hF : Flat F e] (ha : AccM e F b h v l) (hb : b ≤ h.length) {x : Value} {m : List α} (hx : pElems h e x = some (m.length, m.flatMap F)) (hl : l.length + m.length ≤ lim) (hk : ∀ v' h', AccM e F b h' v' (l ++ m) → Keeps b h h' → (∀ i, i < h.length → rid v ≠ some i → h'[i]? = h[i]?) → (∀ i, rid v' = some i → rid v = some i ∨ h.length ≤ i) → pOps P K is (updO fr d v') h') :
    eK P K is d [] fr (pApp h e v x) := by
  obtain ⟨v', h2, k1, k2, k3, k4, k5⟩ := Acc.app ha hb (.refl _ _) hx (flat_len hF.len m) hl
  rw [k1, eK_some]
  exact ⟨rfl, hk v' h2 (by simpa [AccM] using k2) k3 k4 k5⟩
theorem AccL.frz {t : Nat} (ha : AccL f b h v l) (hc : ∀ x, closedC (f x) = true) (hk : ∀ h', Keeps b h h' → h'.length = h.length → (∀ i, rid v ≠ some i → h'[i]? = h[i]?) → pOps P K is (upd fr t (vL f l)) h') : zK P K is t fr (frzV h 1 v) := by
  obtain ⟨h', k1, k2, k3, k4⟩ := Acc.frz ha (closed_map hc l)
  rw [k1, zK_some]; exact hk h' k2 k3 k4
theorem AccM.frz {t : Nat} (ha : AccM e F b h v l) (hc : ∀ x, (F x).all closedC = true) (hk : ∀ h', Keeps b h h' → h'.length = h.length → (∀ i, rid v ≠ some i → h'[i]? = h[i]?) → pOps P K is (upd fr t (vM e F l)) h') : zK P K is t fr (frzV h e v) := by
  obtain ⟨h', k1, k2, k3, k4⟩ := Acc.frz ha (closed_flat hc l)
  rw [k1, zK_some]; exact hk h' k2 k3 k4
end
theorem Pure.list {P : Program} {g : FuncId} {args : List Value} (hc : ∀ x, closedC (f x) = true) (k : ∀ h, PCall P g args h fun v h' => Keeps h.length h h' ∧ AccL f h.length h' v l) : Pure P g args (vL f l) :=
  .of fun h => (k h).mono fun _ _ ⟨h1, h2⟩ => ⟨h1.ext, h2.inl hc⟩
theorem Pure.rows {P : Program} {g : FuncId} {args : List Value} (hc : ∀ x, (F x).all closedC = true) (k : ∀ h, PCall P g args h fun v h' => Keeps h.length h h' ∧ AccM e F h.length h' v l) : Pure P g args (vM e F l) :=
  .of fun h => (k h).mono fun _ _ ⟨h1, h2⟩ => ⟨h1.ext, h2.inl hc⟩
theorem Pure.plain {P : Program} {g : FuncId} {args : List Value} {p : Value} (hc : closedC p = true) (k : ∀ h, PCall P g args h fun v h' => Keeps h.length h h' ∧ v = p) : Pure P g args p :=
  .of fun h => (k h).mono fun _ _ ⟨h1, h2⟩ => ⟨h1.ext, by subst h2; exact .cell hc⟩
end
end Pm
