/- The abstract machine, fifth part: operations that make rows or write into them, and that they are right.
   No condition: plain lemmas. -/
import Derived.Test.YtjddnmjmaalcgaaAmQuiet2
namespace Am
set_option linter.unusedSimpArgs false
set_option linter.unusedVariables false
open Go

theorem oneCell_of {v : Value} (h : cellLike v = true) : v.oneCell' = true := by cases v <;> simp_all [cellLike, Value.oneCell']

/-- A row becomes another one: in its place, or in a new block. -/
theorem ARel.turn {m m' : Mu} {H : Heap} {w w' : World} (h : ARel m H w) {id : Nat} {r r' : Row} (hr : H[id]? = some (.row r)) {L L' : Loc} (hL : m id r.ver = some L) (hrw : r.rw = true)
    {cs' : Array Value} {T : TypeId} (hb : w'.heap[L'.blk]? = some (.cells cs' T (0, 0))) (hsame : ∀ b, b < w.heap.size → b ≠ L.blk → w'.heap[b]? = w.heap[b]?)
    (hsize : w.heap.size ≤ w'.heap.size) (hos : w'.os = w.os) (htape : w'.tape = w.tape) (hout : w'.output = w.output) (hblk : L'.blk = L.blk ∨ w.heap.size ≤ L'.blk)
    (hext : MExt m m') (hm' : m' id r'.ver = some L') (hon : ∀ i v L0, m' i v = some L0 → m i v = some L0 ∨ (i = id ∧ v = r'.ver)) (hver : r.ver ≤ r'.ver) (_hrw' : r'.rw = true)
    (hesz : L'.esz = r'.esz) (hroom : L'.base + L'.room ≤ cs'.size) (hlen : r'.cells.length ≤ L'.room)
    (hcells : ∀ (j : Nat) (v : Value), r'.cells[j]? = some v → ∃ c, cs'[L'.base + j]? = some c ∧ VRel m v c ∧ cellLike v = true) :
    ARel m' (H.set id (.row r')) w' ∧ Kept m H w m' (H.set id (.row r')) w' := by
  have hlt : id < H.length := (List.getElem?_eq_some_iff.1 hr).1
  have hself : (H.set id (.row r'))[id]? = some (.row r') := by rw [List.getElem?_set_self hlt]
  have hother : ∀ (i : Nat) (q : Row), i ≠ id → (H.set id (.row r'))[i]? = some (.row q) → H[i]? = some (.row q) := by
    intro i q hi hq
    rwa [List.getElem?_set_ne (fun e => hi e.symm)] at hq
  have hmo : ∀ (i v : Nat) (L0 : Loc), i ≠ id → m' i v = some L0 → m i v = some L0 := fun i v L0 hi e => (hon i v L0 e).resolve_right (fun x => hi x.1)
  have hne : ∀ (i : Nat) (q : Row) (L0 : Loc), i ≠ id → H[i]? = some (.row q) → m i q.ver = some L0 → L0.blk < w.heap.size ∧ L0.blk ≠ L.blk := by
    intro i q L0 hi hq hm
    obtain ⟨L1, cs1, T1, fz1, k1, k2, _⟩ := h.row i q hq
    rw [hm] at k1; cases k1
    exact ⟨(Array.getElem?_eq_some_iff.1 k2).1, fun e => hi (h.sep id r L i q L0 hr hL hrw hq hm e.symm)⟩
  refine ⟨⟨fun i q hq => ?_, fun i q L0 i' q' L0' h1 h2 h3 h4 h5 h6 => ?_, fun i v L0 hm => ?_, fun i v L0 hm => by
      rcases hon i v L0 hm with e | ⟨e1, e2⟩
      · exact Nat.lt_of_lt_of_le (h.lt _ _ _ e) hsize
      · subst e1; subst e2; rw [hm'] at hm; cases hm; exact (Array.getElem?_eq_some_iff.1 hb).1⟩, ⟨hsize, hos, htape, hout, fun b hlt' hn => ?_, fun b hbw => ?_, hext, fun i v L0 hL0 => ?_⟩⟩
  · by_cases hi : i = id
    · subst hi
      rw [hself] at hq; cases hq
      exact ⟨L', cs', T, (0, 0), hm', hb, hesz, hroom, hlen, fun j v hj => by obtain ⟨c, k1, k2, k3⟩ := hcells j v hj; exact ⟨c, k1, k2.mono hext, k3⟩, fun _ => rfl⟩
    · obtain ⟨L1, cs1, T1, fz1, k1, k2, k3, k4, k5, k6, k7⟩ := h.row i q (hother i q hi hq)
      obtain ⟨n1, n2⟩ := hne i q L1 hi (hother i q hi hq) k1
      exact ⟨L1, cs1, T1, fz1, hext _ _ _ k1, by rw [hsame _ n1 n2]; exact k2, k3, k4, k5, fun j v hj => by obtain ⟨c, z1, z2, z3⟩ := k6 j v hj; exact ⟨c, z1, z2.mono hext, z3⟩, k7⟩
  · by_cases hi : i = id
    · by_cases hi' : i' = id
      · rw [hi, hi']
      · subst hi
        rw [hself] at h1; cases h1
        rw [hm'] at h2; cases h2
        obtain ⟨n1, n2⟩ := hne i' q' L0' hi' (hother i' q' hi' h4) (hmo _ _ _ hi' h5)
        rcases hblk with e | e
        · exact absurd (h6.symm.trans e) n2
        · omega
    · by_cases hi' : i' = id
      · subst hi'
        rw [hself] at h4; cases h4
        rw [hm'] at h5; cases h5
        obtain ⟨n1, n2⟩ := hne i q L0 hi (hother i q hi h1) (hmo _ _ _ hi h2)
        rcases hblk with e | e
        · exact absurd (h6.trans e) n2
        · omega
      · exact h.sep i q L0 i' q' L0' (hother i q hi h1) (hmo _ _ _ hi h2) h3 (hother i' q' hi' h4) (hmo _ _ _ hi' h5) h6
  · by_cases hi : i = id
    · subst hi
      rcases hon i v L0 hm with e | ⟨_, e⟩
      · obtain ⟨q, hq, hle⟩ := h.fresh i v L0 e
        rw [hr] at hq; cases hq
        exact ⟨r', hself, Nat.le_trans hle hver⟩
      · exact ⟨r', hself, by rw [e]; exact Nat.le_refl _⟩
    · obtain ⟨q, hq, hle⟩ := h.fresh i v L0 (hmo _ _ _ hi hm)
      exact ⟨q, by rw [List.getElem?_set_ne (fun e => hi e.symm)]; exact hq, hle⟩
  · exact hsame b hlt' (fun e => hn ⟨id, r, L, hr, hrw, hL, e.symm⟩)
  · obtain ⟨i, q, L0, h1, h2, h3, h4⟩ := hbw
    by_cases hi : i = id
    · subst hi
      rw [hself] at h1; cases h1
      rw [hm'] at h3; cases h3
      rcases hblk with e | e
      · exact .inl ⟨i, r, L, hr, hrw, hL, by rw [← e]; exact h4⟩
      · exact .inr (by omega)
    · exact .inl ⟨i, q, L0, hother i q hi h1, h2, hmo _ _ _ hi h3, h4⟩
  · rcases hon i v L0 hL0 with e | ⟨e1, e2⟩
    · exact .inl ⟨i, v, L0, e, rfl⟩
    · subst e1; subst e2
      rw [hm'] at hL0; cases hL0
      rcases hblk with e | e
      · exact .inl ⟨i, r.ver, L, hL, e.symm⟩
      · exact .inr e

/-- A segment laid over a list. -/
def over (l : List Value) (off : Nat) (vs : List Value) : List Value := l.take off ++ vs ++ l.drop (off + vs.length)
theorem setAll_over : ∀ (vs l : List Value) (off : Nat), off + vs.length ≤ l.length → setAll l off vs = over l off vs
  | [], l, off, _ => by simp [setAll, over]
  | v :: vs, l, off, h => by
    simp only [setAll]
    rw [setAll_over vs (l.set off v) (off + 1) (by simp at h ⊢; omega)]
    unfold over
    have := list_seg_step l off v vs (by simpa using h)
    simpa [Nat.add_assoc, Nat.add_comm 1] using this
theorem over_get (l : List Value) (off : Nat) (vs : List Value) (h : off + vs.length ≤ l.length) (j : Nat) : (over l off vs)[j]? = if off ≤ j ∧ j < off + vs.length then vs[j - off]? else l[j]? := by
  unfold over
  simp only [List.getElem?_append, List.length_append, List.length_take, List.getElem?_take, List.getElem?_drop]
  have e : min off l.length = off := by omega
  rw [e]
  by_cases h1 : j < off
  · rw [if_pos (by omega), if_pos h1, if_pos h1, if_neg (by omega)]
  · by_cases h2 : j < off + vs.length
    · rw [if_pos h2, if_neg h1, if_pos (by omega)]
    · rw [if_neg h2, if_neg (by omega)]
      congr 1; omega
theorem over_length (l : List Value) (off : Nat) (vs : List Value) (h : off + vs.length ≤ l.length) : (over l off vs).length = l.length := by
  unfold over; simp; omega

section
variable {P : Program} {m : Mu} {H : Heap} {w : World}

/-- Cells stored into a row. -/
theorem ARel.stores (hA : ARel m H w) {id : Nat} {r : Row} (hr : H[id]? = some (.row r)) {L : Loc} (hL : m id r.ver = some L) (hrw : r.rw = true) {vs cs : List Value} (hv : VRels m vs cs)
    (hc : ∀ v ∈ vs, cellLike v = true) {off : Nat} (hoff : off + vs.length ≤ r.cells.length) :
    ∃ w', (storeCells ⟨L.blk, L.base + off, none⟩ cs).run P w = .ok () w' ∧ ARel m (H.set id (.row { r with cells := setAll r.cells off vs })) w' ∧
      Kept m H w m (H.set id (.row { r with cells := setAll r.cells off vs })) w' := by
  obtain ⟨L', arr, T, fz, h1, h2, h3, h4, h5, h6, h7⟩ := hA.row id r hr
  rw [hL] at h1; cases h1
  rw [h7 hrw] at h2
  have hcs : ∀ x ∈ cs, x.oneCell' = true := by
    intro x hx
    obtain ⟨j, hj⟩ := List.mem_iff_getElem?.1 hx
    obtain ⟨v, hvj⟩ : ∃ v, vs[j]? = some v := ⟨_, List.getElem?_eq_getElem (by have := hv.length; have := (List.getElem?_eq_some_iff.1 hj).1; omega)⟩
    obtain ⟨c, k1, k2⟩ := hv.get j v hvj
    rw [hj] at k1; cases k1
    exact oneCell_of (k2.cellLike (hc v (List.mem_of_getElem? hvj)))
  have hlen := hv.length
  have hst := run_storeCells_at P L.blk (L.base + off) T cs 0 arr w h2 (by omega) hcs
  simp only [Nat.add_zero] at hst
  have hoa : L.base + off + cs.length ≤ arr.toList.length := by simp; omega
  have hmain := hA.turn (m' := m) (r' := { r with cells := setAll r.cells off vs }) (L' := L) hr hL hrw
    (w' := w.setRow L.blk (over arr.toList (L.base + off) cs).toArray) (setRow_heap w L.blk arr _ T _ h2) (fun b _ hb => setRow_other w L.blk b _ hb) (by simp [World.setRow]) rfl rfl rfl (.inl rfl) (.refl m) hL
    (fun _ _ _ e => .inl e) (Nat.le_refl _) hrw h3 (by rw [List.size_toArray, over_length _ _ _ hoa]; simpa using h4) (by simpa [setAll_length] using h5) (fun j v hj => by
      simp only [setAll_over vs r.cells off hoff] at hj
      rw [over_get _ _ _ hoff] at hj
      have e : ((over arr.toList (L.base + off) cs).toArray)[L.base + j]? = (over arr.toList (L.base + off) cs)[L.base + j]? := by simp
      rw [e, over_get _ _ _ hoa]
      split at hj
      · rename_i hb
        rw [if_pos (by omega)]
        obtain ⟨c, k1, k2⟩ := hv.get _ v hj
        exact ⟨c, by rw [show L.base + j - (L.base + off) = j - off by omega]; exact k1, k2, hc v (List.mem_of_getElem? hj)⟩
      · rename_i hb
        rw [if_neg (by omega)]
        obtain ⟨c, k1, k2, k3⟩ := h6 j v hj
        exact ⟨c, by simpa using k1, k2, k3⟩)
  refine ⟨_, hst, ?_⟩
  have e : (w.setRow L.blk (arr.toList.take (L.base + off) ++ cs ++ arr.toList.drop (L.base + off + cs.length)).toArray) = w.setRow L.blk (over arr.toList (L.base + off) cs).toArray := rfl
  rw [e]
  exact hmain

/-- So many times the same cells. -/
def rep (n : Nat) (z : List Value) : List Value := (List.replicate n z).flatten
theorem rep_length (n : Nat) (z : List Value) : (rep n z).length = n * z.length := by simp [rep]
theorem rep_succ (n : Nat) (z : List Value) : rep (n + 1) z = rep n z ++ z := by simp [rep, List.replicate_succ']
theorem rep_one (n : Nat) (z : Value) : rep n [z] = List.replicate n z := by
  induction n with
  | zero => rfl
  | succ n ih => rw [rep_succ, ih, List.replicate_succ']
theorem madeCells_rep (z : Array Value) (n : Nat) : (madeCells z (n * z.size)).toList = rep n z.toList := by
  unfold madeCells
  rw [Array.toList_map, Array.toList_range]
  induction n with
  | zero => simp [rep]
  | succ n ih =>
    rw [rep_succ, ← ih, Nat.succ_mul, List.range_add, List.map_append, List.map_map]
    congr 1
    apply List.ext_getElem?
    intro j
    rw [List.getElem?_map]
    by_cases hj : j < z.size
    · rw [List.getElem?_range hj]
      simp [hj, Nat.mod_eq_of_lt hj]
    · rw [List.getElem?_eq_none (by simp; omega), List.getElem?_eq_none (by simp; omega)]; rfl
theorem zeroCells_rep (z : Array Value) (n : Nat) : (Builtin.zeroCells z n).toList = rep n z.toList := madeCells_rep z n
theorem rels_rep {z c : List Value} (h : VRels m z c) : ∀ n, VRels m (rep n z) (rep n c)
  | 0 => .nil
  | n + 1 => by rw [rep_succ, rep_succ]; exact (rels_rep h n).append h
theorem rep_cellLike {z : List Value} (h : z.all plainC = true) (n : Nat) : ∀ v ∈ rep n z, cellLike v = true := by
  intro v hv
  unfold rep at hv
  rw [List.mem_flatten] at hv
  obtain ⟨l, hl, hv⟩ := hv
  rw [List.eq_of_mem_replicate hl] at hv
  exact plainC_cellLike (List.all_eq_true.1 h v hv)
end

inductive EOp where
  | new (zero : List Value) (esz : Nat)
  | box (n esz : Nat) (x : Operand)
  | lit (zeros : List Value) (esz len : Nat) (parts : List (Nat × Nat × Operand))
  | make (zero : List Value) (esz : Nat) (len cap : Operand)
  | store (n : Nat) (a x : Operand)
  | app (esz : Nat) (s x : Operand)
  | clear (zero : List Value) (x : Operand)
  | copy (esz : Nat) (d s : Operand)

/-- How many elements may be made at once. -/
def lim : Nat := 1048576

def newRow (H : Heap) (vs : List Value) (esz : Nat) : Heap := H ++ [.row ⟨vs, esz, 0, true⟩]
def makeV (H : Heap) (zero : List Value) (esz : Nat) (l c : Value) : Option (Value × Heap) :=
  match l, c with
  | .int _ l, .int _ c => if 0 ≤ l ∧ l ≤ c ∧ c ≤ lim then some (.slice (some ⟨H.length, 0, none⟩) l.toNat 0, newRow H (rep c.toNat zero) esz) else none
  | _, _ => none
def storeV (H : Heap) (n : Nat) (p x : Value) : Option Heap :=
  match p, cellsOf x with
  | .pointer (some ⟨id, off, some ver⟩), some vs =>
    match H.row? id ver with
    | some r => if r.rw = true ∧ vs.length = n ∧ off + vs.length ≤ r.cells.length then some (H.set id (.row { r with cells := setAll r.cells off vs })) else none
    | none => none
  | _, _ => none
/-- The cells of a slice's elements. -/
def elemsV (H : Heap) (esz : Nat) : Value → Option (Nat × List Value)
  | .slice none 0 0 => some (0, [])
  | .slice (some ⟨id, off, none⟩) len ver => (H.cells? id off ver (len * esz)).map fun l => (len, l)
  | _ => none
def appV (H : Heap) (esz : Nat) (s x : Value) : Option (Value × Heap) :=
  match elemsV H esz x with
  | some (n, new) =>
    match s with
    | .slice none 0 0 => if n = 0 then some (.slice none 0 0, H) else if n ≤ lim then some (.slice (some ⟨H.length, 0, none⟩) n 0, newRow H new esz) else none
    | .slice (some ⟨id, off, none⟩) len ver =>
      match H.row? id ver with
      | some r =>
        if r.rw = true ∧ r.esz = esz ∧ off + len * esz ≤ r.cells.length ∧ len + n ≤ lim then
          some (.slice (some ⟨id, 0, none⟩) (len + n) (ver + 1), H.set id (.row ⟨(r.cells.drop off).take (len * esz) ++ new, esz, ver + 1, true⟩))
        else none
      | none => none
    | _ => none
  | none => none
def clearV (H : Heap) (zero : List Value) : Value → Option Heap
  | .slice none 0 0 => some H
  | .slice (some ⟨id, off, none⟩) len ver =>
    if len = 0 then some H else
    match H.row? id ver with
    | some r => if r.rw = true ∧ off + len * zero.length ≤ r.cells.length then some (H.set id (.row { r with cells := setAll r.cells off (rep len zero) })) else none
    | none => none
  | _ => none
def copyV (H : Heap) (esz : Nat) (d s : Value) : Option (Value × Heap) :=
  match d, elemsV H esz s with
  | .slice none 0 0, some _ => some (.int .i64 0, H)
  | .slice (some ⟨id, off, none⟩) len ver, some (n, cs) =>
    if min n len = 0 then some (.int .i64 0, H) else
    match H.row? id ver with
    | some r => if r.rw = true ∧ off + min n len * esz ≤ r.cells.length ∧ min n len * esz ≤ cs.length then
        some (.int .i64 (min n len : Nat), H.set id (.row { r with cells := setAll r.cells off (cs.take (min n len * esz)) })) else none
    | none => none
  | _, _ => none

def eop : EOp → Fr → Heap → Option (Value × Heap)
  | .new z esz, _, H => some (.pointer (some ⟨H.length, 0, some 0⟩), newRow H z esz)
  | .box n esz x, fr, H => match cellsOf (ev fr x) with | some vs => if vs.length = n then some (.pointer (some ⟨H.length, 0, some 0⟩), newRow H vs esz) else none | none => none
  | .lit z esz len ps, fr, H => (fillL z (ps.map fun p => (p.1, p.2.1, ev fr p.2.2))).map fun l => (.slice (some ⟨H.length, 0, none⟩) len 0, newRow H l esz)
  | .make z esz l c, fr, H => makeV H z esz (ev fr l) (ev fr c)
  | .store n p x, fr, H => (storeV H n (ev fr p) (ev fr x)).map fun H => (.tuple #[], H)
  | .app esz s x, fr, H => appV H esz (ev fr s) (ev fr x)
  | .clear z x, fr, H => (clearV H z (ev fr x)).map fun H => (.tuple #[], H)
  | .copy esz d s, fr, H => copyV H esz (ev fr d) (ev fr s)

/-- How many cells an element of an array has, of anything else itself. -/
def eszOf (P : Program) (t : TypeId) : Option Nat :=
  match P.underlying t with
  | some (.array _ e) => szOf P e
  | some _ => szOf P t
  | none => none
def litZeros (P : Program) (e : TypeId) (len : Nat) : Option (Nat × List Value) :=
  match zeroOf P e with
  | some z => if z.length = 0 then none else some (z.length, rep len z)
  | none => none
def smallT (P : Program) (e : TypeId) : Bool := match P.info? e with | some i => i.bytes ≤ lim && 0 < i.size | none => false

def cE (P : Program) : Op → Option EOp
  | .alloc t => match zeroOf P t, eszOf P t with | some z, some n => some (.new z n) | _, _ => none
  | .box t x => if okO x then match szOf P t, eszOf P t with | some n, some e => some (.box n e x) | _, _ => none else none
  | .buildSlice t len parts =>
    match P.underlying t with
    | some (.slice e) =>
      match litZeros P e len with
      | some (n, z) => if len * n ≤ 16777216 then (partsOf (fun i => some (i * n, n)) parts.toList).map (.lit z n len) else none
      | none => none
    | _ => none
  | .makeSlice t l c =>
    if okO l && okO c then match P.underlying t with
      | some (.slice e) => match zeroOf P e with
        | some z => if smallT P e then some (.make z z.length l c) else none
        | none => none
      | _ => none
    else none
  | .store t p x => if okO p && okO x then (szOf P t).map fun n => .store n p x else none
  | .call { callee := .builtin .append, args, argTypes } =>
    match args.toList, argTypes.toList with
    | [s, x], [t, u] =>
      if okO s && okO x && t == u then match P.underlying t with
        | some (.slice e) => match zeroOf P e with
          | some z => if smallT P e then some (.app z.length s x) else none
          | none => none
        | _ => none
      else none
    | _, _ => none
  | .call { callee := .builtin .clear, args, argTypes } =>
    match args.toList, argTypes.toList with
    | [x], [t] =>
      if okO x then match P.underlying t with
        | some (.slice e) => (zeroOf P e).map fun z => .clear z x
        | _ => none
      else none
    | _, _ => none
  | .call { callee := .builtin .copy, args, argTypes } =>
    match args.toList, argTypes.toList with
    | [d, s], [t, u] =>
      if okO d && okO s then match P.underlying t, P.underlying u with
        | some (.slice e), some (.slice _) => (szOf P e).map fun n => .copy n d s
        | _, _ => none
      else none
    | _, _ => none
  | _ => none
end Am
