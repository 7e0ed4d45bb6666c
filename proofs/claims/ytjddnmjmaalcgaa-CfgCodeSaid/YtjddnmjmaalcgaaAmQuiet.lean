/- The abstract machine, third part: the quiet operations (they make nothing and write nothing) as data, the translation of the model's operations to them, and that it is right.
   No condition: plain lemmas. -/
import Derived.Test.YtjddnmjmaalcgaaAmOps
namespace Am
set_option linter.unusedSimpArgs false
set_option linter.unusedVariables false
open Go

inductive QOp where
  | val (x : Operand)
  | pick (c a b : Operand)
  | build (zero : List Value) (parts : List (Nat × Nat × Operand))
  | load (x : Operand)
  | loadA (n : Nat) (x : Operand)
  | bin (op : BinOp) (x y : Operand)
  | eqB (neg : Bool) (x y : Operand)
  | not (x : Operand)
  | neg (x : Operand)
  | conv (k : IntKind) (x : Operand)
  | fn (fn : Fn) (captured : List Operand)
  | cut (esz : Nat) (x : Operand) (lo hi : Option Operand)
  | fieldA (off : Nat) (x : Operand)
  | part (n : Option Nat) (off : Nat) (x : Operand)
  | idxA (esz : Nat) (x i : Operand)
  | idxP (len esz : Nat) (x i : Operand)
  | idx (n : Option Nat) (len esz : Nat) (x i : Operand)
  | ext (x : Operand) (i : Nat)
  | len (x : Operand)
  | lenS (x : Operand)
  | idxS (x i : Operand)
  | ptrCk (x : Operand)
  | eqS (neg : Bool) (x y : Operand)
  | eqA (ks : List Nat) (neg : Bool) (x y : Operand)
  | mm (mx : Bool) (x : Operand) (ys : List Operand)

def ldV (H : Heap) : Value → Option Value
  | .pointer (some ⟨id, off, some ver⟩) => H.cell? id off ver
  | _ => none
def ldA (H : Heap) (n : Nat) : Value → Option Value
  | .pointer (some ⟨id, off, some ver⟩) => (H.cells? id off ver n).map fun l => .agg l.toArray
  | _ => none
def pickV (a b : Value) : Value → Option Value
  | .bool t => some (if t then a else b)
  | _ => none
def eqBV (neg : Bool) : Value → Value → Option Value
  | .bool a, .bool b => some (.bool (if neg then a != b else a == b))
  | _, _ => none
def notV : Value → Option Value
  | .bool b => some (.bool (!b))
  | _ => none
def negV : Value → Option Value
  | .int k n => some (.int k (k.wrap (0 - n)))
  | _ => none
def convV (k : IntKind) : Value → Option Value
  | .int _ n => some (.int k (k.wrap n))
  | _ => none
def loV (x : Option Value) : Option Nat :=
  match x with
  | none => some 0
  | some (.int _ n) => if 0 ≤ n then some n.toNat else none
  | _ => none
def hiV (len : Nat) (x : Option Value) : Option Nat :=
  match x with
  | none => some len
  | some (.int _ n) => if 0 ≤ n ∧ n ≤ len then some n.toNat else none
  | _ => none
def cutV (H : Heap) (esz : Nat) (x : Value) (lo hi : Option Value) : Option Value :=
  match x with
  | .slice none 0 0 =>
    match loV lo, hiV 0 hi with
    | some l, some h => if l ≤ h then some (.slice none 0 0) else none
    | _, _ => none
  | .slice (some ⟨id, off, none⟩) len ver =>
    match H.row? id ver, loV lo, hiV len hi with
    | some r, some l, some h => if r.esz = esz ∧ l ≤ h then some (.slice (some ⟨id, off + l * esz, none⟩) (h - l) ver) else none
    | _, _, _ => none
  | _ => none
def fieldV (off : Nat) : Value → Option Value
  | .pointer (some ⟨id, o, some ver⟩) => some (.pointer (some ⟨id, o + off, some ver⟩))
  | _ => none
def partV (n : Option Nat) (off : Nat) : Value → Option Value
  | .agg cs => match n with | some n => if off + n ≤ cs.size then some (.agg (cs.extract off (off + n))) else none | none => cs[off]?
  | _ => none
def idxAV (esz : Nat) (x i : Value) : Option Value :=
  match x, i with
  | .slice (some ⟨id, off, none⟩) len ver, .int _ i => if 0 ≤ i ∧ i < len then some (.pointer (some ⟨id, off + i.toNat * esz, some ver⟩)) else none
  | _, _ => none
def idxPV (len esz : Nat) (x i : Value) : Option Value :=
  match x, i with
  | .pointer (some ⟨id, off, some ver⟩), .int _ i => if 0 ≤ i ∧ i < len then some (.pointer (some ⟨id, off + i.toNat * esz, some ver⟩)) else none
  | _, _ => none
def idxV (n : Option Nat) (len esz : Nat) (x i : Value) : Option Value :=
  match i with
  | .int _ i => if 0 ≤ i ∧ i < len then partV n (i.toNat * esz) x else none
  | _ => none
def extV (i : Nat) : Value → Option Value
  | .tuple vs => vs[i]?
  | _ => none
def lenV : Value → Option Value
  | .slice _ n _ => some (.int .i64 n)
  | _ => none
def lenSV : Value → Option Value
  | .string s => some (.int .i64 s.size)
  | _ => none
def idxSV : Value → Value → Option Value
  | .string s, .int _ i => if 0 ≤ i then (s[i.toNat]?).map fun b => .int .u8 b.toNat else none
  | _, _ => none
def ptrV : Value → Option Value
  | .pointer (some a) => some (.pointer (some a))
  | _ => none
def eqSV (neg : Bool) : Value → Value → Option Value
  | .string a, .string b => some (.bool (if neg then !(a == b) else a == b))
  | _, _ => none
/-- Kinds of cells: 0 a number, 1 a truth value, 2 a string. -/
def eqC : Nat → Value → Value → Option Bool
  | 1, .bool a, .bool b => some (a == b)
  | 0, .int k a, .int k' b => if k = k' then some (a == b) else none
  | 2, .string a, .string b => some (a == b)
  | _, _, _ => none
def eqCs : List Nat → List Value → List Value → Option Bool
  | [], [], [] => some true
  | k :: ks, x :: xs, y :: ys => match eqC k x y with | some true => eqCs ks xs ys | some false => some false | none => none
  | _, _, _ => none
def eqAV (ks : List Nat) (neg : Bool) : Value → Value → Option Value
  | .agg xs, .agg ys => (eqCs ks xs.toList ys.toList).map fun b => .bool (if neg then !b else b)
  | _, _ => none
def mmV (mx : Bool) : Value → List Value → Option Value
  | x, [] => some x
  | .int k x, .int _ y :: ys => mmV mx (.int k (if (if mx then x < y else y < x) then y else x)) ys
  | _, _ => none

def qop : QOp → Fr → Heap → Option Value
  | .val x, fr, _ => some (ev fr x)
  | .pick c a b, fr, _ => pickV (ev fr a) (ev fr b) (ev fr c)
  | .build z ps, fr, _ => (fillL z (ps.map fun p => (p.1, p.2.1, ev fr p.2.2))).map fun l => .agg l.toArray
  | .load x, fr, H => ldV H (ev fr x)
  | .loadA n x, fr, H => ldA H n (ev fr x)
  | .bin op x y, fr, _ => binV op (ev fr x) (ev fr y)
  | .eqB neg x y, fr, _ => eqBV neg (ev fr x) (ev fr y)
  | .not x, fr, _ => notV (ev fr x)
  | .neg x, fr, _ => negV (ev fr x)
  | .conv k x, fr, _ => convV k (ev fr x)
  | .fn f cs, fr, _ => some (.func f #[] (cs.map (ev fr)).toArray)
  | .cut esz x lo hi, fr, H => cutV H esz (ev fr x) (lo.map (ev fr)) (hi.map (ev fr))
  | .fieldA off x, fr, _ => fieldV off (ev fr x)
  | .part n off x, fr, _ => partV n off (ev fr x)
  | .idxA esz x i, fr, _ => idxAV esz (ev fr x) (ev fr i)
  | .idxP len esz x i, fr, _ => idxPV len esz (ev fr x) (ev fr i)
  | .idx n len esz x i, fr, _ => idxV n len esz (ev fr x) (ev fr i)
  | .ext x i, fr, _ => extV i (ev fr x)
  | .len x, fr, _ => lenV (ev fr x)
  | .lenS x, fr, _ => lenSV (ev fr x)
  | .idxS x i, fr, _ => idxSV (ev fr x) (ev fr i)
  | .ptrCk x, fr, _ => ptrV (ev fr x)
  | .eqS neg x y, fr, _ => eqSV neg (ev fr x) (ev fr y)
  | .eqA n neg x y, fr, _ => eqAV n neg (ev fr x) (ev fr y)
  | .mm mx x ys, fr, _ => mmV mx (ev fr x) (ys.map (ev fr))

/-! ### The translation -/
def szOf (P : Program) (t : TypeId) : Option Nat := (P.info? t).map (·.size)
def zeroOf (P : Program) (t : TypeId) : Option (List Value) :=
  match P.info? t with
  | some i => match i.zero with
    | some z => if plainV z = true ∧ z.cells.size = i.size ∧ z.cells.toList.all plainC = true then some z.cells.toList else none
    | none => none
  | none => none
def aggN (P : Program) (t : TypeId) : Option (Option Nat) :=
  match P.underlying t with
  | some (.struct _) | some (.array _ _) => (szOf P t).map some
  | some _ => some none
  | none => none
def partsOf (place : Nat → Option (Nat × Nat)) : List (Nat × Operand) → Option (List (Nat × Nat × Operand))
  | [] => some []
  | (i, x) :: ps =>
    match place i, partsOf place ps with
    | some (off, n), some qs => if okO x then some ((off, n, x) :: qs) else none
    | _, _ => none
def fieldPlaces (P : Program) : List Field → Option (List (Nat × Nat))
  | [] => some []
  | f :: fs =>
    match szOf P f.type, fieldPlaces P fs with
    | some n, some ps => some ((f.offset, n) :: ps)
    | _, _ => none
/-- A struct of numbers, truth values and strings alone. -/
def scalarT (P : Program) (t : TypeId) : Option Nat :=
  match P.underlying t with
  | some (.int _) => some 0
  | some .bool => some 1
  | some .string => some 2
  | _ => none
def flatF (P : Program) : Nat → List Field → Option (List Nat)
  | _, [] => some []
  | off, f :: fs => if f.name != "_" && f.offset == off then match scalarT P f.type, flatF P (off + 1) fs with | some k, some ks => some (k :: ks) | _, _ => none else none
/-- What an array's elements are compared by: numbers, truth values, strings, or structs of such. -/
def flatE (P : Program) (e : TypeId) : Option (List Nat) :=
  match scalarT P e with
  | some k => some [k]
  | none => match P.underlying e with
    | some (.struct fs) => match flatF P 0 fs.toList with
      | some ks => if P.stoodInHeld e = false ∧ szOf P e = some ks.length then some ks else none
      | none => none
    | _ => none
def repK (n : Nat) (ks : List Nat) : List Nat := (List.replicate n ks).flatten
def okL (xs : List Operand) : Bool := xs.all okO
def okOpt (x : Option Operand) : Bool := match x with | some x => okO x | none => true

def cQ (P : Program) : Op → Option QOp
  | .move x | .assign x => if okO x then some (.val x) else none
  | .pick c a b => if okO c && okO a && okO b then some (.pick c a b) else none
  | .build t parts =>
    match zeroOf P t, P.underlying t with
    | some z, some (.struct fs) =>
      match fieldPlaces P fs.toList with
      | some pl => (partsOf (pl[·]?) parts.toList).map (.build z)
      | none => none
    | some z, some (.array _ e) =>
      match szOf P e with
      | some n => (partsOf (fun i => some (i * n, n)) parts.toList).map (.build z)
      | none => none
    | _, _ => none
  | .load t a =>
    if okO a then match aggN P t with
      | some none => some (.load a)
      | some (some n) => some (.loadA n a)
      | none => none
    else none
  | .binOp op t x y _ =>
    if okO x && okO y then match P.underlying t with
      | some (.int _) => some (.bin op x y)
      | some .bool => match op with
        | .eql => some (.eqB false x y)
        | .neq => some (.eqB true x y)
        | _ => none
      | some .string => match op with
        | .eql => some (.eqS false x y)
        | .neq => some (.eqS true x y)
        | _ => none
      | some (.struct fs) =>
        match flatF P 0 fs.toList with
        | some ks =>
          if !P.stoodInHeld t && !P.eqGuardType P.depth t then match op with
            | .eql => some (.eqA ks false x y)
            | .neq => some (.eqA ks true x y)
            | _ => none
          else none
        | none => none
      | some (.array n e) =>
        match flatE P e with
        | some ks =>
          if szOf P e = some ks.length ∧ P.eqGuardType P.depth t = false then match op with
            | .eql => some (.eqA (repK n ks) false x y)
            | .neq => some (.eqA (repK n ks) true x y)
            | _ => none
          else none
        | none => none
      | _ => none
    else none
  | .unOp op _ x =>
    if okO x then match op with
      | .not => some (.not x)
      | .neg => some (.neg x)
      | _ => none
    else none
  | .convert s d x =>
    if okO x then match P.underlying s, P.underlying d with
      | some (.int _), some (.int k) => some (.conv k x)
      | _, _ => none
    else none
  | .makeFunc fn first cap => if first.size = 0 ∧ okL cap.toList = true then some (.fn fn cap.toList) else none
  | .slice t x lo hi none =>
    if okO x && okOpt lo && okOpt hi then match P.underlying t with
      | some (.slice e) => (szOf P e).map fun n => .cut n x lo hi
      | _ => none
    else none
  | .fieldAddr s x f =>
    if okO x then match P.underlying s with
      | some (.struct fs) => match fs[f]? with
        | some fd => match szOf P fd.type with
          | some n => if n = 0 then none else some (.fieldA fd.offset x)
          | none => none
        | none => none
      | _ => none
    else none
  | .field s x f =>
    if okO x then match P.underlying s with
      | some (.struct fs) => match fs[f]? with
        | some fd => (aggN P fd.type).map fun n => .part n fd.offset x
        | none => none
      | _ => none
    else none
  | .indexAddr t x i =>
    if okO x && okO i then match P.underlying t with
      | some (.slice e) => (szOf P e).map fun n => .idxA n x i
      | some (.array len e) => (szOf P e).map fun n => .idxP len n x i
      | _ => none
    else none
  | .index t x i =>
    if okO x && okO i then match P.underlying t with
      | some (.array len e) => match aggN P e, szOf P e with
        | some n, some sz => some (.idx n len sz x i)
        | _, _ => none
      | some .string => some (.idxS x i)
      | _ => none
    else none
  | .extract x i => if okO x then some (.ext x i) else none
  | .nilCheck x => if okO x then some (.ptrCk x) else none
  | .call { callee := .builtin .len, args, argTypes } =>
    match args.toList, argTypes.toList with
    | [x], [t] =>
      if okO x then match P.underlying t with
        | some .string => some (.lenS x)
        | some (.slice _) => some (.len x)
        | some (.array n _) => some (.val (.const (.int .i64 n)))
        | _ => none
      else none
    | _, _ => none
  | .call { callee := .builtin .min, args, argTypes := _ } =>
    match args.toList with
    | x :: ys => if okO x && okL ys then some (.mm false x ys) else none
    | _ => none
  | .call { callee := .builtin .max, args, argTypes := _ } =>
    match args.toList with
    | x :: ys => if okO x && okL ys then some (.mm true x ys) else none
    | _ => none
  | _ => none

section
variable {P : Program} {m : Mu} {H : Heap} {w : World} {fr : Fr} {a : Act}

theorem run_und {t : TypeId} {d : TypeDesc} (h : P.underlying t = some d) (w : World) : (underlying t).run P w = .ok d w := run_underlying h w
theorem run_sizeOf {t : TypeId} {n : Nat} (h : szOf P t = some n) (w : World) : (Go.sizeOf t).run P w = .ok n w := by
  unfold szOf at h
  cases hi : P.info? t with
  | none => simp [hi] at h
  | some i => simp [hi] at h; subst h; simp [Go.sizeOf, typeInfo, hi]
theorem zeroOf_some {t : TypeId} {zs : List Value} (h : zeroOf P t = some zs) : ∃ i z, P.info? t = some i ∧ i.zero = some z ∧ z.cells.toList = zs ∧ zs.length = i.size ∧ zs.all plainC = true ∧ plainV z = true := by
  unfold zeroOf at h
  split at h
  · rename_i i hi
    split at h
    · rename_i z hz
      split at h
      · rename_i hc; cases h; exact ⟨i, z, hi, hz, rfl, by simpa using hc.2.1, hc.2.2, hc.1⟩
      · cases h
    · cases h
  · cases h
theorem run_zero {t : TypeId} {i : TypeInfo} {z : Value} (hi : P.info? t = some i) (hz : i.zero = some z) (w : World) : (zeroValue t).run P w = .ok z w := by simp [zeroValue, typeInfo, hi, hz]
theorem aggN_some {t : TypeId} {o : Option Nat} (h : aggN P t = some o) (w : World) : (isAgg t).run P w = .ok o.isSome w ∧ ∀ n, o = some n → szOf P t = some n := by
  unfold aggN at h
  split at h
  · rename_i fs hu
    cases hs : szOf P t with
    | none => simp [hs] at h
    | some n => simp [hs] at h; subst h; exact ⟨by simp [isAgg, run_und hu], fun n' e => by cases e; rfl⟩
  · rename_i n e hu
    cases hs : szOf P t with
    | none => simp [hs] at h
    | some n => simp [hs] at h; subst h; exact ⟨by simp [isAgg, run_und hu], fun n' e => by cases e; rfl⟩
  · rename_i d hn1 hn2 hu
    cases h
    refine ⟨?_, fun n e => by cases e⟩
    simp only [isAgg, Sem.run_bind, run_und hu, Result.andThen_ok]
    cases d <;> first | rfl | exact (hn1 _ rfl).elim | exact (hn2 _ _ rfl).elim
  · cases h

theorem rel_slice {len ver : Nat} {ad : Addr} {c : Value} (h : VRel m (.slice (some ad) len ver) c) : ∃ a' cap, c = .slice a' len cap ∧ len ≤ cap ∧
    ((∃ L, m ad.block ver = some L ∧ ad.spot = none ∧ a' = some ⟨L.blk, L.base + ad.off, none⟩ ∧ ad.off + cap * L.esz ≤ L.room) ∨ (len = 0 ∧ cap = 0 ∧ (∃ L, m ad.block ver = some L) ∧ ad.spot = none)) := by
  cases h with
  | slice h hl hr => exact ⟨_, _, rfl, hl, .inl ⟨_, h, rfl, rfl, hr⟩⟩
  | sliceEnd h a => exact ⟨_, _, rfl, Nat.le_refl _, .inr ⟨rfl, rfl, ⟨_, h⟩, rfl⟩⟩
theorem rel_nil {c : Value} (h : VRel m (.slice none 0 0) c) : ∃ a, c = .slice a 0 0 := by cases h; exact ⟨_, rfl⟩
theorem rel_ptr {ad : Addr} {c : Value} (h : VRel m (.pointer (some ad)) c) : ∃ ver L, ad.spot = some ver ∧ m ad.block ver = some L ∧ c = .pointer (some ⟨L.blk, L.base + ad.off, none⟩) := by
  cases h with
  | ptr h => exact ⟨_, _, rfl, h, rfl⟩
theorem rel_int {k : IntKind} {n : Int} {c : Value} (h : VRel m (.int k n) c) : c = .int k n := by cases h; rfl
theorem rel_bool {b : Bool} {c : Value} (h : VRel m (.bool b) c) : c = .bool b := by cases h; rfl
theorem rel_string {s : ByteArray} {c : Value} (h : VRel m (.string s) c) : c = .string s := by cases h; rfl

theorem s_load (hA : ARel m H w) {x c v : Value} (hx : VRel m x c) (h : ldV H x = some v) {t : TypeId} (ht : aggN P t = some none) : ∃ c', (Instr.loadAt t c).run P w = .ok c' w ∧ VRel m v c' := by
  unfold ldV at h
  split at h
  · rename_i id off ver
    obtain ⟨ver', L, h1, h2, rfl⟩ := rel_ptr hx
    cases h1
    obtain ⟨r, hr, he, hj⟩ := Heap.cell?_some h
    subst he
    obtain ⟨c', k1, k2, _⟩ := hA.cell hr h2 hj
    exact ⟨c', by simp [Instr.loadAt, Instr.sureAddr, loadVar, (aggN_some ht w).1, k1], k2⟩
  · cases h
theorem s_loadA (hA : ARel m H w) {x c v : Value} (hx : VRel m x c) {n : Nat} (h : ldA H n x = some v) {t : TypeId} (ht : aggN P t = some (some n)) : ∃ c', (Instr.loadAt t c).run P w = .ok c' w ∧ VRel m v c' := by
  unfold ldA at h
  split at h
  · rename_i id off ver
    obtain ⟨ver', L, h1, h2, rfl⟩ := rel_ptr hx
    cases h1
    cases hv : H.cells? id off ver n with
    | none => simp [hv] at h
    | some vs =>
      simp [hv] at h
      subst h
      obtain ⟨cs, k1, _, _, k2⟩ := hA.cells hv h2
      obtain ⟨r, _, _, hb, e⟩ := Heap.cells?_some hv
      have hlen : cs.length = n := by rw [← k1.length, e]; simp; omega
      have hsz := (aggN_some ht w).2 n rfl
      have := run_loadCells_list (P := P) w ⟨L.blk, L.base + off, none⟩ cs k2
      rw [hlen] at this
      refine ⟨.agg cs.toArray, by simp [Instr.loadAt, Instr.sureAddr, loadVar, (aggN_some ht w).1, run_sizeOf hsz, this], .agg' (by simpa using k1)⟩
  · cases h

theorem loV_run {x : Option Value} {l : Nat} (h : loV x = some l) : x = none ∧ l = 0 ∨ ∃ k, x = some (.int k l) := by
  unfold loV at h
  split at h
  · cases h; exact .inl ⟨rfl, rfl⟩
  · rename_i k n
    split at h
    · rename_i hn; cases h; exact .inr ⟨k, by rw [Int.toNat_of_nonneg hn]⟩
    · cases h
  · cases h
theorem hiV_run {len : Nat} {x : Option Value} {l : Nat} (h : hiV len x = some l) : l ≤ len ∧ (x = none ∧ l = len ∨ ∃ k, x = some (.int k l)) := by
  unfold hiV at h
  split at h
  · cases h; exact ⟨Nat.le_refl _, .inl ⟨rfl, rfl⟩⟩
  · rename_i k n
    split at h
    · rename_i hn; cases h; exact ⟨by omega, .inr ⟨k, by rw [Int.toNat_of_nonneg hn.1]⟩⟩
    · cases h
  · cases h
theorem bound_run (k : IntKind) (l y : Nat) (code : BoundsCode) (h : l ≤ y) (w : World) : (Instr.sliceBound (.int k l) y code).run P w = .ok l w := by
  have : (0 : Int) ≤ l ∧ (l : Int) ≤ y := ⟨by omega, by omega⟩
  simp [Instr.sliceBound, asIntOf, this.2]
theorem bounds_run {lo hi : Option Value} {l h : Nat} (len cap : Nat) (hlo : lo = none ∧ l = 0 ∨ ∃ k, lo = some (.int k l)) (hhi : hi = none ∧ h = len ∨ ∃ k, hi = some (.int k h)) (hlh : l ≤ h) (hh : h ≤ len) (hc : len ≤ cap) (w : World) :
    (Instr.sliceBounds true len cap lo hi none).run P w = .ok (l, h, cap) w := by
  rcases hlo with ⟨rfl, rfl⟩ | ⟨k, rfl⟩ <;> rcases hhi with ⟨rfl, rfl⟩ | ⟨k', rfl⟩ <;>
    simp [Instr.sliceBounds, bound_run _ _ _ _ hlh, bound_run _ _ _ _ (Nat.le_trans hh hc)]

theorem opt_rel {x : Option Operand} (hF : FRel m fr a) (hx : okOpt x = true) {k : IntKind} {n : Int} (h : x.map (ev fr) = some (.int k n)) : x.map a.eval = some (.int k n) := by
  cases x with
  | none => cases h
  | some x => simp at h ⊢; have := hF.ev (x := x) hx; rw [h] at this; exact rel_int this
theorem opt_none {x : Option Operand} (h : x.map (ev fr) = none) : x.map a.eval = none := by cases x with | none => rfl | some x => cases h

theorem s_cut (hA : ARel m H w) (hF : FRel m fr a) {x v : Value} {c : Value} (hx : VRel m x c) {lo hi : Option Operand} (hlo : okOpt lo = true) (hhi : okOpt hi = true) {esz : Nat}
    (h : cutV H esz x (lo.map (ev fr)) (hi.map (ev fr)) = some v) {t e : TypeId} (ht : P.underlying t = some (.slice e)) (he : szOf P e = some esz) :
    ∃ c', (Instr.sliceAt t c (lo.map a.eval) (hi.map a.eval) none).run P w = .ok c' w ∧ VRel m v c' := by
  have hlo' : ∀ l, loV (lo.map (ev fr)) = some l → lo.map a.eval = none ∧ l = 0 ∨ ∃ k, lo.map a.eval = some (.int k l) := by
    intro l hl
    rcases loV_run hl with ⟨h1, h2⟩ | ⟨k, h1⟩
    · exact .inl ⟨opt_none h1, h2⟩
    · exact .inr ⟨k, opt_rel hF hlo h1⟩
  have hhi' : ∀ len l, hiV len (hi.map (ev fr)) = some l → l ≤ len ∧ (hi.map a.eval = none ∧ l = len ∨ ∃ k, hi.map a.eval = some (.int k l)) := by
    intro len l hl
    obtain ⟨h0, h1⟩ := hiV_run hl
    rcases h1 with ⟨h1, h2⟩ | ⟨k, h1⟩
    · exact ⟨h0, .inl ⟨opt_none h1, h2⟩⟩
    · exact ⟨h0, .inr ⟨k, opt_rel hF hhi h1⟩⟩
  unfold cutV at h
  split at h
  · obtain ⟨a0, rfl⟩ := rel_nil hx
    split at h
    · rename_i l hh h1 h2
      split at h
      · rename_i hle
        cases h
        obtain ⟨k0, k1⟩ := hhi' 0 hh h2
        have hl0 : l = 0 := by omega
        have hh0 : hh = 0 := by omega
        subst hl0; subst hh0
        exact ⟨.slice a0 0 0, by simp [Instr.sliceAt, run_und ht, Instr.slice, bounds_run 0 0 (hlo' 0 h1) k1 (Nat.le_refl _) (Nat.le_refl _) (Nat.le_refl _), run_sizeOf he], .sliceNil _⟩
      · cases h
    · cases h
  · rename_i id off len ver
    split at h
    · rename_i r l hh hr h1 h2
      split at h
      · rename_i hc
        cases h
        obtain ⟨a', cap, rfl, hcap, hor⟩ := rel_slice hx
        obtain ⟨k0, k1⟩ := hhi' len hh h2
        have hb := bounds_run (P := P) len cap (hlo' l h1) k1 hc.2 k0 hcap w
        refine ⟨.slice (if cap = l then a' else a'.map (·.add (l * esz))) (hh - l) (cap - l), by simp [Instr.sliceAt, run_und ht, Instr.slice, hb, run_sizeOf he], ?_⟩
        rcases hor with ⟨L, q1, _, rfl, q2⟩ | ⟨rfl, rfl, ⟨L, q1⟩, _⟩
        · simp only at q1 q2
          by_cases e : cap = l
          · rw [if_pos e, show hh - l = 0 by omega, show cap - l = 0 by omega]
            exact .sliceEnd q1 _
          · rw [if_neg e]
            simp only [Option.map_some, addr_add, Nat.add_assoc]
            have hesz : L.esz = esz := by
              obtain ⟨r1, r2⟩ := Heap.row?_some hr
              obtain ⟨L', cs, T, fz, z1, z2, z3, _⟩ := hA.row id r r1
              rw [r2, q1] at z1; cases z1
              rw [z3]; exact hc.1
            refine .slice q1 (by omega) ?_
            have e2 : cap = l + (cap - l) := by omega
            rw [e2, Nat.add_mul, hesz] at q2
            rw [hesz]; omega
        · have hl0 : l = 0 := by omega
          have hh0 : hh = 0 := by omega
          subst hl0; subst hh0
          exact .sliceEnd q1 _
      · cases h
    · cases h
  · cases h

theorem s_field {x v c : Value} (hx : VRel m x c) {s : TypeId} {f : Nat} {fs : Array Field} {fd : Field} (hs : P.underlying s = some (.struct fs)) (hf : fs[f]? = some fd) {n : Nat} (hn : szOf P fd.type = some n) (hn0 : n ≠ 0)
    (h : fieldV fd.offset x = some v) : ∃ c', (Instr.fieldAt s c f).run P w = .ok c' w ∧ VRel m v c' := by
  unfold fieldV at h
  split at h
  · rename_i id o ver
    cases h
    obtain ⟨ver', L, h1, h2, rfl⟩ := rel_ptr hx
    cases h1
    refine ⟨.pointer (some ⟨L.blk, L.base + o + fd.offset, none⟩), by simp [Instr.fieldAt, run_und hs, hf, Instr.sureAddr, fieldPlace, run_sizeOf hn, hn0, addr_add], ?_⟩
    rw [Nat.add_assoc]; exact .ptr h2
  · cases h

theorem rel_agg {xs : Array Value} {c : Value} (h : VRel m (.agg xs) c) : ∃ ys, c = .agg ys ∧ xs.size = ys.size ∧ ∀ (i : Nat) (x y : Value), xs[i]? = some x → ys[i]? = some y → VRel m x y := by
  cases h with
  | agg hs h => exact ⟨_, rfl, hs, h⟩
theorem s_part {x v c : Value} (hx : VRel m x c) {n : Option Nat} {off : Nat} (h : partV n off x = some v) {t : TypeId} (ht : aggN P t = some n) :
    ∃ ys c', c = .agg ys ∧ (part t ys off).run P w = .ok c' w ∧ VRel m v c' := by
  unfold partV at h
  split at h
  · rename_i cs
    obtain ⟨ys, rfl, hs, hh⟩ := rel_agg hx
    cases n with
    | some n =>
      simp only at h
      split at h
      · rename_i hb
        cases h
        have hsz := (aggN_some ht w).2 n rfl
        refine ⟨ys, .agg (ys.extract off (off + n)), rfl, by simp [part, (aggN_some ht w).1, run_sizeOf hsz], .agg (by simp; omega) fun i x y h1 h2 => ?_⟩
        rw [Array.getElem?_extract] at h1 h2
        split at h1
        · rename_i hlt
          rw [if_pos (by omega)] at h2
          exact hh _ x y h1 h2
        · cases h1
      · cases h
    | none =>
      simp only at h
      obtain ⟨y, hy⟩ := get_of_size (hs ▸ size_of_get h)
      exact ⟨ys, y, rfl, by simp [part, (aggN_some ht w).1, hy], hh off v y h hy⟩
  · cases h

theorem s_idxA {x i v c d : Value} (hx : VRel m x c) (hi : VRel m i d) {esz : Nat} (h : idxAV esz x i = some v) {t e : TypeId} (ht : P.underlying t = some (.slice e)) (he : szOf P e = some esz) :
    ∃ c', (Instr.indexAt t c d).run P w = .ok c' w ∧ VRel m v c' := by
  unfold idxAV at h
  split at h
  · rename_i id off len ver k n
    split at h
    · rename_i hb
      cases h
      have := rel_int hi; subst this
      obtain ⟨a', cap, rfl, hcap, hor⟩ := rel_slice hx
      rcases hor with ⟨L, q1, _, rfl, q2⟩ | ⟨rfl, _⟩
      · refine ⟨.pointer (some ⟨L.blk, L.base + (off + n.toNat * esz), none⟩), ?_, .ptr q1⟩
        simp [Instr.indexAt, asIntOf, run_und ht, hb, run_sizeOf he, addr_add, Nat.add_assoc]
      · omega
    · cases h
  · cases h
theorem s_idxP {x i v c d : Value} (hx : VRel m x c) (hi : VRel m i d) {esz len : Nat} (h : idxPV len esz x i = some v) {t e : TypeId} (ht : P.underlying t = some (.array len e)) (he : szOf P e = some esz) :
    ∃ c', (Instr.indexAt t c d).run P w = .ok c' w ∧ VRel m v c' := by
  unfold idxPV at h
  split at h
  · rename_i id off ver k n
    split at h
    · rename_i hb
      cases h
      have := rel_int hi; subst this
      obtain ⟨ver', L, h1, h2, rfl⟩ := rel_ptr hx
      cases h1
      refine ⟨.pointer (some ⟨L.blk, L.base + (off + n.toNat * esz), none⟩), ?_, .ptr h2⟩
      simp [Instr.indexAt, asIntOf, run_und ht, hb, run_sizeOf he, addr_add, Nat.add_assoc, Instr.sureAddr]
    · cases h
  · cases h
theorem s_idx {x i v c d : Value} (hx : VRel m x c) (hi : VRel m i d) {n : Option Nat} {esz len : Nat} (h : idxV n len esz x i = some v) {t e : TypeId} (ht : P.underlying t = some (.array len e)) (hn : aggN P e = some n) (he : szOf P e = some esz) :
    ∃ c', (Instr.index t c d).run P w = .ok c' w ∧ VRel m v c' := by
  unfold idxV at h
  split at h
  · rename_i k i
    split at h
    · rename_i hb
      have := rel_int hi; subst this
      obtain ⟨ys, c', rfl, h1, h2⟩ := s_part (w := w) hx h hn
      exact ⟨c', by simp [Instr.index, asIntOf, run_und ht, hb, run_sizeOf he, h1], h2⟩
    · cases h
  · cases h

theorem rels_map (hF : FRel m fr a) : ∀ {xs : List Operand}, okL xs = true → VRels m (xs.map (ev fr)) (xs.map a.eval)
  | [], _ => .nil
  | x :: xs, h => by
    simp only [okL, List.all_cons, Bool.and_eq_true] at h
    exact .cons (hF.ev h.1) (rels_map hF h.2)

theorem s_min : ∀ {ys : List Value} {x v c : Value} {ds : List Value}, VRel m x c → VRels m ys ds → mmV false x ys = some v → ∃ c', (ds.foldlM Builtin.min2 c).run P w = .ok c' w ∧ VRel m v c' := by
  intro ys
  induction ys with
  | nil => intro x v c ds hx hy h; cases hy; simp [mmV] at h; subst h; exact ⟨c, by simp, hx⟩
  | cons y ys ih =>
    intro x v c ds hx hy h
    cases hy with
    | cons h1 h2 =>
      cases x <;> cases y <;> simp [mmV] at h
      rename_i k n k' n'
      have := rel_int hx; subst this
      have := rel_int h1; subst this
      obtain ⟨c', k1, k2⟩ := ih (.int k _) h2 h
      refine ⟨c', ?_, k2⟩
      simp only [List.foldlM_cons, Sem.run_bind, Builtin.min2, Sem.run_pure, Result.andThen_ok]
      exact k1
theorem s_max : ∀ {ys : List Value} {x v c : Value} {ds : List Value}, VRel m x c → VRels m ys ds → mmV true x ys = some v → ∃ c', (ds.foldlM Builtin.max2 c).run P w = .ok c' w ∧ VRel m v c' := by
  intro ys
  induction ys with
  | nil => intro x v c ds hx hy h; cases hy; simp [mmV] at h; subst h; exact ⟨c, by simp, hx⟩
  | cons y ys ih =>
    intro x v c ds hx hy h
    cases hy with
    | cons h1 h2 =>
      cases x <;> cases y <;> simp [mmV] at h
      rename_i k n k' n'
      have := rel_int hx; subst this
      have := rel_int h1; subst this
      obtain ⟨c', k1, k2⟩ := ih (.int k _) h2 h
      refine ⟨c', ?_, k2⟩
      simp only [List.foldlM_cons, Sem.run_bind, Builtin.max2, Sem.run_pure, Result.andThen_ok]
      exact k1
end
end Am
