/- A problem that is laid, number by number: two lists that grow in a box.
   No condition: plain lemmas. -/

import Derived.Test.YtdohgmnflhjgjaaZBPmLive2
import Derived.Test.YtdohgmnflhjgjaaZBPmCfgC
namespace Pm
set_option linter.unusedSimpArgs false
set_option linter.unusedVariables false
open Go Am
open Go.Proofs.Try (prog)

/-- The box, and its two lists. -/
structure Fields (b : Nat) (z : Value → Value → List Value) (H : Heap) (gv kv : Value) (gl kl : List Nat) : Prop where
  row : RowV H b 0 6 (z gv kv)
  g : AccL vU (b + 1) H gv gl
  k : AccL vU (b + 1) H kv kl
  ap : Apart gv kv
/-- What the box holds. -/
structure ZOk (z : Value → Value → List Value) : Prop where
  s1 : ∀ gv kv v, (z gv kv).set 1 v = z v kv
  s2 : ∀ gv kv v, (z gv kv).set 2 v = z gv v
  len : ∀ gv kv, (z gv kv).length = 6
theorem AccL.cell {α : Type} {f : α → Value} {b : Nat} {H : Heap} {v : Value} {l : List α} (ha : AccL f b H v l) : cellsOf v = some [v] := by
  rcases ha with ⟨e, _⟩ | ⟨id, ver, e, _⟩ <;> rw [e] <;> rfl
theorem AccL.low {α : Type} {f : α → Value} {b : Nat} {H : Heap} {v : Value} {l : List α} (ha : AccL f b H v l) : ∀ i, rid v = some i → b ≤ i := by
  intro i hi
  rcases ha with ⟨e, _⟩ | ⟨id, ver, e, h, _⟩
  · rw [e] at hi; simp [rid] at hi
  · rw [e] at hi; simp [rid] at hi; omega
section
variable {P : Program} {K : Fr → Heap → Prop} {is : List AIns} {d : Option Nat} {fr : Fr} {H0 H : Heap} {b : Nat} {z : Value → Value → List Value} {gv kv lit : Value} {gl kl : List Nat} {rs : List Ob} {x : Nat}
theorem Fields.push1 (F : Fields b z H gv kv gl kl) (hz : ZOk z) (hp : pElems (H ++ rs) 1 lit = some (1, [vU x])) (hl : gl.length + 1 ≤ lim)
    (hk : ∀ v1 H1 H2, storeV H1 1 (.pointer (some ⟨b, 1, some 0⟩)) v1 = some H2 → Fields b z H2 v1 kv (gl ++ [x]) kl → (∀ j o, rs[j]? = some o → H2[H.length + j]? = some o) → H.length + rs.length ≤ H2.length → Keeps b H H2 → pOps P K is (updO fr d v1) H1) :
    eK P K is d [] fr H0 (pApp (H ++ rs) 1 gv lit) := by
  have hb := F.row.lt
  refine AccL.apps (F.g.ext Keeps.app) (by simp; omega) (m := [x]) hp (by simpa using hl) fun v1 H1 a1 a2 a3 a4 => ?_
  have hgl : ∀ i, rid gv = some i → i < H.length := fun i hi => F.g.lt hi
  have hkl : ∀ i, rid kv = some i → i < H.length := fun i hi => F.k.lt hi
  have hr1 : RowV H1 b 0 6 (z gv kv) := F.row.keep (by rw [a2.2 _ (by omega), List.getElem?_append_left hb])
  have hH1 : H.length + rs.length ≤ H1.length := by have := a2.1; simpa using this
  have hk1 : AccL vU (b + 1) H1 kv kl := F.k.keep fun i hi => by
    rw [a3 i (by simp; have := hkl i hi; omega) (fun e => F.ap i e hi), List.getElem?_append_left (hkl i hi)]
  obtain ⟨H2, t1, t2, t3⟩ := hr1.set (j := 1) (by rw [hz.len]; omega) a1.cell
  rw [hz.s1] at t2
  refine hk v1 H1 H2 t1 ⟨t2, a1.keep fun i hi => t3.1 i (fun e => by have := a1.low i hi; omega), hk1.keep fun i hi => t3.1 i (fun e => by have := F.k.low i hi; omega), fun i hi hk2 => (a4 i hi).elim (fun e => F.ap i e hk2) (fun e => by have := hkl i hk2; simp at e; omega)⟩ (fun j o ho => ?_) (by rw [t3.2]; exact hH1) ⟨by rw [t3.2]; omega, fun i hi => ?_⟩
  · have hj := (List.getElem?_eq_some_iff.1 ho).1
    rw [t3.1 _ (by omega), a3 _ (by simp; omega) (fun e => by have := hgl _ e; omega), List.getElem?_append_right (by omega), Nat.add_sub_cancel_left, ho]
  · rw [t3.1 i (by omega), a2.2 i (by omega), List.getElem?_append_left (by omega)]
theorem Fields.push2 (F : Fields b z H gv kv gl kl) (hz : ZOk z) (hp : pElems (H ++ rs) 1 lit = some (1, [vU x])) (hl : kl.length + 1 ≤ lim)
    (hk : ∀ v1 H1 H2, storeV H1 1 (.pointer (some ⟨b, 2, some 0⟩)) v1 = some H2 → Fields b z H2 gv v1 gl (kl ++ [x]) → (∀ j o, rs[j]? = some o → H2[H.length + j]? = some o) → H.length + rs.length ≤ H2.length → Keeps b H H2 → pOps P K is (updO fr d v1) H1) :
    eK P K is d [] fr H0 (pApp (H ++ rs) 1 kv lit) := by
  have hb := F.row.lt
  refine AccL.apps (F.k.ext Keeps.app) (by simp; omega) (m := [x]) hp (by simpa using hl) fun v1 H1 a1 a2 a3 a4 => ?_
  have hgl : ∀ i, rid gv = some i → i < H.length := fun i hi => F.g.lt hi
  have hkl : ∀ i, rid kv = some i → i < H.length := fun i hi => F.k.lt hi
  have hr1 : RowV H1 b 0 6 (z gv kv) := F.row.keep (by rw [a2.2 _ (by omega), List.getElem?_append_left hb])
  have hH1 : H.length + rs.length ≤ H1.length := by have := a2.1; simpa using this
  have hk1 : AccL vU (b + 1) H1 gv gl := F.g.keep fun i hi => by
    rw [a3 i (by simp; have := hgl i hi; omega) (fun e => F.ap i hi e), List.getElem?_append_left (hgl i hi)]
  obtain ⟨H2, t1, t2, t3⟩ := hr1.set (j := 2) (by rw [hz.len]; omega) a1.cell
  rw [hz.s2] at t2
  refine hk v1 H1 H2 t1 ⟨t2, hk1.keep fun i hi => t3.1 i (fun e => by have := F.g.low i hi; omega), a1.keep fun i hi => t3.1 i (fun e => by have := a1.low i hi; omega), fun i hi hk2 => (a4 i hk2).elim (fun e => F.ap i hi e) (fun e => by have := hgl i hi; simp at e; omega)⟩ (fun j o ho => ?_) (by rw [t3.2]; exact hH1) ⟨by rw [t3.2]; omega, fun i hi => ?_⟩
  · have hj := (List.getElem?_eq_some_iff.1 ho).1
    rw [t3.1 _ (by omega), a3 _ (by simp; omega) (fun e => by have := hkl _ e; omega), List.getElem?_append_right (by omega), Nat.add_sub_cancel_left, ho]
  · rw [t3.1 i (by omega), a2.2 i (by omega), List.getElem?_append_left (by omega)]
/-- The problem in the box, as it is handed in. -/
theorem Fields.frz (F : Fields b z H gv kv gl kl) {p : Prob} (hz : z = fun gv kv => [vL (vL vI) p.succs, gv, kv, vU p.start, vB p.must, vB p.back]) (hg : gl = p.gen) (hk : kl = p.kill) :
    ∃ gv' kv' H', frzV H 1 (.agg (z gv kv).toArray) = some (.agg (z gv' kv').toArray, H') ∧ Keeps b H H' ∧ Cvs [.agg (z gv' kv').toArray] [vP p] := by
  obtain ⟨gv', H1, f1, f2, f3, f4, f5⟩ := F.g.frzC fun _ => rfl
  have hk2 : AccL vU (b + 1) H1 kv kl := F.k.keep fun i hi => f5 i (fun e => F.ap i e hi)
  obtain ⟨kv', H2, g1, g2, g3, g4, g5⟩ := hk2.frzC fun _ => rfl
  refine ⟨gv', kv', H2, ?_, ⟨by rw [g4, f4]; exact Nat.le_refl _, fun i hi => by rw [g3.2 i (by omega), f3.2 i (by omega)]⟩, .cons ?_ .nil⟩
  · rw [hz]
    have q1 : ∀ H, frzC H (vL (vL vI) p.succs) = some (vL (vL vI) p.succs, H) := fun _ => rfl
    have q2 : ∀ H n, frzC H (.int .u64 n) = some (.int .u64 n, H) := fun _ _ => rfl
    have q3 : ∀ H b, frzC H (.bool b) = some (.bool b, H) := fun _ _ => rfl
    simp [frzV, frzCs, q1, q2, q3, f1, g1]
  · rw [hz]
    refine .agg rfl fun i x y hx hy => ?_
    simp only [cP] at hy
    have hi : i < 6 := by have := (Array.getElem?_eq_some_iff.1 hx).1; simpa using this
    rw [← hg, ← hk] at hy
    have : i = 0 ∨ i = 1 ∨ i = 2 ∨ i = 3 ∨ i = 4 ∨ i = 5 := by omega
    rcases this with rfl | rfl | rfl | rfl | rfl | rfl <;> simp at hx hy <;> subst hx <;> subst hy <;> first | exact f2 | exact g2 | exact .same _
end
end Pm

/- Stores that none can read: small functions.
   No condition: plain lemmas. -/

namespace Pm
set_option linter.unusedSimpArgs false
set_option linter.unusedVariables false
open Go Am
open Go.Proofs.Try (prog)

theorem op_cases {op : Nat} (h : op < 28) : op = 0 ∨ op = 1 ∨ op = 2 ∨ op = 3 ∨ op = 4 ∨ op = 5 ∨ op = 6 ∨ op = 7 ∨ op = 8 ∨ op = 9 ∨ op = 10 ∨ op = 11 ∨ op = 12 ∨ op = 13 ∨ op = 14 ∨ op = 15 ∨ op = 16 ∨ op = 17 ∨ op = 18 ∨ op = 19 ∨ op = 20 ∨ op = 21 ∨ op = 22 ∨ op = 23 ∨ op = 24 ∨ op = 25 ∨ op = 26 ∨ op = 27 := by omega
theorem relOp_iff {op : Nat} : relOp op = true ↔ op = 12 ∨ op = 14 ∨ op = 16 ∨ (18 ≤ op ∧ op ≤ 24) ∨ op = 27 := by
  unfold relOp
  simp only [List.contains_iff_mem, List.mem_cons, List.not_mem_nil, or_false]
  omega
section
variable {h : Heap} {K : Value → Heap → Prop}
theorem irRel_call {op : Nat} (ho : op ≤ 255) (hk : K (vB (relOp op)) h) : PCall prog 109 [v8 op] h K := by
  refine Pure.go (Pure.one (p := vB (relOp op)) rfl fun h => ?_) hk
  refine call_irRel (by simp) ?_
  simp [new_box, app_box, len_box, cell_box, cell_box0, cells_box, cells_box0, store_box, store_box0, cellB_bx, cellsB_bx, storeB_bx, BodyK, resVs, resV, retV, box_all, cast_lit, wrap_1, wrap_2, wrap_3, wrap_4, c_irRel]
  refine irOf_call ho ?_
  have hc : cellsOf (.agg (shapeOf op).toArray) = some (shapeOf op) := by
    simp only [cellsOf_agg]
    rw [if_pos (by simpa using cell_shape op)]
  have hl : (shapeOf op).length = 7 := by unfold shapeOf; split <;> rfl
  have hs : ∀ a b c d e f g : Value, setAll [a, b, c, d, e, f, g] 0 (shapeOf op) = shapeOf op := fun a b c d e f g => by unfold shapeOf; split <;> rfl
  have h6 : ∀ hh, (shapeOf op)[6]'hh = vB (relOp op) := by
    unfold shapeOf
    split
    · intro _; rfl
    · intro _
      have : relOp op = false := by
        cases hr : relOp op with
        | false => rfl
        | true => rw [relOp_iff] at hr; omega
      rw [this]; rfl
  simp [new_box, app_box, len_box, cell_box, cell_box0, cells_box, cells_box0, store_box, store_box0, cellB_bx, cellsB_bx, storeB_bx, BodyK, resVs, resV, retV, box_all, cast_lit, wrap_1, wrap_2, wrap_3, wrap_4, -cellsOf_agg, callK_def, hc, hl, hs, h6]
theorem R2Rel_call {op : Nat} (ho : op ≤ 255) (hk : K (vB (relOp op)) h) : PCall prog 39 [v8 op] h K := by
  refine Pure.go (Pure.one (p := vB (relOp op)) rfl fun h => ?_) hk
  refine call_R2Rel (by simp) ?_
  by_cases h28 : op < 28
  · rcases op_cases h28 with rfl | rfl | rfl | rfl | rfl | rfl | rfl | rfl | rfl | rfl | rfl | rfl | rfl | rfl | rfl | rfl | rfl | rfl | rfl | rfl | rfl | rfl | rfl | rfl | rfl | rfl | rfl | rfl <;>
    · simp [new_box, app_box, len_box, cell_box, cell_box0, cells_box, cells_box0, store_box, store_box0, cellB_bx, cellsB_bx, storeB_bx, BodyK, resVs, resV, retV, box_all, cast_lit, wrap_1, wrap_2, wrap_3, wrap_4, c_R2Rel]
      try rfl
  · have e : relOp op = false := by
      cases hr : relOp op with
      | false => rfl
      | true => rw [relOp_iff] at hr; omega
    have n1 : ¬ (op : Int) = 12 := by omega
    have n2 : ¬ (op : Int) = 14 := by omega
    have n3 : ¬ (op : Int) = 16 := by omega
    have n4 : (18 : Int) ≤ op := by omega
    have n5 : ¬ (op : Int) ≤ 24 := by omega
    have n6 : ¬ (op : Int) = 27 := by omega
    simp [BodyK, resVs, resV, retV, c_R2Rel, n1, n2, n3, n4, n5, n6, e]
end
end Pm

/- Numbers that are asked for on some way, before they are taken away: what the solver tells.
   No condition: plain lemmas. -/

namespace Pm
set_option linter.unusedSimpArgs false
set_option linter.unusedVariables false
open Go Am

def wayP (f g : Ins → Nat) (code : List Ins) : Prob := ⟨succs code, code.map f, code.map g, 0, false, true⟩
theorem wayP_ok {f g : Ins → Nat} (hf : ∀ c, f c < big) (hg : ∀ c, g c < big) {code : List Ins} (hl : code.length ≤ 64) : (wayP f g code).Ok :=
  ⟨fun i => gN_map_lt hf, fun i => gN_map_lt hg, (by show 0 < big; decide), by show (succs code).length ≤ 64; rw [succs_len]; exact hl, succs_short code⟩
/-- A number is asked for from here on, before it is taken away: 'f': what one asks for, 'g': what it takes away. -/
inductive Wy (f g : Ins → Nat) (code : List Ins) (r : Nat) : Nat → Prop
  | use {i : Nat} {c : Ins} (hc : code[i]? = some c) (hu : (f c).testBit r = true) : Wy f g code r i
  | pass {i j : Nat} {c : Ins} (hc : code[i]? = some c) (hs : (g c).testBit r = false) (hj : (j : Int) ∈ nextsOf i c) (h : Wy f g code r j) : Wy f g code r i
theorem Wy.lt {f g : Ins → Nat} {code : List Ins} {r i : Nat} (h : Wy f g code r i) : i < code.length := by
  cases h with
  | use hc _ => exact (List.getElem?_eq_some_iff.1 hc).1
  | pass hc _ _ _ => exact (List.getElem?_eq_some_iff.1 hc).1
theorem Wy.low {f g : Ins → Nat} {code : List Ins} {r i : Nat} (hf : ∀ c, f c < big) (h : Wy f g code r i) : r < 64 := by
  induction h with
  | @use i c hc hu =>
    rcases Nat.lt_or_ge r 64 with h | h
    · exact h
    · rw [high_bit (hf c) h] at hu; cases hu
  | pass _ _ _ _ ih => exact ih
theorem Wy.step {f g : Ins → Nat} {code : List Ins} {r i : Nat} {c : Ins} (hc : code[i]? = some c) : Wy f g code r i ↔ (f c).testBit r = true ∨ (g c).testBit r = false ∧ ∃ j : Nat, (j : Int) ∈ nextsOf i c ∧ Wy f g code r j := by
  constructor
  · intro h
    cases h with
    | use hc' hu => rw [hc] at hc'; cases hc'; exact .inl hu
    | pass hc' hs hj h => rw [hc] at hc'; cases hc'; exact .inr ⟨hs, _, hj, h⟩
  · rintro (h | ⟨h1, j, h2, h3⟩)
    · exact .use hc h
    · exact .pass hc h1 h2 h3
section
variable {f g : Ins → Nat} {code : List Ins} {inn out : List Nat}
theorem way_n (f g : Ins → Nat) (code : List Ins) : (wayP f g code).n = code.length := succs_len code
theorem way_mk {x k : Nat} : (wayP f g code).marked x k = x.testBit k := by simp [Prob.marked, wayP]
theorem way_iff {r : Nat} (hr : r < 64) : (∀ i, Mk (wayP f g code) r true i ↔ Wy f g code r i) ∧ ∀ i, Mk (wayP f g code) r false i ↔ i < code.length ∧ ∃ j : Nat, (j : Int) ∈ nexts (succs code) i ∧ Wy f g code r j := by
  have hfr : ∀ i (j : Nat), (j : Int) ∈ nexts (wayP f g code).froms i ↔ j < code.length ∧ (j : Int) ∈ nexts (succs code) i := by
    intro i j
    show (j : Int) ∈ nexts (insideL (succs code)) i ↔ _
    rw [inside_mem, succs_len]
    constructor
    · rintro ⟨a, h1, h2, h3⟩
      obtain rfl : j = a := by omega
      exact ⟨h2, h3⟩
    · rintro ⟨h1, h2⟩; exact ⟨j, rfl, h1, h2⟩
  have key : ∀ b i, Mk (wayP f g code) r b i → if b then Wy f g code r i else i < code.length ∧ ∃ j : Nat, (j : Int) ∈ nexts (succs code) i ∧ Wy f g code r j := by
    intro b i h
    induction h with
    | start hi he hs => simp [Prob.marked, wayP] at hs
    | flow hi hj h ih =>
      simp only [if_true, Bool.false_eq_true, if_false] at ih ⊢
      rw [way_n] at hi
      exact ⟨hi, _, ((hfr _ _).1 hj).2, ih⟩
    | @gen i hi hc =>
      simp only [if_true]
      rw [way_n] at hi
      have hci : code[i]? = some code[i] := List.getElem?_eq_getElem hi
      have e : gN (wayP f g code).gen i = f code[i] := by show gN (code.map f) i = _; rw [gN_map, hci]
      simp only [Prob.genM, e] at hc
      exact .use hci hc
    | @pass i h hp ih =>
      simp only [if_true, Bool.false_eq_true, if_false] at ih ⊢
      obtain ⟨hi, j, hj, hl⟩ := ih
      have hci : code[i]? = some code[i] := List.getElem?_eq_getElem hi
      have e : gN (wayP f g code).kill i = g code[i] := by show gN (code.map g) i = _; rw [gN_map, hci]
      simp only [Prob.passM, e] at hp
      rw [nexts_succs hci] at hj
      exact .pass hci (by simpa [wayP] using hp) hj hl
  have back : ∀ i, Wy f g code r i → Mk (wayP f g code) r true i := by
    intro i h
    induction h with
    | @use i c hc hu =>
      refine .gen (by rw [way_n]; exact (List.getElem?_eq_some_iff.1 hc).1) ?_
      have e : gN (wayP f g code).gen i = f c := by show gN (code.map f) i = _; rw [gN_map, hc]
      unfold Prob.genM; rw [e]; exact hu
    | @pass i j c hc hs hj h ih =>
      refine .pass (.flow (by rw [way_n]; exact (List.getElem?_eq_some_iff.1 hc).1) ((hfr i j).2 ⟨h.lt, by rw [nexts_succs hc]; exact hj⟩) ih) ?_
      have e : gN (wayP f g code).kill i = g c := by show gN (code.map g) i = _; rw [gN_map, hc]
      simp only [Prob.passM, e]
      simp [wayP, hs]
  refine ⟨fun i => ⟨fun h => by simpa using key _ _ h, back i⟩, fun i => ⟨fun h => by simpa using key _ _ h, ?_⟩⟩
  rintro ⟨hi, j, hj, hl⟩
  exact .flow (by rw [way_n]; exact hi) ((hfr i j).2 ⟨hl.lt, hj⟩) (back j hl)

/-- What is asked for behind each, below a number. -/
structure Asked (f g : Ins → Nat) (code : List Ins) (b : List Nat) : Prop where
  len : b.length = code.length
  lt : ∀ i, gN b i < big
  bit : ∀ i r, (gN b i).testBit r = true ↔ i < code.length ∧ ∃ j : Nat, (j : Int) ∈ nexts (succs code) i ∧ Wy f g code r j
theorem way_asked (hf : ∀ c, f c < big) (h : Solved (wayP f g code) inn out) : Asked f g code inn := by
  have hn := way_n f g code
  refine ⟨by rw [h.ilen, hn], h.ilt, fun i r => ?_⟩
  by_cases hi : i < code.length
  · by_cases hr : r < 64
    · have := h.ahead i r (by rw [hn]; exact hi) hr
      rw [way_mk] at this
      rw [this, (way_iff hr).2]
    · rw [high_bit (h.ilt i) (by omega)]
      constructor
      · intro h; cases h
      · rintro ⟨_, j, _, h⟩; have := h.low hf; omega
  · rw [gN_out (by rw [h.ilen, hn]; omega)]
    simp only [Nat.zero_testBit]
    constructor
    · intro h; cases h
    · intro h; omega
theorem Asked.unique {a b : List Nat} (ha : Asked f g code a) (hb : Asked f g code b) : a = b :=
  ext_gN (by rw [ha.len, hb.len]) fun i _ => Nat.eq_of_testBit_eq fun r => by rw [Bool.eq_iff_iff, ha.bit, hb.bit]
end
end Pm

/- Stores that none can read: what is needed, the program's solution.
   No condition: plain lemmas. -/

namespace Pm
set_option linter.unusedSimpArgs false
set_option linter.unusedVariables false
open Go Am
open Go.Proofs.Try (prog)

def askN (c : Ins) : Nat := if relOp c.op = true then 255 else if c.op = 7 then bitN c.b &&& 255 else 0
def killN (c : Ins) : Nat := if c.op = 8 then bitN c.a else 0
theorem askN_lt (c : Ins) : askN c < big := by
  unfold askN; split
  · decide
  · split
    · exact and_lt (bitN_lt _)
    · decide
theorem killN_lt (c : Ins) : killN c < big := by
  unfold killN; split
  · exact bitN_lt _
  · decide
theorem bit_255 (r : Nat) : (255 : Nat).testBit r = decide (r < 8) := Nat.testBit_two_pow_sub_one 8 r
theorem bitN_bit (i : Int) (r : Nat) : (bitN i).testBit r = (decide (i = (r : Int)) && decide (r < 64)) := by
  unfold bitN
  split
  · rename_i h
    rw [Nat.testBit_two_pow]
    by_cases e : i = (r : Int)
    · have : i.toNat = r := by omega
      have : r < 64 := by omega
      simp [*]
    · have : ¬ i.toNat = r := by omega
      simp [*]
  · rename_i h
    rw [Nat.zero_testBit]
    by_cases e : i = (r : Int)
    · have : ¬ r < 64 := by omega
      simp [*]
    · simp [e]
/-- A variable is needed by an instruction; one stores it. -/
def wants (x : Nat) (c : Ins) : Bool := relOp c.op || (decide (c.op = 7) && decide (c.b = (x : Int)))
def lays (x : Nat) (c : Ins) : Bool := decide (c.op = 8) && decide (c.a = (x : Int))
theorem askN_bit (c : Ins) (x : Nat) : (askN c).testBit x = (decide (x < 8) && wants x c) := by
  unfold askN wants
  by_cases h : relOp c.op = true
  · rw [if_pos h, bit_255, h]; simp
  · rw [if_neg h]
    have h' : relOp c.op = false := by simpa using h
    rw [h']
    by_cases h7 : c.op = 7
    · rw [if_pos h7, Nat.testBit_and, bit_255, bitN_bit]
      by_cases hx : x < 8
      · have : x < 64 := by omega
        simp [h7, hx, this]
      · simp [hx]
    · rw [if_neg h7]; simp [h7]
theorem killN_bit (c : Ins) (x : Nat) (hx : x < 64) : (killN c).testBit x = lays x c := by
  unfold killN lays
  by_cases h8 : c.op = 8
  · rw [if_pos h8, bitN_bit]; simp [h8, hx]
  · rw [if_neg h8]; simp [h8]
abbrev Nd (code : List Ins) (x : Nat) : Nat → Prop := Wy askN killN code x
theorem Nd.low8 {code : List Ins} {x i : Nat} (h : Nd code x i) : x < 8 := by
  induction h with
  | @use i c hc hu => rw [askN_bit] at hu; simp at hu; exact hu.1
  | pass _ _ _ _ ih => exact ih
theorem nd_step {code : List Ins} {x i : Nat} {c : Ins} (hx : x < 8) (hc : code[i]? = some c) : Nd code x i ↔ wants x c = true ∨ lays x c = false ∧ ∃ j : Nat, (j : Int) ∈ nextsOf i c ∧ Nd code x j := by
  show Wy askN killN code x i ↔ _
  rw [Wy.step hc, askN_bit, killN_bit c x (by omega)]
  simp [hx]
section
variable {h : Heap} {K : Value → Heap → Prop}
theorem with_one (i : Int) : withN 0 [i] = bitN i := by show 0 ||| bitN i = _; simp
theorem sAsks_call {c : Ins} (ho : c.op ≤ 255) (hk : K (vU (askN c)) h) : PCall prog 94 [.agg (vIns c).toArray] h K := by
  refine Pure.go (Pure.one (p := vU (askN c)) rfl fun h => ?_) hk
  refine call_sAsks (by simp) ?_
  simp [new_box, app_box, len_box, cell_box, cell_box0, cells_box, cells_box0, store_box, store_box0, cellB_bx, cellsB_bx, storeB_bx, BodyK, resVs, resV, retV, box_all, cast_lit, wrap_1, wrap_2, wrap_3, wrap_4, c_sAsks, -cellsOf_agg, vIns_len, take_vIns, cellsOf_vIns, setAll_ins]
  refine All_call (n := 8) (by omega) ?_
  simp [-pwp_seq, new_box, app_box, len_box, cell_box, cell_box0, cells_box, cells_box0, store_box, store_box0, cellB_bx, cellsB_bx, storeB_bx, BodyK, resVs, resV, retV, box_all, cast_lit, wrap_1, wrap_2, wrap_3, wrap_4, callK_def, vIns]
  rw [pwp_seq]
  simp [-pwp_seq, new_box, app_box, len_box, cell_box, cell_box0, cells_box, cells_box0, store_box, store_box0, cellB_bx, cellsB_bx, storeB_bx, BodyK, resVs, resV, retV, box_all, cast_lit, wrap_1, wrap_2, wrap_3, wrap_4]
  refine irRel_call ho ?_
  have e8 : allN 8 = 255 := rfl
  cases hr : relOp c.op with
  | true =>
    have e : askN c = 255 := by unfold askN; rw [if_pos hr]
    simp [new_box, app_box, len_box, cell_box, cell_box0, cells_box, cells_box0, store_box, store_box0, cellB_bx, cellsB_bx, storeB_bx, BodyK, resVs, resV, retV, box_all, cast_lit, wrap_1, wrap_2, wrap_3, wrap_4, callK_def, e, e8]
  | false =>
    by_cases h7 : c.op = 7
    · have e : askN c = bitN c.b &&& 255 := by unfold askN; rw [if_neg (by simp [hr]), if_pos h7]
      have hfz : ∀ z : List Value, frzV (h ++ [bx z 4, bx [vI c.b] 1]) 1 (.slice (some ⟨h.length + 1, 0, none⟩) 1 0) = some (vL vI [c.b], h ++ [bx z 4, .row ⟨[vI c.b], 1, 0, false⟩]) := fun z => frz_one (L := [bx z 4, bx [vI c.b] 1]) (k := 1) rfl
      have ha := bits_and (a := bitN c.b) (b := 255) (bitN_lt _) (by decide)
      simp [new_box, app_box, len_box, cell_box, cell_box0, cells_box, cells_box0, store_box, store_box0, cellB_bx, cellsB_bx, storeB_bx, BodyK, resVs, resV, retV, box_all, cast_lit, wrap_1, wrap_2, wrap_3, wrap_4, callK_def, h7, hfz]
      refine With_call (s := 0) (l := [c.b]) (by decide) (by simp [lim]) ?_
      rw [with_one]
      simp [new_box, app_box, len_box, cell_box, cell_box0, cells_box, cells_box0, store_box, store_box0, cellB_bx, cellsB_bx, storeB_bx, BodyK, resVs, resV, retV, box_all, cast_lit, wrap_1, wrap_2, wrap_3, wrap_4, callK_def, e8]
      rw [e, ← ha]; rfl
    · have e : askN c = 0 := by unfold askN; rw [if_neg (by simp [hr]), if_neg h7]
      have h7' : ¬ (c.op : Int) = 7 := by omega
      simp [new_box, app_box, len_box, cell_box, cell_box0, cells_box, cells_box0, store_box, store_box0, cellB_bx, cellsB_bx, storeB_bx, BodyK, resVs, resV, retV, box_all, cast_lit, wrap_1, wrap_2, wrap_3, wrap_4, callK_def, h7', e]
end
end Pm

/- Stores that none can read: what is needed, walked.
   No condition: plain lemmas. -/

namespace Pm
set_option linter.unusedSimpArgs false
set_option linter.unusedVariables false
open Go Am
open Go.Proofs.Try (prog)

def stoP (code : List Ins) : Prob := wayP askN killN code
/-- What is needed behind each; of code that is too long nothing is told. -/
def NeedsL (code : List Ins) (b : List Nat) : Prop := if 60 < code.length then b = [] else Asked askN killN code b
section
variable {h : Heap} {K : Value → Heap → Prop}
set_option maxHeartbeats 4000000 in
theorem sNeeded_call {code : List Ins} (ho : ∀ i ∈ code, i.op ≤ 255) (hl : code.length ≤ lim) (hk : ∀ b, NeedsL code b → K (vL vU b) h) : PCall prog 72 [vM 4 vIns code] h K := by
  refine PCall.forget ?_
  refine call_sNeeded (by simp) ?_
  by_cases h60 : 60 < code.length
  · have h60' : (60 : Int) < code.length := by omega
    simp [new_box, app_box, len_box, cell_box, cell_box0, cells_box, cells_box0, store_box, store_box0, cellB_bx, cellsB_bx, storeB_bx, BodyK, resVs, resV, retV, box_all, cast_lit, wrap_1, wrap_2, wrap_3, wrap_4, c_sNeeded, h60']
    exact ⟨_, .nil, hk [] (by unfold NeedsL; rw [if_pos h60])⟩
  · have h60' : ¬ (60 : Int) < code.length := by omega
    have hsl : code.length < lim := by unfold lim; omega
    simp [-pwp_seq, new_box, app_box, len_box, cell_box, cell_box0, cells_box, cells_box0, store_box, store_box0, cellB_bx, cellsB_bx, storeB_bx, BodyK, resVs, resV, retV, box_all, cast_lit, wrap_1, wrap_2, wrap_3, wrap_4, c_sNeeded]
    rw [pwp_seq]
    simp [-pwp_seq, new_box, app_box, len_box, cell_box, cell_box0, cells_box, cells_box0, store_box, store_box0, cellB_bx, cellsB_bx, storeB_bx, BodyK, resVs, resV, retV, box_all, cast_lit, wrap_1, wrap_2, wrap_3, wrap_4, h60']
    refine Succs_call hsl ?_
    simp [-pwp_seq, new_box, app_box, len_box, cell_box, cell_box0, cells_box, cells_box0, store_box, store_box0, cellB_bx, cellsB_bx, storeB_bx, BodyK, resVs, resV, retV, box_all, cast_lit, wrap_1, wrap_2, wrap_3, wrap_4, callK_def]
    rw [pwp_seq]
    simp [-pwp_seq, new_box, app_box, len_box, cell_box, cell_box0, cells_box, cells_box0, store_box, store_box0, cellB_bx, cellsB_bx, storeB_bx, BodyK, resVs, resV, retV, box_all, cast_lit, wrap_1, wrap_2, wrap_3, wrap_4]
    obtain ⟨z, hz⟩ : ∃ z : Value → Value → List Value, z = fun gv kv => [vL (vL vI) (succs code), gv, kv, vU 0, .bool false, .bool true] := ⟨_, rfl⟩
    have zo : ZOk z := ⟨fun _ _ _ => by rw [hz]; rfl, fun _ _ _ => by rw [hz]; rfl, fun _ _ => by rw [hz]; rfl⟩
    have e1 : ∀ gv kv, (z gv kv)[1]? = some gv := fun _ _ => by rw [hz]; rfl
    have e2 : ∀ gv kv, (z gv kv)[2]? = some kv := fun _ _ => by rw [hz]; rfl
    refine loop_l (σ := Nat × Value × Value × Heap) (fun x => [(3, ptr h.length), (15, vM 4 vIns code), (16, vI code.length), (17, vI x.1)]) (fun x => x.2.2.2)
      (fun x => x.1 ≤ code.length ∧ Fields h.length z x.2.2.2 x.2.1 x.2.2.1 ((code.map askN).take x.1) ((code.map killN).take x.1) ∧ Keeps h.length h x.2.2.2)
      (fun x => code.length - x.1) (0, nilS, nilS, h ++ [bx (z nilS nilS) 6]) (by simp) (by rw [hz]; rfl) ⟨by simp, ⟨by simp [RowV, bx], .nil, .nil, .nil⟩, Keeps.app⟩ ?_
    rintro ⟨k, gv, kv, H⟩ fr ⟨hk0, F, hkp⟩
    simp only at hk0 F hkp ⊢
    by_cases hlt : k < code.length
    · obtain ⟨k1, hk1, wk⟩ := wrap_next (show k < lim by omega)
      obtain ⟨c, hc⟩ : ∃ c, code[k]? = some c := ⟨_, List.getElem?_eq_getElem hlt⟩
      have hkf : (k : Int) < code.length := by omega
      have hco := ho c (List.mem_of_getElem? hc)
      have hlen : ∀ f : Ins → Nat, ((code.map f).take k).length + 1 ≤ lim := fun f => by simp; omega
      have hu : (code.map askN)[k]? = some (askN c) := by rw [List.getElem?_map, hc]; rfl
      have hs : (code.map killN)[k]? = some (killN c) := by rw [List.getElem?_map, hc]; rfl
      have hv0 : (vIns c)[0]? = some (v8 c.op) := rfl
      have hv1 : (vIns c)[1]? = some (vI c.a) := rfl
      have hg0 : ∀ hh, (vIns c)[0]'hh = v8 c.op := fun _ => rfl
      have hg1 : ∀ hh, (vIns c)[1]'hh = vI c.a := fun _ => rfl
      simp [-pwp_seq, new_box, app_box, len_box, cell_box, cell_box0, cells_box, cells_box0, store_box, store_box0, cellB_bx, cellsB_bx, storeB_bx, BodyK, resVs, resV, retV, box_all, cast_lit, wrap_1, wrap_2, wrap_3, wrap_4, hkf]
      rw [pwp_seq]
      simp [-pwp_seq, new_box, app_box, len_box, cell_box, cell_box0, cells_box, cells_box0, store_box, store_box0, cellB_bx, cellsB_bx, storeB_bx, BodyK, resVs, resV, retV, box_all, cast_lit, wrap_1, wrap_2, wrap_3, wrap_4]
      rw [pwp_seq]
      simp [-pwp_seq, new_box, app_box, len_box, cell_box, cell_box0, cells_box, cells_box0, store_box, store_box0, cellB_bx, cellsB_bx, storeB_bx, BodyK, resVs, resV, retV, box_all, cast_lit, wrap_1, wrap_2, wrap_3, wrap_4, hc, F.row.cellA, e1, -cellsOf_agg, vIns_len, take_vIns, cellsOf_vIns, setAll_ins]
      refine seq_l (σ := List Ob) (fun _ => [(3, ptr h.length), (5, ptr H.length), (6, vU (killN c)), (15, vM 4 vIns code), (16, vI code.length), (17, vI k)]) (fun rs => H ++ (bx (vIns c) 4 :: rs)) (fun _ => True) ?_ ?_
      · by_cases h8 : c.op = 8
        · have ek : killN c = bitN c.a := by unfold killN; rw [if_pos h8]
          have hfz := frz_one (h := H) (L := [bx (vIns c) 4, bx [vI c.a] 1]) (k := 1) rfl
          have h8' : (c.op : Int) = 8 := by omega
          simp [new_box, app_box, len_box, cell_box, cell_box0, cells_box, cells_box0, store_box, store_box0, cellB_bx, cellsB_bx, storeB_bx, BodyK, resVs, resV, retV, box_all, cast_lit, wrap_1, wrap_2, wrap_3, wrap_4, h8', hv0, hv1, -cellsOf_agg, vIns_len, take_vIns, cellsOf_vIns, setAll_ins, hfz]
          refine With_call (s := 0) (l := [c.a]) (by decide) (by simp [lim]) ?_
          rw [with_one]
          simp [new_box, app_box, len_box, cell_box, cell_box0, cells_box, cells_box0, store_box, store_box0, cellB_bx, cellsB_bx, storeB_bx, BodyK, resVs, resV, retV, box_all, cast_lit, wrap_1, wrap_2, wrap_3, wrap_4, callK_def]
          exact .go [.row ⟨[vI c.a], 1, 0, false⟩] (by simp [ek]) rfl trivial
        · have ek : killN c = 0 := by unfold killN; rw [if_neg h8]
          have h8' : ¬ (c.op : Int) = 8 := by omega
          simp [new_box, app_box, len_box, cell_box, cell_box0, cells_box, cells_box0, store_box, store_box0, cellB_bx, cellsB_bx, storeB_bx, BodyK, resVs, resV, retV, box_all, cast_lit, wrap_1, wrap_2, wrap_3, wrap_4, h8', hv0, hv1, -cellsOf_agg, vIns_len, take_vIns, cellsOf_vIns, setAll_ins]
          exact .go [] (by simp [ek]) rfl trivial
      rintro rs fr _
      simp [new_box, app_box, len_box, cell_box, cell_box0, cells_box, cells_box0, store_box, store_box0, cellB_bx, cellsB_bx, storeB_bx, BodyK, resVs, resV, retV, box_all, cast_lit, wrap_1, wrap_2, wrap_3, wrap_4, F.row.cellA, e1, -cellsOf_agg, vIns_len, take_vIns, cellsOf_vIns, setAll_ins]
      refine pOps_still (by simp [F.row.cellA, e1]) (PCallS.lock (sAsks_call hco ⟨rfl, ?_⟩))
      simp [new_box, app_box, len_box, cell_box, cell_box0, cells_box, cells_box0, store_box, store_box0, cellB_bx, cellsB_bx, storeB_bx, BodyK, resVs, resV, retV, box_all, cast_lit, wrap_1, wrap_2, wrap_3, wrap_4, F.row.cellA, e1]
      refine F.push1 zo (pElems_lit (m := rs.length + 1) (cs := [vU (askN c)]) (by simp) rfl) (hlen _) fun v1 H1 H2 t1 F2 t2 t3 t4 => ?_
      have hc0 := t2 0 _ rfl
      have hR : RowV H2 H.length 0 4 (vIns c) := hc0
      simp [new_box, app_box, len_box, cell_box, cell_box0, cells_box, cells_box0, store_box, store_box0, cellB_bx, cellsB_bx, storeB_bx, BodyK, resVs, resV, retV, box_all, cast_lit, wrap_1, wrap_2, wrap_3, wrap_4, t1, F2.row.cell, e2]
      refine F2.push2 zo (pElems_lit (m := 0) (cs := [vU (killN c)]) rfl rfl) (hlen _) fun v2 H3 H4 w1 F4 w2 w3 w4 => ?_
      rw [← take_snoc' hu hk1, ← take_snoc' hs hk1] at F4
      simp [new_box, app_box, len_box, cell_box, cell_box0, cells_box, cells_box0, store_box, store_box0, cellB_bx, cellsB_bx, storeB_bx, BodyK, resVs, resV, retV, box_all, cast_lit, wrap_1, wrap_2, wrap_3, wrap_4, w1, wk]
      exact .go (k1, v1, v2, H4) (by simp only []; omega) (by simp) rfl ⟨by simp only []; omega, F4, hkp.trans (t4.trans w4)⟩
    · obtain rfl : k = code.length := by omega
      have hkf : ¬ (code.length : Int) < code.length := by omega
      rw [List.take_of_length_le (by simp), List.take_of_length_le (by simp)] at F
      have ok := wayP_ok askN_lt killN_lt (code := code) (by omega)
      have hcs : H.cells? h.length 0 0 6 = some (z gv kv) := F.row.cells (zo.len _ _).symm
      obtain ⟨gv', kv', H', f1, f2, f3⟩ := F.frz (p := stoP code) hz rfl rfl
      simp [new_box, app_box, len_box, cell_box, cell_box0, cells_box, cells_box0, store_box, store_box0, cellB_bx, cellsB_bx, storeB_bx, BodyK, resVs, resV, retV, box_all, cast_lit, wrap_1, wrap_2, wrap_3, wrap_4, hkf, hcs, zo.len, f1]
      refine PCall.conv f3 (fSolve_call ok fun inn out hS => ?_)
      have hb : (stoP code).back = true := rfl
      simp [new_box, app_box, len_box, cell_box, cell_box0, cells_box, cells_box0, store_box, store_box0, cellB_bx, cellsB_bx, storeB_bx, BodyK, resVs, resV, retV, box_all, cast_lit, wrap_1, wrap_2, wrap_3, wrap_4, callK_def, hb]
      obtain ⟨g, rfl⟩ := (hkp.trans f2).ext
      refine ⟨⟨g, rfl⟩, _, .cell rfl, hk inn ?_⟩
      unfold NeedsL
      rw [if_neg h60]
      exact way_asked askN_lt hS
end
end Pm

/- Stores that none can read: the code that is left, walked.
   No condition: plain lemmas. -/

namespace Pm
set_option linter.unusedSimpArgs false
set_option linter.unusedVariables false
open Go Am
open Go.Proofs.Try (prog)

section
variable {P : Program} {K : Fr → Heap → Prop} {is : List AIns} {d : Option Nat} {fr : Fr} {H0 H : Heap} {b : Nat} {lit : Value} {rs : List Ob}
/-- One more in a list that stands in a box. -/
theorem box_push {α : Type} {f : α → Value} {m j : Nat} {Z : List Value} {v : Value} {l : List α} {x : α} (hr : RowV H b 0 m Z) (ha : AccL f (b + 1) H v l) (hj : j < Z.length) (hp : pElems (H ++ rs) 1 lit = some (1, [f x])) (hl : l.length + 1 ≤ lim)
    (hk : ∀ v1 H1 H2, storeV H1 1 (.pointer (some ⟨b, j, some 0⟩)) v1 = some H2 → RowV H2 b 0 m (Z.set j v1) → AccL f (b + 1) H2 v1 (l ++ [x]) → (∀ j o, rs[j]? = some o → H2[H.length + j]? = some o) → H.length + rs.length ≤ H2.length → Keeps b H H2 → pOps P K is (updO fr d v1) H1) :
    eK P K is d [] fr H0 (pApp (H ++ rs) 1 v lit) := by
  have hb := hr.lt
  refine AccL.apps (ha.ext Keeps.app) (by simp; omega) (m := [x]) hp (by simpa using hl) fun v1 H1 a1 a2 a3 a4 => ?_
  have hgl : ∀ i, rid v = some i → i < H.length := fun i hi => ha.lt hi
  have hr1 : RowV H1 b 0 m Z := hr.keep (by rw [a2.2 _ (by omega), List.getElem?_append_left hb])
  have hH1 : H.length + rs.length ≤ H1.length := by have := a2.1; simpa using this
  obtain ⟨H2, t1, t2, t3⟩ := hr1.set hj a1.cell
  refine hk v1 H1 H2 t1 t2 (a1.keep fun i hi => t3.1 i (fun e => by have := a1.low i hi; omega)) (fun j o ho => ?_) (by rw [t3.2]; exact hH1) ⟨by rw [t3.2]; omega, fun i hi => ?_⟩
  · have hj := (List.getElem?_eq_some_iff.1 ho).1
    rw [t3.1 _ (by omega), a3 _ (by simp; omega) (fun e => by have := hgl _ e; omega), List.getElem?_append_right (by omega), Nat.add_sub_cancel_left, ho]
  · rw [t3.1 i (by omega), a2.2 i (by omega), List.getElem?_append_left (by omega)]
end
section
variable {h : Heap} {K : Value → Heap → Prop}
theorem Clone4_call {l : List Ins} (hl : l.length ≤ lim) (k0 : l = [] → K nilS h) (k1 : K (.slice (some ⟨h.length, 0, none⟩) l.length 1) (h ++ [.row ⟨l.flatMap vIns, 4, 1, true⟩])) : PCall prog 73 [vM 4 vIns l] h K := by
  refine call_Clone4 (by simp) ?_
  simp [new_box, app_box, len_box, cell_box, cell_box0, cells_box, cells_box0, store_box, store_box0, cellB_bx, cellsB_bx, storeB_bx, BodyK, resVs, resV, retV, box_all, cast_lit, wrap_1, wrap_2, wrap_3, wrap_4, c_Clone4]
  refine pOps_nilT (by simp) fun b hb => ?_
  cases b with
  | true =>
    have e : l = [] := by simpa using hb
    subst e
    simp [new_box, app_box, len_box, cell_box, cell_box0, cells_box, cells_box0, store_box, store_box0, cellB_bx, cellsB_bx, storeB_bx, BodyK, resVs, resV, retV, box_all, cast_lit, wrap_1, wrap_2, wrap_3, wrap_4]
    exact k0 rfl
  | false =>
    simp [new_box, app_box, len_box, cell_box, cell_box0, cells_box, cells_box0, store_box, store_box0, cellB_bx, cellsB_bx, storeB_bx, BodyK, resVs, resV, retV, box_all, cast_lit, wrap_1, wrap_2, wrap_3, wrap_4]
    rw [show (h : Heap).length = h.length + 0 from rfl, push_at (e := 4) (r := ⟨[], 4, 0, true⟩) (n := l.length) (new := l.flatMap vIns) rfl (by simp) rfl rfl (by simp) (by omega)]
    simp [new_box, app_box, len_box, cell_box, cell_box0, cells_box, cells_box0, store_box, store_box0, cellB_bx, cellsB_bx, storeB_bx, BodyK, resVs, resV, retV, box_all, cast_lit, wrap_1, wrap_2, wrap_3, wrap_4]
    exact k1
end
/-- A store that is left out. -/
def Gone (code : List Ins) (i : Nat) (c : Ins) : Prop := c.op = 8 ∧ ∃ x : Nat, x < 8 ∧ c.a = (x : Int) ∧ Come (succs code) i ∧ ¬ ∃ j : Nat, (j : Int) ∈ nextsOf i c ∧ Nd code x j
def nopI : Ins := ⟨0, 0, 0, 0⟩
/-- The code that is left. -/
structure Stored (code out : List Ins) : Prop where
  len : out.length = code.length
  gone : ∀ i c, code[i]? = some c → Gone code i c → out[i]? = some nopI
  stay : ∀ i c, code[i]? = some c → ¬ Gone code i c → out[i]? = some c
theorem Stored.unique {code a b : List Ins} (ha : Stored code a) (hb : Stored code b) : a = b := by
  apply List.ext_getElem?
  intro i
  by_cases hi : i < code.length
  · have hc : code[i]? = some code[i] := List.getElem?_eq_getElem hi
    rcases Classical.em (Gone code i code[i]) with h | h
    · rw [ha.gone i _ hc h, hb.gone i _ hc h]
    · rw [ha.stay i _ hc h, hb.stay i _ hc h]
  · rw [List.getElem?_eq_none (by rw [ha.len]; omega), List.getElem?_eq_none (by rw [hb.len]; omega)]
def ownL (n : Nat) : List Int := (List.range n).map fun i : Nat => (i : Int)
theorem ownL_succ (n : Nat) : ownL (n + 1) = ownL n ++ [(n : Int)] := by simp [ownL, List.range_succ]
theorem ownL_len (n : Nat) : (ownL n).length = n := by simp [ownL]
def vEdit (out : List Ins) (fm : List Int) : Value := .agg #[vM 4 vIns out, vL vI fm]
def StoredL (code out : List Ins) (fm : List Int) : Prop := if 60 < code.length then out = [] ∧ fm = [] else Stored code out ∧ fm = ownL code.length
/-- The code that is left, so far. -/
structure SC (h : Heap) (code : List Ins) (cs : Value) (k : Nat) (fv : Value) (out : List Ins) (H : Heap) : Prop where
  row : RowV H (h.length + 2) 0 2 [cs, fv]
  cod : RowM 4 vIns H (h.length + 1) 1 4 out
  frm : AccL vI (h.length + 2 + 1) H fv (ownL k)
  res : RowV H h.length 0 2 [nilS, nilS]
  kp : Keeps h.length h H
  len : out.length = code.length
  tail : ∀ i, k ≤ i → out[i]? = code[i]?
  gone : ∀ i c, i < k → code[i]? = some c → Gone code i c → out[i]? = some nopI
  stay : ∀ i c, i < k → code[i]? = some c → ¬ Gone code i c → out[i]? = some c
section
variable {h : Heap} {K : Value → Heap → Prop}
set_option maxHeartbeats 4000000 in
theorem sCode_call {code : List Ins} (ho : ∀ i ∈ code, i.op ≤ 255) (hl : code.length ≤ lim) (hk : ∀ out fm, StoredL code out fm → K (vEdit out fm) h) : PCall prog 38 [vM 4 vIns code] h K := by
  refine PCall.forget ?_
  refine call_sCode (by simp) ?_
  have hlim : lim = 1048576 := rfl
  by_cases h60 : 60 < code.length
  · have h60' : (60 : Int) < code.length := by omega
    simp [new_box, app_box, len_box, cell_box, cell_box0, cells_box, cells_box0, store_box, store_box0, cellB_bx, cellsB_bx, storeB_bx, BodyK, resVs, resV, retV, box_all, cast_lit, wrap_1, wrap_2, wrap_3, wrap_4, c_sCode, h60']
    exact ⟨_, Inls.agg (xs := [_, _]) (ys := [_, _]) ⟨.nil, .nil, trivial⟩, hk [] [] (by unfold StoredL; rw [if_pos h60]; exact ⟨rfl, rfl⟩)⟩
  · have h60' : ¬ (60 : Int) < code.length := by omega
    simp [-pwp_seq, new_box, app_box, len_box, cell_box, cell_box0, cells_box, cells_box0, store_box, store_box0, cellB_bx, cellsB_bx, storeB_bx, BodyK, resVs, resV, retV, box_all, cast_lit, wrap_1, wrap_2, wrap_3, wrap_4, c_sCode]
    rw [pwp_seq]
    simp [-pwp_seq, new_box, app_box, len_box, cell_box, cell_box0, cells_box, cells_box0, store_box, store_box0, cellB_bx, cellsB_bx, storeB_bx, BodyK, resVs, resV, retV, box_all, cast_lit, wrap_1, wrap_2, wrap_3, wrap_4, h60']
    refine Clone4_call hl (fun e => ?_) ?_
    · subst e
      simp [-pwp_seq, new_box, app_box, len_box, cell_box, cell_box0, cells_box, cells_box0, store_box, store_box0, cellB_bx, cellsB_bx, storeB_bx, BodyK, resVs, resV, retV, box_all, cast_lit, wrap_1, wrap_2, wrap_3, wrap_4, callK_def]
      refine sNeeded_call (code := []) (by simp) (by simp) fun b hb => ?_
      simp [-pwp_seq, new_box, app_box, len_box, cell_box, cell_box0, cells_box, cells_box0, store_box, store_box0, cellB_bx, cellsB_bx, storeB_bx, BodyK, resVs, resV, retV, box_all, cast_lit, wrap_1, wrap_2, wrap_3, wrap_4, callK_def]
      refine Succs_call (by simp [lim]) ?_
      simp [-pwp_seq, new_box, app_box, len_box, cell_box, cell_box0, cells_box, cells_box0, store_box, store_box0, cellB_bx, cellsB_bx, storeB_bx, BodyK, resVs, resV, retV, box_all, cast_lit, wrap_1, wrap_2, wrap_3, wrap_4, callK_def]
      refine Reach_call (s := succs []) (by simp [succs, lim]) fun seen hs1 hs2 => ?_
      simp [-pwp_seq, new_box, app_box, len_box, cell_box, cell_box0, cells_box, cells_box0, store_box, store_box0, cellB_bx, cellsB_bx, storeB_bx, BodyK, resVs, resV, retV, box_all, cast_lit, wrap_1, wrap_2, wrap_3, wrap_4, callK_def]
      rw [pwp_seq]
      simp [-pwp_seq, new_box, app_box, len_box, cell_box, cell_box0, cells_box, cells_box0, store_box, store_box0, cellB_bx, cellsB_bx, storeB_bx, BodyK, resVs, resV, retV, box_all, cast_lit, wrap_1, wrap_2, wrap_3, wrap_4]
      refine loop_n 1 ?_
      rw [rounds_one]
      simp [new_box, app_box, len_box, cell_box, cell_box0, cells_box, cells_box0, store_box, store_box0, cellB_bx, cellsB_bx, storeB_bx, BodyK, resVs, resV, retV, box_all, cast_lit, wrap_1, wrap_2, wrap_3, wrap_4]
      exact ⟨_, Inls.agg (xs := [_, _]) (ys := [_, _]) ⟨.nil, .nil, trivial⟩, hk [] [] (by unfold StoredL; rw [if_neg (by simp)]; exact ⟨⟨rfl, fun i c hc => by simp at hc, fun i c hc => by simp at hc⟩, rfl⟩)⟩
    · obtain ⟨n, hn⟩ : ∃ n, n = code.length := ⟨_, rfl⟩
      obtain ⟨cs, hcs⟩ : ∃ cs : Value, cs = .slice (some ⟨h.length + 1, 0, none⟩) code.length 1 := ⟨_, rfl⟩
      simp [-pwp_seq, new_box, app_box, len_box, cell_box, cell_box0, cells_box, cells_box0, store_box, store_box0, cellB_bx, cellsB_bx, storeB_bx, BodyK, resVs, resV, retV, box_all, cast_lit, wrap_1, wrap_2, wrap_3, wrap_4, callK_def]
      refine sNeeded_call ho hl fun b hb => ?_
      have hA : Asked askN killN code b := by unfold NeedsL at hb; rwa [if_neg h60] at hb
      have hbl := hA.len
      simp [-pwp_seq, new_box, app_box, len_box, cell_box, cell_box0, cells_box, cells_box0, store_box, store_box0, cellB_bx, cellsB_bx, storeB_bx, BodyK, resVs, resV, retV, box_all, cast_lit, wrap_1, wrap_2, wrap_3, wrap_4, callK_def]
      refine Succs_call (by omega) ?_
      simp [-pwp_seq, new_box, app_box, len_box, cell_box, cell_box0, cells_box, cells_box0, store_box, store_box0, cellB_bx, cellsB_bx, storeB_bx, BodyK, resVs, resV, retV, box_all, cast_lit, wrap_1, wrap_2, wrap_3, wrap_4, callK_def]
      refine Reach_call (s := succs code) (by have := sum_succs code; rw [succs_len]; omega) fun seen hs1 hs2 => ?_
      rw [succs_len] at hs1
      simp [-pwp_seq, new_box, app_box, len_box, cell_box, cell_box0, cells_box, cells_box0, store_box, store_box0, cellB_bx, cellsB_bx, storeB_bx, BodyK, resVs, resV, retV, box_all, cast_lit, wrap_1, wrap_2, wrap_3, wrap_4, callK_def]
      rw [pwp_seq]
      simp [-pwp_seq, new_box, app_box, len_box, cell_box, cell_box0, cells_box, cells_box0, store_box, store_box0, cellB_bx, cellsB_bx, storeB_bx, BodyK, resVs, resV, retV, box_all, cast_lit, wrap_1, wrap_2, wrap_3, wrap_4]
      refine loop_l (σ := Nat × Value × List Ins × Heap) (fun x => [(2, ptr h.length), (3, ptr (h.length + 2)), (4, vL vU b), (5, vL vB seen), (21, vM 4 vIns code), (22, vI code.length), (23, vI x.1)]) (fun x => x.2.2.2)
        (fun x => x.1 ≤ code.length ∧ SC h code cs x.1 x.2.1 x.2.2.1 x.2.2.2) (fun x => code.length - x.1)
        (0, nilS, code, h ++ [bx [nilS, nilS] 2, Ob.row ⟨code.flatMap vIns, 4, 1, true⟩, bx [cs, nilS] 2]) (by simp) (by rw [hcs]) ⟨by simp, ⟨by simp [RowV, bx], by simp [RowM], .nil, by simp [RowV, bx], Keeps.app, rfl, fun _ _ => rfl, fun i c hi => by omega, fun i c hi => by omega⟩⟩ ?_
      rintro ⟨k, fv, out, H⟩ fr ⟨hk0, v⟩
      simp only at hk0 v ⊢
      by_cases hlt : k < code.length
      · obtain ⟨k1, hk1, wk⟩ := wrap_next (show k < lim by omega)
        obtain ⟨c, hc⟩ : ∃ c, code[k]? = some c := ⟨_, List.getElem?_eq_getElem hlt⟩
        have hkf : (k : Int) < code.length := by omega
        have hco := ho c (List.mem_of_getElem? hc)
        obtain ⟨sk, hsk⟩ : ∃ sk, seen[k]? = some sk := ⟨_, List.getElem?_eq_getElem (by omega)⟩
        have hbk := gN_at (l := b) (i := k) (by omega)
        simp [new_box, app_box, len_box, cell_box, cell_box0, cells_box, cells_box0, store_box, store_box0, cellB_bx, cellsB_bx, storeB_bx, BodyK, resVs, resV, retV, box_all, cast_lit, wrap_1, wrap_2, wrap_3, wrap_4, hkf, hc, v.row.cellA, -cellsOf_agg, vIns_len, take_vIns, cellsOf_vIns, setAll_ins]
        refine box_push (j := 1) v.row v.frm (by simp) (pElems_lit (m := 1) (cs := [vI (k : Int)]) rfl rfl) (by rw [ownL_len]; omega) fun v1 H1 H2 t1 r2 a2 t2 t3 t4 => ?_
        have hR : RowV H2 H.length 0 4 (vIns c) := t2 0 _ rfl
        have e0 : H2.cell? H.length 0 0 = some (v8 c.op) := by rw [hR.cell]; rfl
        have e1 : H2.cell? H.length 1 0 = some (vI c.a) := by rw [hR.cell]; rfl
        have hst : ([cs, fv] : List Value).set 1 v1 = [cs, v1] := rfl
        rw [hst] at r2
        have ecs : H2.cell? (h.length + 2) 0 0 = some cs := by rw [r2.cell]; rfl
        have hcid : h.length + 1 < h.length + 2 := by omega
        have cod2 : RowM 4 vIns H2 (h.length + 1) 1 4 out := v.cod.keep (t4.2 _ (by omega))
        have res2 : RowV H2 h.length 0 2 [nilS, nilS] := v.res.keep (t4.2 _ (by omega))
        have kp2 : Keeps h.length h H2 := v.kp.trans ⟨t4.1, fun i hi => t4.2 i (by omega)⟩
        have own1 : ownL k1 = ownL k ++ [(k : Int)] := by rw [hk1, ownL_succ]
        rw [← own1] at a2
        have stay : ¬ Gone code k c → SC h code cs k1 v1 out H2 := fun hng => by
          refine ⟨r2, cod2, a2, res2, kp2, v.len, fun i hi => v.tail i (by omega), fun i d hi hd hg => ?_, fun i d hi hd hg => ?_⟩
          · by_cases e : i = k
            · subst e; rw [hc] at hd; cases hd; exact absurd hg hng
            · exact v.gone i d (by omega) hd hg
          · by_cases e : i = k
            · subst e; rw [v.tail i (Nat.le_refl _), hd]
            · exact v.stay i d (by omega) hd hg
        have hss : (succs code)[k]? = some (nextsOf k c) := by rw [succs_at, hc]; rfl
        by_cases ha0 : 0 ≤ c.a
        · obtain ⟨x, hx⟩ : ∃ x : Nat, c.a = (x : Int) := ⟨c.a.toNat, by omega⟩
          have hx0 : (0 : Int) ≤ (x : Int) := by omega
          by_cases hx8 : x < 8
          · have hx8' : (x : Int) < 8 := by omega
            by_cases h8 : c.op = 8
            · have h8' : (c.op : Int) = 8 := by omega
              cases sk with
              | true =>
                have hcome : Come (succs code) k := (hs2 k).1 hsk
                cases hn : (gN b k).testBit x with
                | true =>
                  have hng : ¬ Gone code k c := by
                    rintro ⟨_, y, hy1, hy2, _, hy3⟩
                    obtain rfl : x = y := by omega
                    have := (hA.bit k x).1 hn
                    rw [nexts_succs hc] at this
                    exact hy3 this.2
                  simp [new_box, app_box, len_box, cell_box, cell_box0, cells_box, cells_box0, store_box, store_box0, cellB_bx, cellsB_bx, storeB_bx, BodyK, resVs, resV, retV, box_all, cast_lit, wrap_1, wrap_2, wrap_3, wrap_4, t1, e0, e1, hx, hx0, hx8', h8', hsk, hbk]
                  refine bHas_call (hA.lt k) ?_
                  rw [hasB_nat (by omega), hn]
                  simp [new_box, app_box, len_box, cell_box, cell_box0, cells_box, cells_box0, store_box, store_box0, cellB_bx, cellsB_bx, storeB_bx, BodyK, resVs, resV, retV, box_all, cast_lit, wrap_1, wrap_2, wrap_3, wrap_4, callK_def, wk]
                  exact .go (k1, v1, out, H2) (by simp only []; omega) (by simp) rfl ⟨by simp only []; omega, stay hng⟩
                | false =>
                  have hgn : Gone code k c := ⟨h8, x, hx8, hx, hcome, fun hj => by
                    have := (hA.bit k x).2 ⟨hlt, by rw [nexts_succs hc]; exact hj⟩
                    rw [hn] at this; cases this⟩
                  obtain ⟨H3, s1, s2, s3⟩ := cod2.store (r := k) (by rw [v.len]; exact hlt) (x := nopI) rfl
                  have s1' : storeV H2 4 (.pointer (some ⟨h.length + 1, k * 4, some 1⟩)) (.agg #[.int .u8 0, .int .i64 0, .int .i64 0, .int .i64 0]) = some H3 := s1
                  have sc : SC h code cs k1 v1 (out.set k nopI) H3 := by
                    refine ⟨r2.keep (s3.1 _ (by omega)), s2, a2.keep fun i hi => s3.1 i (fun e => by have := a2.low i hi; omega), res2.keep (s3.1 _ (by omega)), ⟨by rw [s3.2]; exact kp2.1, fun i hi => by rw [s3.1 i (by omega)]; exact kp2.2 i hi⟩, by simp [v.len], fun i hi => ?_, fun i d hi hd hg => ?_, fun i d hi hd hg => ?_⟩
                    · rw [List.getElem?_set_ne (by omega)]; exact v.tail i (by omega)
                    · by_cases e : i = k
                      · subst e; rw [List.getElem?_set_self (by rw [v.len]; exact hlt)]
                      · rw [List.getElem?_set_ne (fun h => e h.symm)]; exact v.gone i d (by omega) hd hg
                    · by_cases e : i = k
                      · subst e; rw [hc] at hd; cases hd; exact absurd hgn hg
                      · rw [List.getElem?_set_ne (fun h => e h.symm)]; exact v.stay i d (by omega) hd hg
                  simp [new_box, app_box, len_box, cell_box, cell_box0, cells_box, cells_box0, store_box, store_box0, cellB_bx, cellsB_bx, storeB_bx, BodyK, resVs, resV, retV, box_all, cast_lit, wrap_1, wrap_2, wrap_3, wrap_4, t1, e0, e1, hx, hx0, hx8', h8', hsk, hbk]
                  refine bHas_call (hA.lt k) ?_
                  rw [hasB_nat (by omega), hn]
                  simp [new_box, app_box, len_box, cell_box, cell_box0, cells_box, cells_box0, store_box, store_box0, cellB_bx, cellsB_bx, storeB_bx, BodyK, resVs, resV, retV, box_all, cast_lit, wrap_1, wrap_2, wrap_3, wrap_4, callK_def, wk, ecs, hcs, hlt, s1']
                  exact .go (k1, v1, out.set k nopI, H3) (by simp only []; omega) (by simp) rfl ⟨by simp only []; omega, by subst hcs; exact sc⟩
              | false =>
                have hng : ¬ Gone code k c := fun ⟨_, y, _, _, hy, _⟩ => by rw [← hs2 k, hsk] at hy; cases hy
                simp [new_box, app_box, len_box, cell_box, cell_box0, cells_box, cells_box0, store_box, store_box0, cellB_bx, cellsB_bx, storeB_bx, BodyK, resVs, resV, retV, box_all, cast_lit, wrap_1, wrap_2, wrap_3, wrap_4, t1, e0, e1, hx, hx0, hx8', h8', hsk, wk]
                exact .go (k1, v1, out, H2) (by simp only []; omega) (by simp) rfl ⟨by simp only []; omega, stay hng⟩
            · have h8' : ¬ (c.op : Int) = 8 := by omega
              have hng : ¬ Gone code k c := fun hg => h8 hg.1
              simp [new_box, app_box, len_box, cell_box, cell_box0, cells_box, cells_box0, store_box, store_box0, cellB_bx, cellsB_bx, storeB_bx, BodyK, resVs, resV, retV, box_all, cast_lit, wrap_1, wrap_2, wrap_3, wrap_4, t1, e0, e1, hx, hx0, hx8', h8', wk]
              exact .go (k1, v1, out, H2) (by simp only []; omega) (by simp) rfl ⟨by simp only []; omega, stay hng⟩
          · have hx8' : ¬ (x : Int) < 8 := by omega
            have hng : ¬ Gone code k c := fun ⟨_, y, hy, hy2, _⟩ => by omega
            by_cases h8' : (c.op : Int) = 8
            · simp [new_box, app_box, len_box, cell_box, cell_box0, cells_box, cells_box0, store_box, store_box0, cellB_bx, cellsB_bx, storeB_bx, BodyK, resVs, resV, retV, box_all, cast_lit, wrap_1, wrap_2, wrap_3, wrap_4, t1, e0, e1, hx, hx0, hx8', h8', wk]
              exact .go (k1, v1, out, H2) (by simp only []; omega) (by simp) rfl ⟨by simp only []; omega, stay hng⟩
            · simp [new_box, app_box, len_box, cell_box, cell_box0, cells_box, cells_box0, store_box, store_box0, cellB_bx, cellsB_bx, storeB_bx, BodyK, resVs, resV, retV, box_all, cast_lit, wrap_1, wrap_2, wrap_3, wrap_4, t1, e0, e1, hx, hx0, hx8', h8', wk]
              exact .go (k1, v1, out, H2) (by simp only []; omega) (by simp) rfl ⟨by simp only []; omega, stay hng⟩
        · have hng : ¬ Gone code k c := fun ⟨_, y, hy, hy2, _⟩ => by omega
          by_cases h8' : (c.op : Int) = 8
          · simp [new_box, app_box, len_box, cell_box, cell_box0, cells_box, cells_box0, store_box, store_box0, cellB_bx, cellsB_bx, storeB_bx, BodyK, resVs, resV, retV, box_all, cast_lit, wrap_1, wrap_2, wrap_3, wrap_4, t1, e0, e1, ha0, h8', wk]
            exact .go (k1, v1, out, H2) (by simp only []; omega) (by simp) rfl ⟨by simp only []; omega, stay hng⟩
          · simp [new_box, app_box, len_box, cell_box, cell_box0, cells_box, cells_box0, store_box, store_box0, cellB_bx, cellsB_bx, storeB_bx, BodyK, resVs, resV, retV, box_all, cast_lit, wrap_1, wrap_2, wrap_3, wrap_4, t1, e0, e1, ha0, h8', wk]
            exact .go (k1, v1, out, H2) (by simp only []; omega) (by simp) rfl ⟨by simp only []; omega, stay hng⟩
      · obtain rfl : k = code.length := by omega
        have hkf : ¬ (code.length : Int) < code.length := by omega
        have hce : H.cells? (h.length + 2) 0 0 2 = some [cs, fv] := v.row.cells rfl
        have hfc : cellsOf fv = some [fv] := v.frm.cell
        obtain ⟨H2, s1, s2, s3⟩ := v.res.store (n := 2) (cs := [cs, fv]) rfl rfl (by
          have hq := v.frm
          rcases hq with ⟨e, _⟩ | ⟨id, ver, e, _⟩ <;> rw [e, hcs] <;> rfl)
        have s1' : storeV H 2 (ptr h.length) (.agg #[cs, fv]) = some H2 := s1
        have ce2 : H2.cells? h.length 0 0 2 = some [cs, fv] := s2.cells rfl
        simp [new_box, app_box, len_box, cell_box, cell_box0, cells_box, cells_box0, store_box, store_box0, cellB_bx, cellsB_bx, storeB_bx, BodyK, resVs, resV, retV, box_all, cast_lit, wrap_1, wrap_2, wrap_3, wrap_4, hkf, hce, s1', ce2]
        obtain ⟨g, hg⟩ := (v.kp.trans ⟨by rw [s3.2]; exact Nat.le_refl _, fun i hi => s3.1 i (by omega)⟩ : Keeps h.length h H2).ext
        have cod2 : RowM 4 vIns H2 (h.length + 1) 1 4 out := v.cod.keep (s3.1 _ (by omega))
        have frm2 : AccL vI (h.length + 2 + 1) H2 fv (ownL code.length) := v.frm.keep fun i hi => s3.1 i (fun e => by have := v.frm.low i hi; omega)
        have i1 : Inl h.length H2 cs (vM 4 vIns out) := by
          rw [hcs]
          exact AccM.inl (e := 4) (F := vIns) (b := h.length) (.inr ⟨_, 1, by rw [v.len], by omega, cod2, flat_len (e := 4) (fun _ => rfl) _⟩) fun _ => rfl
        have i2 : Inl h.length H2 fv (vL vI (ownL code.length)) := by
          have f3 : AccL vI h.length H2 fv (ownL code.length) := by
            rcases frm2 with ⟨e1, e2, e3⟩ | ⟨id, ver, e1, e2, e3⟩
            · exact Or.inl ⟨e1, e2, e3⟩
            · exact Or.inr ⟨id, ver, e1, by omega, e3⟩
          exact AccL.inl f3 fun _ => rfl
        refine ⟨⟨g, hg⟩, _, Inls.agg (xs := [cs, fv]) (ys := [vM 4 vIns out, vL vI (ownL code.length)]) ⟨i1, i2, trivial⟩, hk out (ownL code.length) ?_⟩
        unfold StoredL
        rw [if_neg h60]
        exact ⟨⟨v.len, fun i c hc => v.gone i c (List.getElem?_eq_some_iff.1 hc).1 hc, fun i c hc => v.stay i c (List.getElem?_eq_some_iff.1 hc).1 hc⟩, rfl⟩
end
end Pm
