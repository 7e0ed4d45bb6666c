/- The abstract machine, fourth part: every quiet operation's translation is right.
   No condition: plain lemmas. -/
import Derived.Test.YtjddnmjmaalcgaaAmQuiet
namespace Am
set_option linter.unusedSimpArgs false
set_option linter.unusedVariables false
open Go
section
variable {P : Program} {m : Mu} {H : Heap} {w : World} {fr : Fr} {a : Act}

theorem run_places : ∀ {fs : List Field} {pl : List (Nat × Nat)}, fieldPlaces P fs = some pl → ∀ (w : World), (fs.mapM fun f => (do pure (f.offset, ← Go.sizeOf f.type) : Sem (Nat × Nat))).run P w = .ok pl w
  | [], pl, h, w => by simp [fieldPlaces] at h; subst h; simp
  | f :: fs, pl, h, w => by
    simp only [fieldPlaces] at h
    split at h
    · rename_i n ps h1 h2
      cases h
      have ih := run_places h2 w
      simp only [List.mapM_cons, Sem.run_bind, run_sizeOf h1, Result.andThen_ok, Sem.run_pure, ih]
    · cases h

theorem partsOf_some {place : Nat → Option (Nat × Nat)} : ∀ {ps : List (Nat × Operand)} {qs : List (Nat × Nat × Operand)}, partsOf place ps = some qs → ps.length = qs.length ∧
    ∀ (j i : Nat) (x : Operand) (off n : Nat) (y : Operand), ps[j]? = some (i, x) → qs[j]? = some (off, n, y) → place i = some (off, n) ∧ y = x ∧ okO x = true
  | [], qs, h => by simp [partsOf] at h; subst h; exact ⟨rfl, fun j i x off n y h => by simp at h⟩
  | (i, x) :: ps, qs, h => by
    simp only [partsOf] at h
    split at h
    · rename_i off n qs' h1 h2
      split at h
      · rename_i hx
        cases h
        obtain ⟨k1, k2⟩ := partsOf_some h2
        refine ⟨by simp [k1], fun j i' x' off' n' y' q1 q2 => ?_⟩
        cases j with
        | zero => simp at q1 q2; obtain ⟨rfl, rfl⟩ := q1; obtain ⟨rfl, rfl, rfl⟩ := q2; exact ⟨h1, rfl, hx⟩
        | succ j => exact k2 j i' x' off' n' y' (by simpa using q1) (by simpa using q2)
      · cases h
    · cases h

theorem fill_parts (hF : FRel m fr a) {place : Nat → Option (Nat × Nat)} {ps : List (Nat × Operand)} {qs : List (Nat × Nat × Operand)} (hq : partsOf place ps = some qs) {cells : Array Value} {l r : List Value}
    (hl : VRels m l cells.toList) (h : fillL l (qs.map fun p => (p.1, p.2.1, ev fr p.2.2)) = some r) :
    ∃ out, Instr.fill place cells (ps.map fun p => (p.1, a.eval p.2)) = some out ∧ VRels m r out.toList := by
  obtain ⟨h1, h2⟩ := partsOf_some hq
  refine fill_run place _ _ cells l r hl (by simpa using h1) (fun j i c off n v q1 q2 => ?_) h
  rw [List.getElem?_map] at q1 q2
  cases hp : ps[j]? with
  | none => simp [hp] at q1
  | some p =>
    cases hq' : qs[j]? with
    | none => simp [hq'] at q2
    | some q =>
      obtain ⟨pi, px⟩ := p
      obtain ⟨qo, qn, qx⟩ := q
      simp [hp] at q1; simp [hq'] at q2
      obtain ⟨rfl, rfl⟩ := q1; obtain ⟨rfl, rfl, rfl⟩ := q2
      obtain ⟨z1, z2, z3⟩ := h2 j _ _ _ _ _ hp hq'
      subst z2
      exact ⟨z1, hF.ev z3⟩

theorem s_build_struct (hF : FRel m fr a) {t : TypeId} {z : List Value} {fs : Array Field} {pl : List (Nat × Nat)} {parts : Array (Nat × Operand)} {qs : List (Nat × Nat × Operand)} (hz : zeroOf P t = some z) (ht : P.underlying t = some (.struct fs))
    (hp : fieldPlaces P fs.toList = some pl) (hq : partsOf (pl[·]?) parts.toList = some qs) {r : List Value} (h : fillL z (qs.map fun p => (p.1, p.2.1, ev fr p.2.2)) = some r) :
    ∃ c, (Instr.build t (parts.map fun p => (p.1, a.eval p.2))).run P w = .ok c w ∧ VRel m (.agg r.toArray) c := by
  obtain ⟨i, zv, h1, h2, h3, h4, h5, h6⟩ := zeroOf_some hz
  obtain ⟨out, ho, hr⟩ := fill_parts hF hq (cells := zv.cells) (by rw [h3]; exact plainC_rels m h5) h
  refine ⟨.agg out, ?_, .agg' (by simpa using hr)⟩
  have hm : (fs.mapM fun f => (do pure (f.offset, ← Go.sizeOf f.type) : Sem (Nat × Nat))).run P w = .ok pl.toArray w := by
    rw [Array.mapM_eq_mapM_toList]; simp only [Sem.run_map, run_places hp w, Result.andThen_ok]
  have e : (fun x : Nat => pl.toArray[x]?) = fun x => pl[x]? := by funext x; simp
  simp only [Instr.build, Sem.run_bind, run_zero h1 h2, Result.andThen_ok, run_und ht]
  rw [hm]
  simp only [Result.andThen_ok, e, Array.toList_map, ho]
  rfl
theorem s_build_array (hF : FRel m fr a) {t : TypeId} {z : List Value} {len : Nat} {e : TypeId} {n : Nat} {parts : Array (Nat × Operand)} {qs : List (Nat × Nat × Operand)} (hz : zeroOf P t = some z) (ht : P.underlying t = some (.array len e))
    (hn : szOf P e = some n) (hq : partsOf (fun i => some (i * n, n)) parts.toList = some qs) {r : List Value} (h : fillL z (qs.map fun p => (p.1, p.2.1, ev fr p.2.2)) = some r) :
    ∃ c, (Instr.build t (parts.map fun p => (p.1, a.eval p.2))).run P w = .ok c w ∧ VRel m (.agg r.toArray) c := by
  obtain ⟨i, zv, h1, h2, h3, h4, h5, h6⟩ := zeroOf_some hz
  obtain ⟨out, ho, hr⟩ := fill_parts hF hq (cells := zv.cells) (by rw [h3]; exact plainC_rels m h5) h
  refine ⟨.agg out, ?_, .agg' (by simpa using hr)⟩
  simp only [Instr.build, Sem.run_bind, run_zero h1 h2, Result.andThen_ok, run_und ht, run_sizeOf hn, Array.toList_map, ho]
  rfl

theorem rel_tuple {xs : Array Value} {c : Value} (h : VRel m (.tuple xs) c) : ∃ ys, c = .tuple ys ∧ xs.size = ys.size ∧ ∀ (i : Nat) (x y : Value), xs[i]? = some x → ys[i]? = some y → VRel m x y := by
  cases h with
  | tup hs h => exact ⟨_, rfl, hs, h⟩

theorem eqB_run {t : TypeId} (ht : P.underlying t = some .bool) (x y : Bool) (w : World) : (binOp .eql t (.bool x) (.bool y)).run P w = .ok (.bool (x == y)) w := by
  have h := run_equalIn_bool' (P := P) w 9999 t x y ht
  show ((do pure (.bool (← Op.equal t (.bool x) (.bool y))) : Sem Value)).run P w = _
  have e : Op.equal t (.bool x) (.bool y) = Op.equalIn (9999 + 1) t (.bool x) (.bool y) := rfl
  rw [e]; simp only [Sem.run_bind, h, Result.andThen_ok, Sem.run_pure]
theorem neB_run {t : TypeId} (ht : P.underlying t = some .bool) (x y : Bool) (w : World) : (binOp .neq t (.bool x) (.bool y)).run P w = .ok (.bool (x != y)) w := by
  have h := run_equalIn_bool' (P := P) w 9999 t x y ht
  show ((do pure (.bool (!(← Op.equal t (.bool x) (.bool y)))) : Sem Value)).run P w = _
  have e : Op.equal t (.bool x) (.bool y) = Op.equalIn (9999 + 1) t (.bool x) (.bool y) := rfl
  rw [e]; simp only [Sem.run_bind, h, Result.andThen_ok, Sem.run_pure]; rfl

theorem eqS_run {t : TypeId} (x y : ByteArray) (w : World) : (binOp .eql t (.string x) (.string y)).run P w = .ok (.bool (x == y)) w := by
  rw [binOp_string_eql, beq_toListBytes]; rfl
theorem neS_run {t : TypeId} (x y : ByteArray) (w : World) : (binOp .neq t (.string x) (.string y)).run P w = .ok (.bool (!(x == y))) w := by
  rw [beq_toListBytes]; simp [binOp, Op.stringOp]
theorem eqC_rel {m : Mu} {k : Nat} {x y x' y' : Value} {b : Bool} (h : eqC k x y = some b) (hx : VRel m x x') (hy : VRel m y y') : x' = x ∧ y' = y := by
  unfold eqC at h
  split at h
  · exact ⟨rel_bool hx, rel_bool hy⟩
  · exact ⟨rel_int hx, rel_int hy⟩
  · exact ⟨rel_string hx, rel_string hy⟩
  · cases h
theorem eqCs_rel {m : Mu} : ∀ {ks : List Nat} {xs ys xs' ys' : List Value} {b : Bool}, eqCs ks xs ys = some b → VRels m xs xs' → VRels m ys ys' → eqCs ks xs' ys' = some b
  | [], [], [], _, _, _, h, hx, hy => by cases hx; cases hy; exact h
  | [], [], _ :: _, _, _, _, h, _, _ => by cases h
  | [], _ :: _, _, _, _, _, h, _, _ => by cases h
  | _ :: _, [], _, _, _, _, h, _, _ => by cases h
  | _ :: _, _ :: _, [], _, _, _, h, _, _ => by cases h
  | k :: ks, x :: xs, y :: ys, _, _, b, h, hx, hy => by
    cases hx with
    | cons hx hxs =>
      cases hy with
      | cons hy hys =>
        simp only [eqCs] at h ⊢
        cases e : eqC k x y with
        | none => rw [e] at h; cases h
        | some t =>
          obtain ⟨rfl, rfl⟩ := eqC_rel e hx hy
          rw [e] at h ⊢
          cases t with
          | true => exact eqCs_rel h hxs hys
          | false => exact h
theorem eqC_int {x y : Value} {b : Bool} (h : eqC 0 x y = some b) : ∃ k n n', x = .int k n ∧ y = .int k n' ∧ b = (n == n') := by
  cases x <;> cases y <;> simp [eqC] at h
  rename_i k n k' n'
  obtain ⟨rfl, rfl⟩ := h
  exact ⟨_, _, _, rfl, rfl, rfl⟩
theorem eqC_bool {x y : Value} {b : Bool} (h : eqC 1 x y = some b) : ∃ n n', x = .bool n ∧ y = .bool n' ∧ b = (n == n') := by
  cases x <;> cases y <;> simp [eqC] at h
  exact ⟨_, _, rfl, rfl, h.symm⟩
theorem eqC_string {x y : Value} {b : Bool} (h : eqC 2 x y = some b) : ∃ n n', x = .string n ∧ y = .string n' ∧ b = (n == n') := by
  cases x <;> cases y <;> simp [eqC] at h
  exact ⟨_, _, rfl, rfl, h.symm⟩
theorem eqIn_scalar {t : TypeId} {k : Nat} (ht : scalarT P t = some k) {x y : Value} {b : Bool} (h : eqC k x y = some b) (d : Nat) (w : World) : (Op.equalIn (d + 1) t x y).run P w = .ok b w := by
  unfold scalarT at ht
  split at ht
  · rename_i k' hu
    cases ht
    obtain ⟨k, n, n', rfl, rfl, rfl⟩ := eqC_int h
    simp [Op.equalIn, run_und hu]
  · rename_i hu
    cases ht
    obtain ⟨n, n', rfl, rfl, rfl⟩ := eqC_bool h
    simp [Op.equalIn, run_und hu]
  · rename_i hu
    cases ht
    obtain ⟨n, n', rfl, rfl, rfl⟩ := eqC_string h
    simp [Op.equalIn, run_und hu]
  · cases ht
theorem part_scalar {t : TypeId} {k : Nat} (ht : scalarT P t = some k) {cs : Array Value} {off : Nat} {v : Value} (h : cs[off]? = some v) (w : World) : (part t cs off).run P w = .ok v w := by
  have ha : (isAgg t).run P w = .ok false w := by
    unfold scalarT at ht
    split at ht <;> first | (rename_i hu; simp [isAgg, run_und hu]) | cases ht
  simp only [part, Sem.run_bind, ha, Result.andThen_ok, Bool.false_eq_true, if_false, h, Sem.run_pure]
theorem flat_run (d : Nat) (w : World) (xs ys : Array Value) : ∀ (fs : List Field) (off : Nat) (ks : List Nat) (b : Bool), flatF P off fs = some ks → eqCs ks (xs.toList.drop off) (ys.toList.drop off) = some b → (Op.eqFields (d + 1) xs ys fs).run P w = .ok b w
  | [], off, ks, b, hf, h => by
    cases hf
    cases hx : xs.toList.drop off <;> cases hy : ys.toList.drop off <;> rw [hx, hy] at h <;> simp [eqCs] at h
    subst h; simp [Op.eqFields]
  | f :: fs, off, ks, b, hf, h => by
    simp only [flatF] at hf
    split at hf
    · rename_i hc
      simp only [Bool.and_eq_true, bne_iff_ne, ne_eq, beq_iff_eq] at hc
      split at hf
      · rename_i k ks' hk hks
        cases hf
        cases hx : xs.toList.drop off with
        | nil => rw [hx] at h; cases hy : ys.toList.drop off <;> rw [hy] at h <;> simp [eqCs] at h
        | cons x xr =>
          cases hy : ys.toList.drop off with
          | nil => rw [hx, hy] at h; simp [eqCs] at h
          | cons y yr =>
            rw [hx, hy] at h
            simp only [eqCs] at h
            have gx : xs[off]? = some x := by rw [← Array.getElem?_toList, ← Nat.add_zero off, ← List.getElem?_drop, hx]; rfl
            have gy : ys[off]? = some y := by rw [← Array.getElem?_toList, ← Nat.add_zero off, ← List.getElem?_drop, hy]; rfl
            have dx : xs.toList.drop (off + 1) = xr := by rw [← List.drop_drop, hx]; rfl
            have dy : ys.toList.drop (off + 1) = yr := by rw [← List.drop_drop, hy]; rfl
            cases e : eqC k x y with
            | none => rw [e] at h; cases h
            | some t =>
              rw [e] at h
              have hnm : f.name ≠ "_" := hc.1
              simp only [Op.eqFields, if_pos hnm, Sem.run_bind, hc.2, part_scalar hk gx, part_scalar hk gy, Result.andThen_ok, eqIn_scalar hk e d w]
              cases t with
              | true => simp only [Bool.not_true, Bool.false_eq_true, if_false]; exact flat_run d w xs ys fs (off + 1) ks' b hks (by rw [dx, dy]; exact h)
              | false => cases h; simp
      · cases hf
    · cases hf
theorem eqA_run {t : TypeId} {fs : Array Field} {ks : List Nat} (ht : P.underlying t = some (.struct fs)) (hs : P.stoodInHeld t = false) (hf : flatF P 0 fs.toList = some ks) {xs ys : Array Value} {b : Bool} (h : eqCs ks xs.toList ys.toList = some b) (w : World) :
    (Op.equalIn 10000 t (.agg xs) (.agg ys)).run P w = .ok b w := by
  have hfs : P.fieldsOf t = fs := by simp [Program.fieldsOf, ht]
  rw [show (10000 : Nat) = 9998 + 1 + 1 from rfl, run_equalIn_struct w (9998 + 1) t xs ys (by rw [hfs]; exact ht) hs, hfs]
  exact flat_run 9998 w xs ys fs.toList 0 ks b hf (by simpa using h)
theorem eqCs_app : ∀ {ks ks' : List Nat} {xs ys : List Value} {b : Bool}, eqCs (ks ++ ks') xs ys = some b →
    ∃ b1, eqCs ks (xs.take ks.length) (ys.take ks.length) = some b1 ∧ (b1 = false → b = false) ∧ (b1 = true → eqCs ks' (xs.drop ks.length) (ys.drop ks.length) = some b)
  | [], ks', xs, ys, b, h => ⟨true, by simp [eqCs], fun e => by (cases e), fun _ => by simpa using h⟩
  | k :: ks, ks', [], ys, b, h => by cases ys <;> simp [eqCs] at h
  | k :: ks, ks', x :: xs, [], b, h => by simp [eqCs] at h
  | k :: ks, ks', x :: xs, y :: ys, b, h => by
    simp only [List.cons_append, eqCs] at h
    simp only [List.length_cons, List.take_succ_cons, List.drop_succ_cons, eqCs]
    cases e : eqC k x y with
    | none => rw [e] at h; cases h
    | some t =>
      rw [e] at h
      cases t with
      | true => exact eqCs_app h
      | false => cases h; exact ⟨false, rfl, fun _ => rfl, fun e => by (cases e)⟩
theorem eqE_run {e : TypeId} {ks : List Nat} (he : flatE P e = some ks) {xs ys : Array Value} {off : Nat} {b : Bool} (h : eqCs ks ((xs.toList.drop off).take ks.length) ((ys.toList.drop off).take ks.length) = some b) (d : Nat) (w : World) :
    ∃ x y, (part e xs off).run P w = .ok x w ∧ (part e ys off).run P w = .ok y w ∧ (Op.equalIn (d + 1 + 1) e x y).run P w = .ok b w := by
  unfold flatE at he
  split at he
  · rename_i k hk
    cases he
    cases hx : xs[off]? with
    | none =>
      have : xs.toList.drop off = [] := List.drop_eq_nil_of_le (by simpa using Array.getElem?_eq_none_iff.1 hx)
      rw [this] at h
      cases hy : (ys.toList.drop off).take 1 <;> simp [hy, eqCs] at h
    | some x =>
      have gx : (xs.toList.drop off).take 1 = [x] := by
        have h1 := (Array.getElem?_eq_some_iff.1 hx)
        obtain ⟨h1, h2⟩ := h1
        rw [List.drop_eq_getElem_cons (by simpa using h1)]
        simp [h2]
      cases hy : ys[off]? with
      | none =>
        have : ys.toList.drop off = [] := List.drop_eq_nil_of_le (by simpa using Array.getElem?_eq_none_iff.1 hy)
        rw [this] at h
        simp [gx, eqCs] at h
      | some y =>
        have gy : (ys.toList.drop off).take 1 = [y] := by
          have h1 := (Array.getElem?_eq_some_iff.1 hy)
          obtain ⟨h1, h2⟩ := h1
          rw [List.drop_eq_getElem_cons (by simpa using h1)]
          simp [h2]
        simp only [List.length_cons, List.length_nil, Nat.zero_add, gx, gy, eqCs] at h
        refine ⟨x, y, part_scalar hk hx w, part_scalar hk hy w, eqIn_scalar hk ?_ _ w⟩
        cases e1 : eqC k x y with
        | none => rw [e1] at h; cases h
        | some t => rw [e1] at h; cases t <;> exact h
  · split at he
    · rename_i fs hu
      split at he
      · rename_i ks' hks
        split at he
        · rename_i hc
          cases he
          have ha : (isAgg e).run P w = .ok true w := by simp [isAgg, run_und hu]
          have hp : ∀ zs : Array Value, (part e zs off).run P w = .ok (.agg (zs.extract off (off + ks.length))) w := by
            intro zs
            simp only [part, Sem.run_bind, ha, Result.andThen_ok, if_true, run_sizeOf hc.2, Sem.run_pure]
          have hfs : P.fieldsOf e = fs := by simp [Program.fieldsOf, hu]
          refine ⟨_, _, hp xs, hp ys, ?_⟩
          rw [run_equalIn_struct w (d + 1) e _ _ (by rw [hfs]; exact hu) hc.1, hfs]
          refine flat_run d w _ _ fs.toList 0 ks b hks ?_
          simpa using h
        · cases he
      · cases he
    · cases he
theorem items_run {e : TypeId} {ks : List Nat} (he : flatE P e = some ks) (xs ys : Array Value) (d : Nat) (w : World) : ∀ (n j : Nat) (b : Bool), eqCs (repK n ks) (xs.toList.drop (j * ks.length)) (ys.toList.drop (j * ks.length)) = some b →
    (Op.eqItems (d + 1 + 1) e ks.length xs ys (List.range' j n)).run P w = .ok b w
  | 0, j, b, h => by
    simp only [List.range'_zero, Op.eqItems, Sem.run_pure]
    simp only [repK, List.replicate_zero, List.flatten_nil] at h
    cases hx : xs.toList.drop (j * ks.length) <;> cases hy : ys.toList.drop (j * ks.length) <;> rw [hx, hy] at h <;> simp [eqCs] at h
    rw [h]
  | n + 1, j, b, h => by
    have hr : repK (n + 1) ks = ks ++ repK n ks := by simp [repK, List.replicate_succ]
    rw [hr] at h
    obtain ⟨b1, h1, h2, h3⟩ := eqCs_app h
    obtain ⟨x, y, p1, p2, p3⟩ := eqE_run he h1 d w
    simp only [List.range'_succ, Op.eqItems, Sem.run_bind, p1, p2, p3, Result.andThen_ok]
    cases b1 with
    | false => rw [h2 rfl]; simp
    | true =>
      simp only [Bool.not_true, Bool.false_eq_true, if_false]
      refine items_run he xs ys d w n (j + 1) b ?_
      have := h3 rfl
      rw [List.drop_drop, List.drop_drop] at this
      rw [Nat.succ_mul]; exact this
theorem eqArr_run {t e : TypeId} {n : Nat} {ks : List Nat} (ht : P.underlying t = some (.array n e)) (he : flatE P e = some ks) (hs : szOf P e = some ks.length) {xs ys : Array Value} {b : Bool} (h : eqCs (repK n ks) xs.toList ys.toList = some b) (w : World) :
    (Op.equalIn 10000 t (.agg xs) (.agg ys)).run P w = .ok b w := by
  unfold szOf at hs
  cases hi : P.info? e with
  | none => rw [hi] at hs; cases hs
  | some i =>
    have hc : P.cellsOf e = ks.length := by rw [hi] at hs; simpa [Program.cellsOf, hi] using hs
    rw [show (10000 : Nat) = 9997 + 1 + 1 + 1 from rfl, run_equalIn_array w (9997 + 1 + 1) xs ys ht hi, hc, List.range_eq_range']
    exact items_run he xs ys 9997 w n 0 b (by simpa using h)
set_option maxHeartbeats 1000000 in
theorem qop_sound (hA : ARel m H w) (hF : FRel m fr a) {o : Oper} {q : QOp} (hc : cQ P o.op = some q) {v : Value} (h : qop q fr H = some v) : ∃ c, (execOp a.eval o).run P w = .ok (.value c) w ∧ VRel m v c := by
  obtain ⟨dst, op, ty, pos, after, guard⟩ := o
  simp only at hc
  have fin : ∀ {s : Sem Value} {c : Value}, s.run P w = .ok c w → ((do pure (.value (← s)) : Sem Next)).run P w = .ok (.value c) w := by
    intro s c hs; simp only [Sem.run_bind, hs, Result.andThen_ok, Sem.run_pure]
  cases op
  case move x =>
    simp only [cQ] at hc; split at hc
    · rename_i hx; cases hc; cases h; exact ⟨a.eval x, rfl, hF.ev hx⟩
    · cases hc
  case assign x =>
    simp only [cQ] at hc; split at hc
    · rename_i hx; cases hc; cases h; exact ⟨a.eval x, rfl, hF.ev hx⟩
    · cases hc
  case pick c x y =>
    simp only [cQ] at hc; split at hc
    · rename_i hx; cases hc
      simp only [Bool.and_eq_true] at hx
      simp only [qop, pickV] at h
      split at h
      · rename_i t ht
        cases h
        have hb := hF.ev hx.1.1
        rw [ht] at hb
        refine ⟨if t then a.eval x else a.eval y, ?_, ?_⟩
        · simp [execOp, asBool, rel_bool hb]
        · cases t
          · exact hF.ev hx.2
          · exact hF.ev hx.1.2
      · cases h
    · cases hc
  case build t parts =>
    simp only [cQ] at hc
    split at hc
    · rename_i z fs hz ht
      split at hc
      · rename_i pl hp
        cases hq : partsOf (pl[·]?) parts.toList with
        | none => simp [hq] at hc
        | some qs =>
          simp [hq] at hc; subst hc
          simp only [qop, Option.map_eq_some_iff] at h
          obtain ⟨r, hr, rfl⟩ := h
          obtain ⟨c, k1, k2⟩ := s_build_struct (w := w) hF hz ht hp hq hr
          exact ⟨c, fin k1, k2⟩
      · cases hc
    · rename_i z len e hz ht
      split at hc
      · rename_i n hn
        cases hq : partsOf (fun i => some (i * n, n)) parts.toList with
        | none => simp [hq] at hc
        | some qs =>
          simp [hq] at hc; subst hc
          simp only [qop, Option.map_eq_some_iff] at h
          obtain ⟨r, hr, rfl⟩ := h
          obtain ⟨c, k1, k2⟩ := s_build_array (w := w) hF hz ht hn hq hr
          exact ⟨c, fin k1, k2⟩
      · cases hc
    · cases hc
  case load t x =>
    simp only [cQ] at hc; split at hc
    · rename_i hx
      split at hc
      · rename_i ht; cases hc; obtain ⟨c, k1, k2⟩ := s_load hA (hF.ev hx) h ht; exact ⟨c, fin k1, k2⟩
      · rename_i n ht; cases hc; obtain ⟨c, k1, k2⟩ := s_loadA hA (hF.ev hx) h ht; exact ⟨c, fin k1, k2⟩
      · cases hc
    · cases hc
  case binOp op t x y yt =>
    simp only [cQ] at hc; split at hc
    · rename_i hx
      simp only [Bool.and_eq_true] at hx
      split at hc
      · rename_i k ht
        cases hc
        simp only [qop] at h
        have hx1 := hF.ev hx.1
        have hx2 := hF.ev hx.2
        have hv := h
        unfold binV at hv
        split at hv
        · rename_i k1 n1 k2 n2 e1 e2
          rw [e1] at hx1; rw [e2] at hx2
          have g1 := rel_int hx1
          have g2 := rel_int hx2
          rw [e1, e2] at h
          have hr := binV_run (P := P) h w t
          have hv' : VRel m v v := by
            split at hv
            · unfold shI at hv
              split at hv
              · cases hv
              · cases op <;> simp at hv <;> subst hv <;> exact .int _ _
            · split at hv
              · cases op <;> simp [binI] at hv <;> first | (subst hv; exact .int _ _) | (subst hv; exact .bool _) | (obtain ⟨_, rfl⟩ := hv; exact .int _ _)
              · cases hv
          refine ⟨v, ?_, hv'⟩
          simp only [execOp, Sem.run_bind, g1, g2]
          rw [eqGuard_int _ _ _ _ _ _ (fun cs e => by cases e) (fun e => by cases e)]
          simp only [Result.andThen_ok, hr, Sem.run_pure]
        · cases hv
      · rename_i ht
        have key : ∀ (neg : Bool), op = (if neg then .neq else .eql) → q = .eqB neg x y → ∃ c, (execOp a.eval ⟨dst, .binOp op t x y yt, ty, pos, after, guard⟩).run P w = .ok (.value c) w ∧ VRel m v c := by
          intro neg hop hq
          subst hq
          simp only [qop, eqBV] at h
          have hx1 := hF.ev hx.1
          have hx2 := hF.ev hx.2
          split at h
          · rename_i b1 b2 e1 e2
            rw [e1] at hx1; rw [e2] at hx2
            cases h
            refine ⟨_, ?_, .bool _⟩
            simp only [execOp, Sem.run_bind, rel_bool hx1, rel_bool hx2]
            rw [eqGuard_int _ _ _ _ _ _ (fun cs e => by cases e) (fun e => by cases e)]
            cases neg <;> simp at hop <;> subst hop
            · simp only [Result.andThen_ok, eqB_run ht]; rfl
            · simp only [Result.andThen_ok, neB_run ht]; rfl
          · cases h
        split at hc
        · cases hc; exact key false rfl rfl
        · cases hc; exact key true rfl rfl
        · cases hc
      · rename_i ht
        have hx1 := hF.ev hx.1
        have hx2 := hF.ev hx.2
        split at hc
        · cases hc
          simp only [qop, eqSV] at h
          split at h
          · rename_i b1 b2 e1 e2
            rw [e1] at hx1; rw [e2] at hx2
            cases h
            refine ⟨_, ?_, .bool _⟩
            simp only [execOp, Sem.run_bind, rel_string hx1, rel_string hx2]
            rw [eqGuard_int _ _ _ _ _ _ (fun cs e => by cases e) (fun e => by cases e)]
            simp only [Result.andThen_ok, eqS_run]; rfl
          · cases h
        · cases hc
          simp only [qop, eqSV] at h
          split at h
          · rename_i b1 b2 e1 e2
            rw [e1] at hx1; rw [e2] at hx2
            cases h
            refine ⟨_, ?_, .bool _⟩
            simp only [execOp, Sem.run_bind, rel_string hx1, rel_string hx2]
            rw [eqGuard_int _ _ _ _ _ _ (fun cs e => by cases e) (fun e => by cases e)]
            simp only [Result.andThen_ok, neS_run]; rfl
          · cases h
        · cases hc
      · rename_i fs ht
        have hx1 := hF.ev hx.1
        have hx2 := hF.ev hx.2
        split at hc
        · rename_i ks hks
          split at hc
          · rename_i hg
            simp only [Bool.and_eq_true, Bool.not_eq_true'] at hg
            have key : ∀ (ng : Bool), op = (if ng then .neq else .eql) → q = .eqA ks ng x y → ∃ c, (execOp a.eval ⟨dst, .binOp op t x y yt, ty, pos, after, guard⟩).run P w = .ok (.value c) w ∧ VRel m v c := by
              intro ng hop hq
              subst hq
              simp only [qop, eqAV] at h
              split at h
              · rename_i xs ys e1 e2
                rw [e1] at hx1; rw [e2] at hx2
                simp only [Option.map_eq_some_iff] at h
                obtain ⟨b, hb, rfl⟩ := h
                obtain ⟨xs', c1, r1⟩ := VRel.agg_list hx1
                obtain ⟨ys', c2, r2⟩ := VRel.agg_list hx2
                have hr := eqA_run ht hg.1 hks (eqCs_rel hb r1 r2) w
                refine ⟨_, ?_, .bool _⟩
                simp only [execOp, Sem.run_bind, c1, c2]
                rw [run_eqGuard_agg _ _ _ _ _ _ _ hg.2]
                cases ng <;> simp at hop <;> subst hop
                · simp only [Result.andThen_ok, run_eql_struct, hr]; rfl
                · simp only [Result.andThen_ok, run_neq_struct, hr]; rfl
              · cases h
            split at hc
            · cases hc; exact key false rfl rfl
            · cases hc; exact key true rfl rfl
            · cases hc
          · cases hc
        · cases hc
      · rename_i n e ht
        have hx1 := hF.ev hx.1
        have hx2 := hF.ev hx.2
        split at hc
        · rename_i ks hks
          split at hc
          · rename_i hg
            have key : ∀ (ng : Bool), op = (if ng then .neq else .eql) → q = .eqA (repK n ks) ng x y → ∃ c, (execOp a.eval ⟨dst, .binOp op t x y yt, ty, pos, after, guard⟩).run P w = .ok (.value c) w ∧ VRel m v c := by
              intro ng hop hq
              subst hq
              simp only [qop, eqAV] at h
              split at h
              · rename_i xs ys e1 e2
                rw [e1] at hx1; rw [e2] at hx2
                simp only [Option.map_eq_some_iff] at h
                obtain ⟨b, hb, rfl⟩ := h
                obtain ⟨xs', c1, r1⟩ := VRel.agg_list hx1
                obtain ⟨ys', c2, r2⟩ := VRel.agg_list hx2
                have hr := eqArr_run ht hks hg.1 (eqCs_rel hb r1 r2) w
                refine ⟨_, ?_, .bool _⟩
                simp only [execOp, Sem.run_bind, c1, c2]
                rw [run_eqGuard_agg _ _ _ _ _ _ _ hg.2]
                cases ng <;> simp at hop <;> subst hop
                · simp only [Result.andThen_ok, run_eql_struct, hr]; rfl
                · simp only [Result.andThen_ok, run_neq_struct, hr]; rfl
              · cases h
            split at hc
            · cases hc; exact key false rfl rfl
            · cases hc; exact key true rfl rfl
            · cases hc
          · cases hc
        · cases hc
      · cases hc
    · cases hc
  case unOp op t x =>
    simp only [cQ] at hc; split at hc
    · rename_i hx
      have hx1 := hF.ev hx
      cases op <;> simp at hc
      · subst hc
        simp only [qop, negV] at h
        split at h
        · rename_i k n e; rw [e] at hx1; cases h
          exact ⟨_, by simp [execOp, rel_int hx1, Op.unary, Op.intArith], .int _ _⟩
        · cases h
      · subst hc
        simp only [qop, notV] at h
        split at h
        · rename_i b e; rw [e] at hx1; cases h
          exact ⟨_, by simp [execOp, rel_bool hx1, Op.unary], .bool _⟩
        · cases h
    · cases hc
  case convert s d x =>
    simp only [cQ] at hc; split at hc
    · rename_i hx
      split at hc
      · rename_i k k' hs hd
        cases hc
        have hx1 := hF.ev hx
        simp only [qop, convV] at h
        split at h
        · rename_i k2 n e; rw [e] at hx1; cases h
          exact ⟨_, by simp [execOp, rel_int hx1, convert, run_und hs, run_und hd, Conv.intToInt], .int _ _⟩
        · cases h
      · cases hc
    · cases hc
  case makeFunc fn first cap =>
    simp only [cQ] at hc; split at hc
    · rename_i hx
      cases hc
      simp only [qop] at h
      cases h
      refine ⟨_, rfl, ?_⟩
      have h0 : first = #[] := by simpa using hx.1
      subst h0
      have := rels_map hF hx.2
      refine .func (by simp) (fun i x y h => by simp at h) (by simp) fun i x y h1 h2 => ?_
      obtain ⟨c, k1, k2⟩ := this.get i x (by simpa using h1)
      have : c = y := by
        have k1' : cap[i]?.map a.eval = some c := by simpa using k1
        have h2' : cap[i]?.map a.eval = some y := by simpa using h2
        rw [k1'] at h2'; exact Option.some.inj h2'
      exact this ▸ k2
    · cases hc
  case slice t x lo hi mx =>
    cases mx with
    | some _ => simp [cQ] at hc
    | none =>
      simp only [cQ] at hc; split at hc
      · rename_i hx
        simp only [Bool.and_eq_true] at hx
        split at hc
        · rename_i e ht
          cases hn : szOf P e with
          | none => simp [hn] at hc
          | some n =>
            simp [hn] at hc; subst hc
            obtain ⟨c, k1, k2⟩ := s_cut hA hF (hF.ev hx.1.1) hx.1.2 hx.2 h ht hn
            exact ⟨c, fin k1, k2⟩
        · cases hc
      · cases hc
  case fieldAddr s x f =>
    simp only [cQ] at hc; split at hc
    · rename_i hx
      split at hc
      · rename_i fs hs
        split at hc
        · rename_i fd hf
          split at hc
          · rename_i n hn
            split at hc
            · cases hc
            · rename_i hn0; cases hc
              obtain ⟨c, k1, k2⟩ := s_field (w := w) (hF.ev hx) hs hf hn hn0 h
              exact ⟨c, fin k1, k2⟩
          · cases hc
        · cases hc
      · cases hc
    · cases hc
  case field s x f =>
    simp only [cQ] at hc; split at hc
    · rename_i hx
      split at hc
      · rename_i fs hs
        split at hc
        · rename_i fd hf
          cases hn : aggN P fd.type with
          | none => simp [hn] at hc
          | some n =>
            simp [hn] at hc; subst hc
            obtain ⟨ys, c', k0, k1, k2⟩ := s_part (w := w) (hF.ev hx) h hn
            exact ⟨c', fin (by simp [Instr.field, run_und hs, hf, k0, asAgg, k1]), k2⟩
        · cases hc
      · cases hc
    · cases hc
  case indexAddr t x i =>
    simp only [cQ] at hc; split at hc
    · rename_i hx
      simp only [Bool.and_eq_true] at hx
      split at hc
      · rename_i e ht
        cases hn : szOf P e with
        | none => simp [hn] at hc
        | some n => simp [hn] at hc; subst hc; obtain ⟨c, k1, k2⟩ := s_idxA (w := w) (hF.ev hx.1) (hF.ev hx.2) h ht hn; exact ⟨c, fin k1, k2⟩
      · rename_i len e ht
        cases hn : szOf P e with
        | none => simp [hn] at hc
        | some n => simp [hn] at hc; subst hc; obtain ⟨c, k1, k2⟩ := s_idxP (w := w) (hF.ev hx.1) (hF.ev hx.2) h ht hn; exact ⟨c, fin k1, k2⟩
      · cases hc
    · cases hc
  case index t x i =>
    simp only [cQ] at hc; split at hc
    · rename_i hx
      simp only [Bool.and_eq_true] at hx
      split at hc
      · rename_i len e ht
        split at hc
        · rename_i n sz hn hsz
          cases hc
          obtain ⟨c, k1, k2⟩ := s_idx (w := w) (hF.ev hx.1) (hF.ev hx.2) h ht hn hsz
          exact ⟨c, fin k1, k2⟩
        · cases hc
      · rename_i ht
        cases hc
        have hx1 := hF.ev hx.1
        have hx2 := hF.ev hx.2
        simp only [qop, idxSV] at h
        split at h
        · rename_i s k n e1 e2
          rw [e1] at hx1; rw [e2] at hx2
          split at h
          · rename_i hn
            simp only [Option.map_eq_some_iff] at h
            obtain ⟨b, hb, rfl⟩ := h
            refine ⟨_, fin ?_, .int _ _⟩
            rw [rel_string hx1, rel_int hx2]
            simp only [Instr.index, asIntOf, Sem.run_bind, Sem.run_pure, Result.andThen_ok, run_und ht, if_pos hn, hb]
          · cases h
        · cases h
      · cases hc
    · cases hc
  case nilCheck x =>
    simp only [cQ] at hc; split at hc
    · rename_i hx
      cases hc
      have hx1 := hF.ev hx
      simp only [qop, ptrV] at h
      split at h
      · rename_i ad e
        rw [e] at hx1
        cases h
        obtain ⟨ver, L, k1, k2, k3⟩ := rel_ptr hx1
        refine ⟨a.eval x, ?_, hx1⟩
        simp only [execOp, k3]; rfl
      · cases h
    · cases hc
  case extract x i =>
    simp only [cQ] at hc; split at hc
    · rename_i hx
      cases hc
      have hx1 := hF.ev hx
      simp only [qop, extV] at h
      split at h
      · rename_i vs e
        rw [e] at hx1
        obtain ⟨ys, k0, k1, k2⟩ := rel_tuple hx1
        obtain ⟨y, hy⟩ := get_of_size (k1 ▸ size_of_get h)
        exact ⟨y, fin (by simp [k0, Instr.extract, hy]), k2 i v y h hy⟩
      · cases h
    · cases hc
  case call cl =>
    obtain ⟨callee, args, argTypes⟩ := cl
    cases callee with
    | value f => simp [cQ] at hc
    | invoke r n => simp [cQ] at hc
    | builtin b =>
      cases b <;> simp only [cQ] at hc <;> try (cases hc; done)
      case len =>
        split at hc
        · rename_i x t hx ht
          have hargs : args = #[x] := by apply Array.ext'; simpa using hx
          have htys : argTypes = #[t] := by apply Array.ext'; simpa using ht
          subst hargs; subst htys
          split at hc
          · rename_i hok
            have hx1 := hF.ev hok
            split at hc
            · rename_i hu
              cases hc
              simp only [qop, lenSV] at h
              split at h
              · rename_i s e; rw [e] at hx1; cases h
                exact ⟨_, by simp [execOp, resolve, invoke, builtin, rel_string hx1, Builtin.len_, run_und hu, goInt], .int _ _⟩
              · cases h
            · rename_i e hu
              cases hc
              simp only [qop, lenV] at h
              split at h
              · rename_i ad n c0 e; rw [e] at hx1; cases h
                have : ∃ ad' c', a.eval x = .slice ad' n c' := by
                  cases ad with
                  | none =>
                    generalize a.eval x = y at hx1
                    cases hx1; exact ⟨_, _, rfl⟩
                  | some ad => obtain ⟨a', cap, h1, _⟩ := rel_slice hx1; exact ⟨a', cap, h1⟩
                obtain ⟨ad', c', h1⟩ := this
                exact ⟨_, by simp [execOp, resolve, invoke, builtin, h1, Builtin.len_, run_und hu, goInt], .int _ _⟩
              · cases h
            · rename_i n e hu
              cases hc; cases h
              exact ⟨_, by simp [execOp, resolve, invoke, builtin, Builtin.len_, run_und hu, goInt], .int _ _⟩
            · cases hc
          · cases hc
        · cases hc
      case min =>
        split at hc
        · rename_i x ys hx
          split at hc
          · rename_i hok
            simp only [Bool.and_eq_true] at hok
            cases hc
            obtain ⟨c, k1, k2⟩ := s_min (P := P) (w := w) (hF.ev hok.1) (rels_map hF hok.2) h
            refine ⟨c, ?_, k2⟩
            simp only [execOp, resolve, invoke, builtin, Builtin.min_, Array.toList_map, hx, List.map_cons, Sem.run_bind, Sem.run_pure, Result.andThen_ok, k1]
          · cases hc
        · cases hc
      case max =>
        split at hc
        · rename_i x ys hx
          split at hc
          · rename_i hok
            simp only [Bool.and_eq_true] at hok
            cases hc
            obtain ⟨c, k1, k2⟩ := s_max (P := P) (w := w) (hF.ev hok.1) (rels_map hF hok.2) h
            refine ⟨c, ?_, k2⟩
            simp only [execOp, resolve, invoke, builtin, Builtin.max_, Array.toList_map, hx, List.map_cons, Sem.run_bind, Sem.run_pure, Result.andThen_ok, k1]
          · cases hc
        · cases hc
  all_goals (simp [cQ] at hc)
end
end Am
