/- The abstract machine: operations whose order is drawn: one order serves all.
   No condition: plain lemmas. -/
import Derived.Test.YtjddnmjmaalcgaaAmCode
namespace Am
set_option linter.unusedSimpArgs false
set_option linter.unusedVariables false
open Go

/-! ### What an operation looks at -/
def oT : Operand → List Nat
  | .tmp t => [t]
  | _ => []
def oTs (xs : List Operand) : List Nat := xs.flatMap oT
def oTo (x : Option Operand) : List Nat := match x with | some x => oT x | none => []
def rdQ : QOp → List Nat
  | .val x | .load x | .loadA _ x | .not x | .neg x | .conv _ x | .fieldA _ x | .part _ _ x | .ext x _ | .len x | .lenS x | .ptrCk x => oT x
  | .pick c a b => oT c ++ oT a ++ oT b
  | .build _ ps => oTs (ps.map (·.2.2))
  | .bin _ x y | .eqB _ x y | .idxA _ x y | .idxP _ _ x y | .idx _ _ _ x y | .idxS x y | .eqS _ x y | .eqA _ _ x y => oT x ++ oT y
  | .fn _ cs => oTs cs
  | .cut _ x lo hi => oT x ++ oTo lo ++ oTo hi
  | .mm _ x ys => oT x ++ oTs ys
def rdE : EOp → List Nat
  | .new _ _ => []
  | .box _ _ x | .clear _ x => oT x
  | .lit _ _ _ ps => oTs (ps.map (·.2.2))
  | .make _ _ x y | .store _ x y | .app _ x y | .copy _ x y => oT x ++ oT y
def rdA : AOp → List Nat
  | .q o => rdQ o
  | .e o => rdE o
  | .call _ xs => oTs xs
  | .callv g xs => oT g ++ oTs xs

section
variable {fr fr' : Fr} {H : Heap}
theorem ev_congr {x : Operand} (h : ∀ t ∈ oT x, fr t = fr' t) : ev fr x = ev fr' x := by
  cases x <;> first | rfl | exact h _ (by simp [oT])
theorem evs_congr : ∀ {xs : List Operand}, (∀ t ∈ oTs xs, fr t = fr' t) → xs.map (ev fr) = xs.map (ev fr')
  | [], _ => rfl
  | x :: xs, h => by
    simp only [List.map_cons]
    rw [ev_congr (x := x) fun t ht => h t (by simp [oTs, ht]), evs_congr (xs := xs) fun t ht => h t (by simp only [oTs, List.flatMap_cons, List.mem_append]; exact .inr ht)]
theorem evo_congr {x : Option Operand} (h : ∀ t ∈ oTo x, fr t = fr' t) : x.map (ev fr) = x.map (ev fr') := by
  cases x with
  | none => rfl
  | some x => simp only [Option.map_some]; rw [ev_congr (x := x) h]
theorem parts_congr : ∀ {ps : List (Nat × Nat × Operand)}, (∀ t ∈ oTs (ps.map (·.2.2)), fr t = fr' t) → (ps.map fun p => (p.1, p.2.1, ev fr p.2.2)) = ps.map fun p => (p.1, p.2.1, ev fr' p.2.2)
  | [], _ => rfl
  | p :: ps, h => by
    simp only [List.map_cons]
    rw [ev_congr (x := p.2.2) fun t ht => h t (by simp [oTs, ht]), parts_congr (ps := ps) fun t ht => h t (by simp only [oTs, List.map_cons, List.flatMap_cons, List.mem_append]; exact .inr ht)]
theorem qop_congr {q : QOp} (h : ∀ t ∈ rdQ q, fr t = fr' t) : qop q fr H = qop q fr' H := by
  cases q <;> simp only [rdQ, List.mem_append] at h <;> simp only [qop]
  case build z ps => rw [parts_congr h]
  case fn f cs => rw [evs_congr h]
  case pick c a b => rw [ev_congr fun t ht => h t (.inl (.inl ht)), ev_congr (x := a) fun t ht => h t (.inl (.inr ht)), ev_congr (x := b) fun t ht => h t (.inr ht)]
  case cut n x lo hi => rw [ev_congr fun t ht => h t (.inl (.inl ht)), evo_congr (x := lo) fun t ht => h t (.inl (.inr ht)), evo_congr (x := hi) fun t ht => h t (.inr ht)]
  case mm b x ys => rw [ev_congr fun t ht => h t (.inl ht), evs_congr (xs := ys) fun t ht => h t (.inr ht)]
  all_goals first | rw [ev_congr h] | (rename_i x y; rw [ev_congr (x := x) fun t ht => h t (.inl ht), ev_congr (x := y) fun t ht => h t (.inr ht)])
theorem eop_congr {q : EOp} (h : ∀ t ∈ rdE q, fr t = fr' t) : eop q fr H = eop q fr' H := by
  cases q <;> simp only [rdE, List.mem_append] at h <;> simp only [eop]
  case lit z e l ps => rw [parts_congr h]
  all_goals first | rw [ev_congr h] | (rename_i x y; rw [ev_congr (x := x) fun t ht => h t (.inl ht), ev_congr (x := y) fun t ht => h t (.inr ht)])

/-- An operation, with what is to hold behind it. -/
def opK (P : Program) (op : AOp) (fr : Fr) (H : Heap) (C : Value → Heap → Prop) : Prop :=
  match op with
  | .q o => ∃ v, qop o fr H = some v ∧ C v H
  | .e o => ∃ v H', eop o fr H = some (v, H') ∧ C v H'
  | .call f args => ACall P f (args.map (ev fr)) H C
  | .callv g args => ∃ f first caps, ev fr g = .func (.func f) first caps ∧ callable P f = true ∧ ACall P f (first.toList ++ args.map (ev fr) ++ caps.toList) H C
theorem opK_congr {P : Program} {op : AOp} (h : ∀ t ∈ rdA op, fr t = fr' t) {C : Value → Heap → Prop} (k : opK P op fr H C) : opK P op fr' H C := by
  cases op <;> simp only [rdA, List.mem_append] at h <;> simp only [opK] at k ⊢
  case q o => rwa [← qop_congr h]
  case e o => rwa [← eop_congr h]
  case call f xs => rwa [← evs_congr h]
  case callv g xs => rwa [← ev_congr fun t ht => h t (.inl ht), ← evs_congr (xs := xs) fun t ht => h t (.inr ht)]
theorem stays_refl (fr : Fr) (H : Heap) : ∀ l, stays fr H H l
  | [] => trivial
  | _ :: l => ⟨rfl, stays_refl fr H l⟩
theorem wOp_opK {P : Program} {K : Fr → Heap → Prop} {is : List AIns} {d : Option Nat} {fl : List QOp} {op : AOp} (h : wOp P K is d fl op fr H) : opK P op fr H fun v H' => stays fr H H' fl ∧ wOps P K is (updO fr d v) H' := by
  cases op <;> simp only [wOp] at h <;> simp only [opK]
  case q o =>
    split at h
    · rename_i v hv; exact ⟨v, hv, stays_refl _ _ _, h⟩
    · exact h.elim
  case e o =>
    split at h
    · rename_i v H' hv; exact ⟨v, H', hv, h⟩
    · exact h.elim
  case call f xs => exact h
  case callv g xs =>
    split at h
    · rename_i f first caps he; exact ⟨f, first, caps, he, h.1, h.2⟩
    · exact h.elim
end

section
variable {P : Program} {m : Mu} {H : Heap} {w : World} {fr : Fr} {a b : Act}

/-- One operation, the model's operands given by another state that looks alike to it. -/
theorem opK_sound {o : Oper} {op : AOp} (hc : cOp P o.op = some op) (hA : ARel m H w) (hF : FRel m fr b) (hex : execOp a.eval o = execOp b.eval o) {C : Value → Heap → Prop} (h : opK P op fr H C) (next : Act → World → Prop) (Q : Exit → Act → World → Prop)
    (hn : ∀ (v c : Value) (H' : Heap) (m' : Mu) (w' : World), C v H' → VRel m' v c → ARel m' H' w' → Kept m H w m' H' w' → next (a.put o.dst c) w') : o.wp P a w next Q := by
  unfold Oper.wp
  rw [hex]
  unfold cOp at hc
  split at hc
  · rename_i q hq
    cases hc
    obtain ⟨v, hv, hC⟩ := h
    obtain ⟨c, k1, k2⟩ := qop_sound hA hF hq hv
    rw [k1]
    exact hn v c H m w hC k2 hA (.refl _ _ _)
  · split at hc
    · rename_i e he
      cases hc
      obtain ⟨v, H', hv, hC⟩ := h
      obtain ⟨n, c, w', m', k1, k2, k3, k4, k5⟩ := eop_sound hA hF he hv
      rw [k1]
      rcases k2 with rfl | ⟨rfl, rfl⟩
      · exact hn v c H' m' w' hC k3 k4 k5
      · exact hn v undef H' m' w' hC k3 k4 k5
    · split at hc
      · rename_i f args tys ho
        split at hc
        · rename_i hok
          cases hc
          simp only [Bool.and_eq_true] at hok
          obtain ⟨dst, op', ty, pos, after, guard⟩ := o
          simp only at ho hn h
          subst ho
          rw [run_call hok.2]
          refine (h m w (args.map b.eval) hA (by simpa using rels_map hF hok.1)).mono ?_
          rintro e w' ⟨v, c, H', m', rfl, hK, k3, k4, k5⟩
          exact hn v c H' m' w' hK k3 k4 k5
        · cases hc
      · rename_i t args tys ho
        split at hc
        · rename_i hok
          cases hc
          obtain ⟨dst, op', ty, pos, after, guard⟩ := o
          simp only at ho hn h
          subst ho
          obtain ⟨f, first, caps, hev, hcal, hcall⟩ := h
          have hr := hF.ev (x := .tmp t) rfl
          rw [hev] at hr
          cases hg : b.eval (.tmp t) <;> rw [hg] at hr <;> cases hr
          rename_i f1 g1 s1 r1 s2 r2
          rw [run_callv hg hcal]
          refine (hcall m w (f1 ++ args.map b.eval ++ g1) hA ?_).mono ?_
          · simp only [Array.toList_append, Array.toList_map]
            exact ((VRels.of_get (by simpa using s1) fun i x y hx hy => r1 i x y (by simpa using hx) (by simpa using hy)).append (rels_map hF hok)).append
              (.of_get (by simpa using s2) fun i x y hx hy => r2 i x y (by simpa using hx) (by simpa using hy))
          · rintro e w' ⟨v, c, H', m', rfl, hK, k3, k4, k5⟩
            exact hn v c H' m' w' hK k3 k4 k5
        · cases hc
      · cases hc

/-- What makes a new row. -/
def isMk : EOp → Bool
  | .new _ _ | .box _ _ _ | .lit _ _ _ _ | .make _ _ _ _ => true
  | _ => false
def mkV : EOp → Fr → Option ((Nat → Value) × List Value × Nat)
  | .new z esz, _ => some (mkPtr, z, esz)
  | .box n esz x, fr => match cellsOf (ev fr x) with | some vs => if vs.length = n then some (mkPtr, vs, esz) else none | none => none
  | .lit z esz len ps, fr => (fillL z (ps.map fun p => (p.1, p.2.1, ev fr p.2.2))).map fun l => (mkSl len, l, esz)
  | .make z esz l c, fr =>
    match ev fr l, ev fr c with
    | .int _ l, .int _ c => if 0 ≤ l ∧ l ≤ c ∧ c ≤ lim then some (mkSl l.toNat, rep c.toNat z, esz) else none
    | _, _ => none
  | _, _ => none
theorem eop_mk {e : EOp} (he : isMk e = true) : eop e fr H = (mkV e fr).map fun p => (p.1 H.length, newRow H p.2.1 p.2.2) := by
  cases e <;> simp [isMk] at he <;> simp only [eop, mkV]
  case new z esz => rfl
  case box n esz x =>
    cases hc : cellsOf (ev fr x) with
    | none => rfl
    | some vs => by_cases h : vs.length = n <;> simp [h, mkPtr]
  case lit z esz len ps => rw [Option.map_map]; rfl
  case make z esz l c =>
    unfold makeV
    generalize ev fr l = x
    generalize ev fr c = y
    cases x <;> cases y <;> try rfl
    rename_i k1 n1 k2 n2
    by_cases h : 0 ≤ n1 ∧ n1 ≤ n2 ∧ n2 ≤ lim <;> simp [h, mkSl]
theorem mkV_congr {e : EOp} {fr' : Fr} (h : ∀ t ∈ rdE e, fr t = fr' t) : mkV e fr = mkV e fr' := by
  cases e <;> simp only [rdE, List.mem_append] at h <;> simp only [mkV]
  case lit z e l ps => rw [parts_congr h]
  all_goals first | rw [ev_congr h] | (rename_i x y; rw [ev_congr (x := x) fun t ht => h t (.inl ht), ev_congr (x := y) fun t ht => h t (.inr ht)])
theorem mk_sound (hF : FRel m fr b) {o : Oper} {op : AOp} {e : EOp} (hc : cOp P o.op = some op) (hop : op = .e e) {mk : Nat → Value} {vs : List Value} {esz : Nat} (h : mkV e fr = some (mk, vs, esz)) : MkRun P m w (execOp b.eval o) mk vs esz := by
  obtain ⟨dst, op', ty, pos, after, guard⟩ := o
  unfold cOp at hc
  subst hop
  split at hc
  · cases hc
  · rename_i hcq
    clear hcq
    split at hc
    · rename_i e' he
      cases hc
      simp only at he
      cases op'
      case alloc t =>
        simp only [cE] at he
        split at he
        · rename_i z n hz hn; cases he; simp only [mkV, Option.some.injEq, Prod.mk.injEq] at h; obtain ⟨rfl, rfl, rfl⟩ := h; exact c_new hz n
        · cases he
      case box t x =>
        simp only [cE] at he; split at he
        · rename_i hx
          split at he
          · rename_i n e hn he'
            cases he
            simp only [mkV] at h
            split at h
            · rename_i vs hvs
              split at h
              · simp only [Option.some.injEq, Prod.mk.injEq] at h; obtain ⟨rfl, rfl, rfl⟩ := h; exact c_box (hF.ev hx) hvs e
              · cases h
            · cases h
          · cases he
        · cases he
      case buildSlice t len parts =>
        simp only [cE] at he
        split at he
        · rename_i e ht
          split at he
          · rename_i n z hz
            split at he
            · rename_i hb
              cases hq : partsOf (fun i => some (i * n, n)) parts.toList with
              | none => simp [hq] at he
              | some qs =>
                simp [hq] at he; subst he
                simp only [mkV, Option.map_eq_some_iff, Prod.mk.injEq] at h
                obtain ⟨r, hr, rfl, rfl, rfl⟩ := h
                exact c_lit hF ht hz hb hq hr
            · cases he
          · cases he
        · cases he
      case makeSlice t l c =>
        simp only [cE] at he; split at he
        · rename_i hx
          simp only [Bool.and_eq_true] at hx
          split at he
          · rename_i e ht
            split at he
            · rename_i z hz
              split at he
              · rename_i hs; cases he
                simp only [mkV] at h
                have g1 := hF.ev hx.1
                have g2 := hF.ev hx.2
                split at h
                · rename_i kl l kc c e1 e2
                  rw [e1] at g1; rw [e2] at g2
                  split at h
                  · rename_i hb; simp only [Option.some.injEq, Prod.mk.injEq] at h; obtain ⟨rfl, rfl, rfl⟩ := h; exact c_make ht hz hs g1 g2 hb
                  · cases h
                · cases h
              · cases he
            · cases he
          · cases he
        · cases he
      case store t p x =>
        simp only [cE] at he; split at he
        · cases hn : szOf P t with
          | none => simp [hn] at he
          | some n => simp [hn] at he; subst he; simp [mkV] at h
        · cases he
      case call cl =>
        obtain ⟨callee, args, argTypes⟩ := cl
        cases callee with
        | value f => simp [cE] at he
        | invoke r n => simp [cE] at he
        | builtin bb =>
          cases bb <;> simp only [cE] at he <;> try (cases he; done)
          case append =>
            split at he
            · split at he
              · split at he
                · split at he
                  · split at he
                    · cases he; simp [mkV] at h
                    · cases he
                  · cases he
                · cases he
              · cases he
            · cases he
          case clear =>
            split at he
            · split at he
              · split at he
                · rename_i e hu
                  cases hz : zeroOf P e with
                  | none => simp [hz] at he
                  | some z => simp [hz] at he; subst he; simp [mkV] at h
                · cases he
              · cases he
            · cases he
          case copy =>
            split at he
            · split at he
              · split at he
                · rename_i e e' hu hu'
                  cases hz : szOf P e with
                  | none => simp [hz] at he
                  | some z => simp [hz] at he; subst he; simp [mkV] at h
                · cases he
              · cases he
            · cases he
      all_goals (simp [cE] at he)
    · split at hc
      · split at hc <;> cases hc
      · split at hc <;> cases hc
      · cases hc
end

/-- What a quiet operation yields it yields on a longer heap. -/
theorem row?_grow {H : Heap} {id ver : Nat} {r : Row} (h : H.row? id ver = some r) (ext : Heap) : Heap.row? (H ++ ext) id ver = some r := by
  obtain ⟨h1, h2⟩ := Heap.row?_some h
  unfold Heap.row?
  rw [List.getElem?_append_left (List.getElem?_eq_some_iff.1 h1).1, h1]
  simp [h2]
theorem cell?_grow {H : Heap} {id off ver : Nat} {v : Value} (h : H.cell? id off ver = some v) (ext : Heap) : Heap.cell? (H ++ ext) id off ver = some v := by
  unfold Heap.cell? at h ⊢
  split at h
  · rename_i r hr; rw [row?_grow hr ext]; exact h
  · cases h
theorem cells?_grow {H : Heap} {id off ver n : Nat} {v : List Value} (h : H.cells? id off ver n = some v) (ext : Heap) : Heap.cells? (H ++ ext) id off ver n = some v := by
  unfold Heap.cells? at h ⊢
  split at h
  · rename_i r hr; rw [row?_grow hr ext]; exact h
  · cases h
theorem ldV_grow {H : Heap} {x v : Value} (h : ldV H x = some v) (ext : Heap) : ldV (H ++ ext) x = some v := by
  unfold ldV at h ⊢
  split at h
  · exact cell?_grow h ext
  · cases h
theorem ldA_grow {H : Heap} {n : Nat} {x v : Value} (h : ldA H n x = some v) (ext : Heap) : ldA (H ++ ext) n x = some v := by
  unfold ldA at h ⊢
  split at h
  · rw [Option.map_eq_some_iff] at h ⊢
    obtain ⟨l, h1, h2⟩ := h
    exact ⟨l, cells?_grow h1 ext, h2⟩
  · cases h
theorem cutV_grow {H : Heap} {n : Nat} {x v : Value} {lo hi : Option Value} (h : cutV H n x lo hi = some v) (ext : Heap) : cutV (H ++ ext) n x lo hi = some v := by
  unfold cutV at h ⊢
  split at h
  · exact h
  · rename_i id off len ver
    split at h
    · rename_i r l hh hr h1 h2
      simp only [row?_grow hr ext, h1, h2]
      exact h
    · cases h
  · cases h
theorem qop_grow {q : QOp} {fr : Fr} {H : Heap} {v : Value} (h : qop q fr H = some v) (ext : Heap) : qop q fr (H ++ ext) = some v := by
  cases q <;> simp only [qop] at h ⊢ <;> first | exact h | exact ldV_grow h ext | exact ldA_grow h ext | exact cutV_grow h ext
/-- Does it look into the heap? -/
def looks : QOp → Bool
  | .load _ | .loadA _ _ | .cut _ _ _ _ => true
  | _ => false
theorem qop_still {q : QOp} (h : looks q = false) (fr : Fr) (H H' : Heap) : qop q fr H = qop q fr H' := by
  cases q <;> first | rfl | simp [looks] at h
end Am
