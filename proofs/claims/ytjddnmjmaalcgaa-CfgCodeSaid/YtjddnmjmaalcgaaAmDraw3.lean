/- The abstract machine: operations whose order is drawn: every order comes to what the one order comes to.
   No condition: plain lemmas. -/
import Derived.Test.YtjddnmjmaalcgaaAmDraw2
namespace Am
set_option linter.unusedSimpArgs false
set_option linter.unusedVariables false
open Go
open Classical

section
variable {P : Program} {N : Nat} {ops : Array Oper} {ord : List Nat} {A : Nat → AIns} {rd : Nat → List Nat} {B : Nat → Nat → Bool} {kd : Nat → Nat} {K : Fr → Heap → Prop} {m0 : Mu} {H0 : Heap} {w0 : World}

theorem cOp_nosel {o : Op} {x : AOp} (h : cOp P o = some x) : ∀ cs b, o ≠ .select cs b := by
  intro cs b e; subst e; simp [cOp, cQ, cE] at h

theorem getD_set {l : Array Bool} {i j : Nat} (hi : i < l.size) : (l.setIfInBounds i true).getD j false = if j = i then true else l.getD j false := by
  simp only [Array.getD_eq_getD_getElem?, Array.getElem?_setIfInBounds]
  by_cases h : i = j
  · subst h; simp [hi]
  · rw [if_neg h, if_neg (fun e => h e.symm)]

theorem put_other {a : Act} {d : Option Nat} {t : Nat} {v : Value} (h : d ≠ some t) : (a.put d v).tmps.getD t undef = a.tmps.getD t undef := by
  cases d with
  | none => rfl
  | some d =>
    simp only [Act.put, Array.getD_eq_getD_getElem?, Array.getElem?_setIfInBounds]
    rw [if_neg (fun e => h (by rw [e]))]
theorem put_self {a : Act} {t : Nat} {v : Value} (h : t < a.tmps.size) : (a.put (some t) v).tmps.getD t undef = v := by
  simp [Act.put, h]

/-- What an early new row would be is known ahead. -/
theorem ahead (D : DOk P N ops ord A rd B kd) {i : Nat} {e : EOp} (hi : i < ops.size) (he : (A i).op = .e e) (hmk : isMk e = true) (hg : (A i).guard = none) : ∀ (l : List Nat) (fr : Fr) (H : Heap) (r : List Nat),
    wOps P K ((l ++ i :: r).map A) fr H → (∀ j ∈ l, j < ops.size ∧ kd j ≠ 2 ∧ ∀ d, (A j).dst = some d → d ∉ rd i) → ∃ p, mkV e fr = some p
  | [], fr, H, r, h, _ => by
    simp only [List.nil_append, List.map_cons] at h
    have hA : A i = ⟨(A i).dst, none, .e e, (A i).fl⟩ := by rw [← he, ← hg]
    rw [hA] at h
    simp only [wOps, wantA, if_true, wOp, eop_mk hmk] at h
    cases hm : mkV e fr with
    | none => rw [hm] at h; exact h.elim
    | some p => exact ⟨p, rfl⟩
  | j :: l, fr, H, r, h, hl => by
    obtain ⟨h1, h2, h3⟩ := hl j (by simp)
    simp only [List.cons_append, List.map_cons] at h
    have hA : A j = ⟨(A j).dst, (A j).guard, (A j).op, (A j).fl⟩ := rfl
    have go : ∀ v H', wOps P K ((l ++ i :: r).map A) (updO fr (A j).dst v) H' → ∃ p, mkV e fr = some p := by
      intro v H' hh
      obtain ⟨p, hp⟩ := ahead D hi he hmk hg l _ _ r hh (fun k hk => hl k (List.mem_cons_of_mem _ hk))
      refine ⟨p, ?_⟩
      rw [← hp]
      refine mkV_congr fun t ht => ?_
      cases hd : (A j).dst with
      | none => rfl
      | some d =>
        have hne : t ≠ d := fun et => h3 d hd (by rw [← et]; exact D.rda i hi t (by rw [he]; exact ht))
        exact (upd_ne hne).symm
    rw [hA] at h
    simp only [wOps] at h
    split at h
    · have : (∃ q, (A j).op = .q q) ∨ ∃ e', (A j).op = .e e' := by
        by_cases hk : kd j = 0
        · exact .inl (D.light j h1 hk)
        · by_cases hk1 : kd j = 1
          · obtain ⟨⟨e', he', _⟩, _⟩ := D.mkk j h1 hk1
            exact .inr ⟨e', he'⟩
          · have := D.kd3 j; omega
      rcases this with ⟨q, hq⟩ | ⟨e', he'⟩
      · rw [hq] at h
        simp only [wOp] at h
        split at h
        · exact go _ _ h
        · exact h.elim
      · rw [he'] at h
        simp only [wOp] at h
        split at h
        · exact go _ _ h.2
        · exact h.elim
    · exact go _ _ h

abbrev Ready (listed : Array Bool) (ops : Array Oper) (i : Nat) : Prop := i ∈ Region.ready .any ops listed
theorem ready_spec {listed : Array Bool} {i : Nat} (h : i ∈ Region.ready .any ops listed) (hs : listed.size = ops.size) :
    i < ops.size ∧ listed.getD i false = false ∧ ∃ o, ops[i]? = some o ∧ ∀ e ∈ o.after, Region.binds .any e = true → listed.getD e.on false = true := by
  unfold Region.ready at h
  rw [List.mem_filter, List.mem_range] at h
  obtain ⟨h1, h2⟩ := h
  simp only [Bool.and_eq_true, Bool.not_eq_true'] at h2
  refine ⟨h1, ?_, ?_⟩
  · have := h2.1
    simp only [Array.getD_eq_getD_getElem?] at this ⊢
    obtain ⟨b, hb⟩ : ∃ b, listed[i]? = some b := ⟨_, Array.getElem?_eq_getElem (by omega)⟩
    rw [hb] at this ⊢; simpa using this
  · cases ho : ops[i]? with
    | none => rw [ho] at h2; simp at h2
    | some o =>
      rw [ho] at h2
      refine ⟨o, rfl, fun e he hb => ?_⟩
      have := h2.2
      simp only [Option.map_some, Option.getD_some, Array.all_eq_true_iff_forall_mem] at this
      have := this e he
      simpa [hb] using this

/-- The state behind a step. -/
def DState (P : Program) (N : Nat) (ops : Array Oper) (ord : List Nat) (A : Nat → AIns) (B : Nat → Nat → Bool) (kd : Nat → Nat) (K : Fr → Heap → Prop) (m0 : Mu) (H0 : Heap) (w0 : World) (listed : Array Bool) (a : Act) (w : World) : Prop :=
  ∃ blk pre rest m fr H, DInv P N ops ord A B kd K m0 H0 w0 listed a w blk pre rest m fr H ∧ Settled kd listed rest

theorem clos_set (D : DOk P N ops ord A rd B kd) {listed : Array Bool} (hs : listed.size = ops.size) (hc : ∀ j, listed.getD j false = true → ∀ k, B j k = true → listed.getD k false = true) {i : Nat} (hi : i ∈ Region.ready .any ops listed) :
    (∀ j, B i j = true → listed.getD j false = true) ∧ ∀ j, (listed.setIfInBounds i true).getD j false = true → ∀ k, B j k = true → (listed.setIfInBounds i true).getD k false = true := by
  obtain ⟨h1, h2, o, ho, hr⟩ := ready_spec hi hs
  have hb : ∀ j, B i j = true → listed.getD j false = true := by
    intro j hj
    obtain ⟨e, he, hbi, hor⟩ := D.bfc i o ho j hj
    rcases hor with rfl | hor
    · exact hr e he hbi
    · exact hc _ (hr e he hbi) j hor
  refine ⟨hb, fun j hj k hk => ?_⟩
  rw [getD_set (by omega)] at hj ⊢
  split
  · rfl
  · split at hj
    · rename_i e; subst e; exact hb k hk
    · exact hc j hj k hk

theorem step_draw (D : DOk P N ops ord A rd B kd) {listed : Array Bool} {a : Act} {w : World} (h : DState P N ops ord A B kd K m0 H0 w0 listed a w) (Q : Exit → Act → World → Prop) {i : Nat} (hi : i ∈ Region.ready .any ops listed) :
    wpOp P ops Q i (DState P N ops ord A B kd K m0 H0 w0 (listed.setIfInBounds i true)) a w := by
  obtain ⟨blk, pre, rest, m, fr, H, I, hset⟩ := h
  obtain ⟨his, hLi, o, ho, hrd⟩ := ready_spec hi I.sz
  obtain ⟨hbi, hclos⟩ := clos_set D I.sz I.clos hi
  obtain ⟨hcop, hgs, hdst, hdok⟩ := D.comp i o ho
  have hio : i ∈ ord := (D.mem i).2 his
  have hnd := D.nodup
  rw [I.spl] at hnd
  have hdis : ∀ j, j ∈ pre → j ∉ rest := fun j h h' => (List.nodup_append.1 hnd).2.2 j h j h' rfl
  have hpo : ∀ j, j ∈ pre → j < ops.size := fun j h => (D.mem j).1 (by rw [I.spl]; exact List.mem_append_left _ h)
  have hro : ∀ j, j ∈ rest → j < ops.size := fun j h => (D.mem j).1 (by rw [I.spl]; exact List.mem_append_right _ h)
  have hLs : ∀ j, (listed.setIfInBounds i true).getD j false = if j = i then true else listed.getD j false := fun j => getD_set (by rw [I.sz]; exact his)
  have hLs' : ∀ j, (listed.setIfInBounds i true).getD j false = false → j ≠ i ∧ listed.getD j false = false := by
    intro j hj; rw [hLs] at hj; split at hj
    · cases hj
    · rename_i e; exact ⟨e, hj⟩
  -- the slots of which nothing is known
  let X : Nat → Prop := fun t => ∃ j, j < ops.size ∧ (A j).dst = some t ∧ ((j ∈ pre ∧ kd j = 0 ∧ listed.getD j false = false) ∨ (j ∈ rest ∧ listed.getD j false = true))
  have hX : ∀ t, ¬ X t → VRel m (fr t) (a.tmps.getD t undef) := fun t ht => I.frame t fun j hj hdj =>
    ⟨fun h => ht ⟨j, hj, hdj, .inl h⟩, fun h => ht ⟨j, hj, hdj, .inr h⟩⟩
  have hnotB : ∀ j, j ∈ rest → i ∈ pre → B i j = false := by
    intro j hj hip
    cases hb : B i j with
    | false => rfl
    | true =>
      obtain ⟨p1, p2, e⟩ := List.append_of_mem hip
      have := D.topo p1 i (p2 ++ rest) (by rw [I.spl, e]; simp) j hb
      exact absurd hj (hdis j (by rw [e]; exact List.mem_append_left _ this))
  have hrdX : (i ∈ pre ∨ kd i = 1 ∨ ∃ r, rest = i :: r) → ∀ t ∈ rd i, ¬ X t := by
    intro hcase t ht ⟨j, hj, hdj, hor⟩
    have hBij : kd j ≠ 2 → B i j = true := by
      intro hk
      obtain ⟨d, h1, _, h3⟩ := D.fresh j hk hj
      rw [hdj] at h1; cases h1
      exact h3 i his ht
    rcases hor with ⟨h1, h2, h3⟩ | ⟨h1, h2⟩
    · have := hbi j (hBij (by omega)); rw [h3] at this; cases this
    · have hk := (I.restl j h1 h2).1
      have hB := hBij (by omega)
      rcases hcase with hc | hc | ⟨r, hc⟩
      · rw [hnotB j h1 hc] at hB; cases hB
      · have := (D.mkk i his hc).2.2 j hB; omega
      · have := D.topo pre i r (by rw [I.spl, hc]) j hB
        exact hdis j this h1
  have hex : (i ∈ pre ∨ kd i = 1 ∨ ∃ r, rest = i :: r) → execOp a.eval o = execOp (maskA X a).eval o := by
    intro hc
    exact execOp_congr o (cOp_nosel hcop) fun x hx => (mask_eval fun t et => hrdX hc t (D.rdo i o ho t (et ▸ hx))).symm
  have hwant : (i ∈ pre ∨ kd i = 1 ∨ ∃ r, rest = i :: r) → Region.wanted o (yielded ops a.tmps) = wantA fr (A i).guard := by
    intro hc
    exact want_eq' hgs fun d w' hg => hX d (hrdX hc d (D.rdg i his d w' hg))
  unfold wpOp
  simp only [ho]
  have hsplit : i ∈ pre ∨ i ∈ rest := by rw [I.spl] at hio; exact List.mem_append.1 hio
  rcases hsplit with hip | hir
  · -- quiet, late
    have hk0 : kd i = 0 := by
      apply Classical.byContradiction
      intro hk; have := I.prel i hip hk; rw [hLi] at this; cases this
    obtain ⟨d, hd, hl1, hl2⟩ := I.lval i hip hk0 hLi
    obtain ⟨q, hq⟩ := D.light i his hk0
    obtain ⟨d', hd', hdisj, _⟩ := D.fresh i (by omega) his
    rw [hd] at hd'; cases hd'
    have hod : o.dst = some d := by rw [← hdst, hd]
    rw [hwant (.inl hip)]
    have fin : ∀ (c : Value) (m' : Mu) (w' : World), VRel m' (fr d) c → ARel m' H w' → Kept m H w m' H w' → DState P N ops ord A B kd K m0 H0 w0 (listed.setIfInBounds i true) (a.put (some d) c) w' := by
      intro c m' w' hv hA' hK'
      have hdlt : d < a.tmps.size := by rw [I.tsz]; rw [hod] at hdok; simpa [dstOk] using hdok
      refine ⟨blk, pre, rest, m', fr, H, ⟨I.spl, by simp [I.sz], I.run, fun j hj hk => ?_, fun j hj hL => ?_, hA', I.kept.trans hK', by rw [put_size, I.tsz], by rw [put_defers, I.dfr], fun t ht => ?_, fun j hj hk hL => ?_, hclos, fun x hx y hy h1 h2 hxy => ?_⟩, ?_⟩
      · rw [hLs]; split
        · rfl
        · exact I.prel j hj hk
      · have hji : j ≠ i := fun e => hdis i hip (e ▸ hj)
        rw [hLs, if_neg hji] at hL
        obtain ⟨k1, k2⟩ := I.restl j hj hL
        exact ⟨k1, k2.move hK' (fun _ _ => rfl) (fun dj hdj => put_other fun e => hdisj j (hro j hj) hji (by rw [hdj, e]))⟩
      · by_cases htd : t = d
        · subst htd; rw [put_self hdlt]; exact hv
        · rw [put_other fun e => htd (Option.some.inj e).symm]
          refine (I.frame t fun j hj hdj => ⟨fun ⟨z1, z2, z3⟩ => ?_, fun ⟨z1, z2⟩ => ?_⟩).mono hK'.ext
          · have hji : j ≠ i := fun e => by subst e; rw [hd] at hdj; cases hdj; exact htd rfl
            exact (ht j hj hdj).1 ⟨z1, z2, by rw [hLs, if_neg hji]; exact z3⟩
          · have hji : j ≠ i := fun e => hdis i hip (e ▸ z1)
            exact (ht j hj hdj).2 ⟨z1, by rw [hLs, if_neg hji]; exact z2⟩
      · exact I.lval j hj hk (hLs' j hL).2
      · rw [hLs] at h1 h2
        rw [if_neg (fun e : x = i => hdis i hip (e ▸ hx))] at h1
        rw [if_neg (fun e : y = i => hdis i hip (e ▸ hy))] at h2
        exact I.binj x hx y hy h1 h2 hxy
      · rcases hset with h | ⟨x, r, h1, h2, h3⟩
        · exact .inl h
        · exact .inr ⟨x, r, h1, h2, by rw [hLs, if_neg (fun e => hdis i hip (by rw [h1, ← e]; simp))]; exact h3⟩
    split
    · rename_i hw
      refine .inl (opK_sound (b := maskA X a) (fr := maskF X fr) (C := fun v H' => v = fr d ∧ H' = H) hcop I.rel (mask_rel hX) (hex (.inl hip)) ?_ _ Q ?_)
      · rw [hq]
        refine ⟨fr d, ?_, rfl, rfl⟩
        rw [← hl1 hw q hq]
        exact qop_congr fun t ht => maskF_at (hrdX (.inl hip) t (D.rda i his t (by rw [hq]; exact ht)))
      · rintro v c H' m' w' ⟨rfl, rfl⟩ hv hA' hK'
        rw [hod]; exact fin c m' w' hv hA' hK'
    · rename_i hw
      rw [hod]
      exact fin undef m w (by rw [hl2 (by simpa using hw)]; exact .undef m) I.rel (.refl m H w)
  · -- from the rest
    obtain ⟨x, r, hxr, hkx, hLx⟩ : ∃ x r, rest = x :: r ∧ kd x ≠ 0 ∧ listed.getD x false = false := by
      rcases hset with h | h
      · rw [h] at hir; cases hir
      · exact h
    by_cases hk1 : kd i = 1
    · -- a new row
      obtain ⟨⟨e, he, hmk⟩, hg, hbf⟩ := D.mkk i his hk1
      obtain ⟨d, hd, hdisj, hdrd⟩ := D.fresh i (by omega) his
      have hod : o.dst = some d := by rw [← hdst, hd]
      have hdlt : d < a.tmps.size := by rw [I.tsz]; rw [hod] at hdok; simpa [dstOk] using hdok
      have hmkv : ∃ p, mkV e fr = some p := by
        obtain ⟨l, r', hlr⟩ := List.append_of_mem hir
        rcases D.early (pre ++ l) i r' (by rw [I.spl, hlr]; simp) hk1 with ⟨z, esz, hz⟩ | hno
        · rw [he] at hz; cases hz; exact ⟨_, rfl⟩
        · refine ahead (K := K) D his he hmk hg l fr H r' (by rw [← hlr]; exact I.run) fun j hj => ⟨hro j (by rw [hlr]; simp [hj]), hno j (by simp [hj]), fun dj hdj hin => ?_⟩
          have hjs := hro j (by rw [hlr]; simp [hj])
          obtain ⟨dj', h1, _, h3⟩ := D.fresh j (hno j (by simp [hj])) hjs
          rw [hdj] at h1; cases h1
          have hB := h3 i his hin
          have hk := hbf j hB
          have := (I.restl j (by rw [hlr]; simp [hj]) (hbi j hB)).1
          omega
      obtain ⟨⟨mk, vs, esz⟩, hp⟩ := hmkv
      rw [hwant (.inr (.inl hk1)), hg]
      simp only [wantA, if_true]
      refine .inl ?_
      have hp' : mkV e (maskF X fr) = some (mk, vs, esz) := by
        rw [← hp]; exact mkV_congr fun t ht => maskF_at (hrdX (.inr (.inl hk1)) t (D.rda i his t (by rw [he]; exact ht)))
      obtain ⟨arr, T, c, q1, q2, q3, q4, q5⟩ := mk_sound (P := P) (w := w) (mask_rel hX) hcop he hp'
      unfold Oper.wp
      rw [hex (.inr (.inl hk1)), q1]
      show DState P N ops ord A B kd K m0 H0 w0 (listed.setIfInBounds i true) (a.put o.dst c) (w.alloc (.cells arr T))
      rw [hod]
      show DState P N ops ord A B kd K m0 H0 w0 (listed.setIfInBounds i true) (a.put (some d) c) (w.alloc (.cells arr T))
      have hI : DInv P N ops ord A B kd K m0 H0 w0 (listed.setIfInBounds i true) (a.put (some d) c) (w.alloc (.cells arr T)) (fun j => if j = i then w.heap.size else blk j) pre rest m fr H := by
        have hK' : Kept m H w m H (w.alloc (.cells arr T)) := (Kept.refl m H w).alloc _
        have hpend : ∀ j ∈ rest, j ≠ i → listed.getD j false = true → Pend A w0 m fr a w (blk j) j := fun j hj _ hL => (I.restl j hj hL).2
        have hlt : ∀ j ∈ rest, listed.getD j false = true → blk j < w.heap.size := by
          intro j hj hL
          obtain ⟨_, _, _, _, _, _, _, _, _, _, h4, _⟩ := (I.restl j hj hL).2
          exact (Array.getElem?_eq_some_iff.1 h4).1
        refine ⟨I.spl, by simp [I.sz], I.run, fun j hj hk => ?_, fun j hj hL => ?_, I.rel.alloc _, I.kept.alloc _, by rw [put_size, I.tsz], by rw [put_defers, I.dfr], fun t ht => ?_, fun j hj hk hL => ?_, hclos, fun y hy z hz h1 h2 hyz => ?_⟩
        · rw [hLs]; split
          · rfl
          · exact I.prel j hj hk
        · by_cases hji : j = i
          · subst hji
            refine ⟨hk1, d, mk, vs, esz, e, arr, T, hd, he, hp, ?_, ?_, fun id ver L hL' hb => ?_, q2, q3, q4, fun m' id hm => ?_⟩
            · simp only [if_true]; exact heap_alloc_new w _
            · simp only [if_true]; exact I.kept.size
            · simp only [if_true] at hb; have := I.rel.lt _ _ _ hL'; omega
            · rw [put_self hdlt]; simp only [if_true] at hm; exact q5 m' id hm
          · rw [hLs, if_neg hji] at hL
            simp only [if_neg hji]
            obtain ⟨k1, k2⟩ := I.restl j hj hL
            exact ⟨k1, k2.move hK' (fun _ _ => rfl) (fun dj hdj => put_other fun e => hdisj j (hro j hj) hji (by rw [hdj, e]))⟩
        · have htd : t ≠ d := fun e => by
            have := (ht i his (by rw [hd, e])).2
            exact this ⟨hir, by rw [hLs, if_pos rfl]⟩
          rw [put_other fun e => htd (Option.some.inj e).symm]
          refine I.frame t fun j hj hdj => ⟨fun ⟨z1, z2, z3⟩ => ?_, fun ⟨z1, z2⟩ => ?_⟩
          · have hji : j ≠ i := fun e => by subst e; rw [hd] at hdj; cases hdj; exact htd rfl
            exact (ht j hj hdj).1 ⟨z1, z2, by rw [hLs, if_neg hji]; exact z3⟩
          · have hji : j ≠ i := fun e => by subst e; rw [hd] at hdj; cases hdj; exact htd rfl
            exact (ht j hj hdj).2 ⟨z1, by rw [hLs, if_neg hji]; exact z2⟩
        · exact I.lval j hj hk (hLs' j hL).2
        · rw [hLs] at h1 h2
          by_cases e1 : y = i
          · by_cases e2 : z = i
            · exact absurd (e1.trans e2.symm) hyz
            · rw [if_neg e2] at h2
              simp only [if_pos e1, if_neg e2]
              have := hlt z hz h2; omega
          · rw [if_neg e1] at h1
            by_cases e2 : z = i
            · simp only [if_neg e1, if_pos e2]
              have := hlt y hy h1; omega
            · rw [if_neg e2] at h2
              simp only [if_neg e1, if_neg e2]
              exact I.binj y hy z hz h1 h2 hyz
      obtain ⟨pre', rest', m', fr', H', h1, h2⟩ := advance D rest pre m fr H hI
      exact ⟨_, pre', rest', m', fr', H', h1, h2⟩
    · -- any other: it stands next
      have hix : i = x := by
        apply Classical.byContradiction
        intro hne
        have hir' : i ∈ r := by rw [hxr] at hir; rcases List.mem_cons.1 hir with e | e; exact absurd e hne; exact e
        obtain ⟨p1, p2, e⟩ := List.append_of_mem hir'
        have := D.ordd (pre ++ x :: p1) i p2 (by rw [I.spl, hxr, e]; simp) hk1 x (by simp) hkx
        have := hbi x this
        rw [hLx] at this; cases this
      subst hix
      have hk2 : kd i = 2 := by have := D.kd3 i; omega
      have hcase : i ∈ pre ∨ kd i = 1 ∨ ∃ r, rest = i :: r := .inr (.inr ⟨r, hxr⟩)
      have hipre : i ∉ pre := fun h => hdis i h hir
      have hirr : i ∉ r := by
        have := (List.nodup_append.1 hnd).2.1
        rw [hxr] at this
        exact (List.nodup_cons.1 this).1
      have hrun := I.run
      have hAx : A i = ⟨(A i).dst, (A i).guard, (A i).op, (A i).fl⟩ := rfl
      rw [hxr, List.map_cons, hAx] at hrun
      simp only [wOps] at hrun
      rw [hwant hcase]
      have fin : ∀ (v c : Value) (H' : Heap) (m' : Mu) (w' : World), stays fr H H' (A i).fl → wOps P K (r.map A) (updO fr (A i).dst v) H' → VRel m' v c → ARel m' H' w' → Kept m H w m' H' w' →
          DState P N ops ord A B kd K m0 H0 w0 (listed.setIfInBounds i true) (a.put o.dst c) w' := by
        intro v c H' m' w' hst hrun' hv hA' hK'
        rw [← hdst]
        have hnB : ∀ j ∈ r, B i j = false := by
          intro j hj
          cases hb : B i j with
          | false => rfl
          | true => exact absurd (by rw [hxr]; exact List.mem_cons_of_mem _ hj) (hdis j (D.topo pre i r (by rw [I.spl, hxr]) j hb))
        have hnr : ∀ j, j < ops.size → kd j ≠ 2 → B i j = false → j ≠ i → B j i = false → ∀ d, (A i).dst = some d → d ∉ rd j := fun j hj hk hb hne hb' d hd => D.hw i his hk2 d hd j hj hb hne hb' hk
        have hdj : ∀ j, j < ops.size → kd j ≠ 2 → j ≠ i → (A j).dst ≠ none ∧ ∀ d, (A j).dst = some d → (A i).dst ≠ some d := by
          intro j hj hk hne
          obtain ⟨d, h1, h2, _⟩ := D.fresh j hk hj
          exact ⟨by rw [h1]; simp, fun d' hd' => by rw [h1] at hd'; cases hd'; exact h2 i his (fun e => hne e.symm)⟩
        have hupd : ∀ t, (∀ d, (A i).dst = some d → t ≠ d) → updO fr (A i).dst v t = fr t := by
          intro t h
          cases hd : (A i).dst with
          | none => rfl
          | some d => exact upd_ne (h d hd)
        have hI : DInv P N ops ord A B kd K m0 H0 w0 (listed.setIfInBounds i true) (a.put (A i).dst c) w' blk (pre ++ [i]) r m' (updO fr (A i).dst v) H' := by
          refine ⟨by rw [I.spl, hxr]; simp, by simp [I.sz], hrun', fun j hj hk => ?_, fun j hj hL => ?_, hA', I.kept.trans hK', by rw [put_size, I.tsz], by rw [put_defers, I.dfr], fun t ht => ?_, fun j hj hk hL => ?_, hclos, fun y hy z hz h1 h2 hyz => ?_⟩
          · rw [hLs]; split
            · rfl
            · rename_i hne
              rcases List.mem_append.1 hj with h | h
              · exact I.prel j h hk
              · simp at h; exact absurd h hne
          · have hji : j ≠ i := fun e => hirr (e ▸ hj)
            rw [hLs, if_neg hji] at hL
            have hjrest : j ∈ rest := by rw [hxr]; exact List.mem_cons_of_mem _ hj
            obtain ⟨k1, k2⟩ := I.restl j hjrest hL
            have hBji : B j i = false := by
              cases hb : B j i with
              | false => rfl
              | true => have := (D.mkk j (hro j hjrest) k1).2.2 i hb; omega
            refine ⟨k1, k2.move hK' (fun e he => mkV_congr fun t ht => hupd t fun d hd et => ?_) (fun dj hdj' => put_other ((hdj j (hro j hjrest) (by omega) hji).2 dj hdj'))⟩
            exact hnr j (hro j hjrest) (by omega) (hnB j hj) hji hBji d hd (et ▸ D.rda j (hro j hjrest) t (by rw [he]; exact ht))
          · by_cases htd : (A i).dst = some t
            · rw [htd]
              have htlt : t < a.tmps.size := by rw [I.tsz]; rw [← hdst, htd] at hdok; simpa [dstOk] using hdok
              rw [put_self htlt]
              show VRel m' (upd fr t v t) c
              rw [upd_eq]; exact hv
            · rw [put_other htd, hupd t fun d hd e => htd (by rw [hd, e])]
              refine (I.frame t fun j hj hdj' => ⟨fun ⟨z1, z2, z3⟩ => ?_, fun ⟨z1, z2⟩ => ?_⟩).mono hK'.ext
              · have hji : j ≠ i := fun e => hipre (e ▸ z1)
                exact (ht j hj hdj').1 ⟨List.mem_append_left _ z1, z2, by rw [hLs, if_neg hji]; exact z3⟩
              · rw [hxr] at z1
                rcases List.mem_cons.1 z1 with e | e
                · subst e; rw [hLi] at z2; cases z2
                · have hji : j ≠ i := fun e' => hirr (e' ▸ e)
                  exact (ht j hj hdj').2 ⟨e, by rw [hLs, if_neg hji]; exact z2⟩
          · obtain ⟨hji, hLj⟩ := hLs' j hL
            rcases List.mem_append.1 hj with h | h
            · obtain ⟨d', z1, z2, z3⟩ := I.lval j h hk hLj
              have hjs := hpo j h
              have hBij : B i j = false := by
                cases hb : B i j with
                | false => rfl
                | true => have := hbi j hb; rw [hLj] at this; cases this
              have hBji : B j i = false := by
                cases hb : B j i with
                | false => rfl
                | true =>
                  obtain ⟨p1, p2, e⟩ := List.append_of_mem h
                  have := D.topo p1 j (p2 ++ rest) (by rw [I.spl, e]; simp) i hb
                  exact absurd (by rw [e]; exact List.mem_append_left _ this) hipre
              have hnrj := hnr j hjs (by omega) hBij hji hBji
              have hg : wantA (updO fr (A i).dst v) (A j).guard = wantA fr (A j).guard := wantA_congr fun d'' w'' hg => hupd d'' fun d hd e => hnrj d hd (e ▸ D.rdg j hjs d'' w'' hg)
              have hd'u : updO fr (A i).dst v d' = fr d' := hupd d' fun d hd e => (hdj j hjs (by omega) hji).2 d' z1 (by rw [hd, e])
              rw [hg]
              refine ⟨d', z1, fun hw q' hq' => ?_, fun hw => by rw [hd'u]; exact z3 hw⟩
              rw [hd'u, ← z2 hw q' hq']
              have e1 : qop q' (updO fr (A i).dst v) H' = qop q' fr H' := qop_congr fun t ht => hupd t fun d hd e => hnrj d hd (e ▸ D.rda j hjs t (by rw [hq']; exact ht))
              rw [e1]
              by_cases hlk : looks q' = true
              · exact stays_mem hst q' (D.fl pre i r (by rw [I.spl, hxr]) hk2 j h hk hBij q' hq' hlk)
              · exact qop_still (by simpa using hlk) fr H' H
            · simp at h; exact absurd h hji
          · rw [hLs] at h1 h2
            rw [if_neg (fun e : y = i => hirr (e ▸ hy))] at h1
            rw [if_neg (fun e : z = i => hirr (e ▸ hz))] at h2
            exact I.binj y (by rw [hxr]; exact List.mem_cons_of_mem _ hy) z (by rw [hxr]; exact List.mem_cons_of_mem _ hz) h1 h2 hyz
        obtain ⟨pre', rest', m'', fr', H'', h1, h2⟩ := advance D r (pre ++ [i]) m' _ H' hI
        exact ⟨_, pre', rest', m'', fr', H'', h1, h2⟩
      split
      · rename_i hw
        rw [if_pos hw] at hrun
        refine .inl (opK_sound (b := maskA X a) (fr := maskF X fr) hcop I.rel (mask_rel hX) (hex hcase) (opK_congr (fun t ht => (maskF_at (hrdX hcase t (D.rda i his t ht))).symm) (wOp_opK hrun)) _ Q ?_)
        rintro v c H' m' w' ⟨hst, hrun'⟩ hv hA' hK'
        exact fin v c H' m' w' hst hrun' hv hA' hK'
      · rename_i hw
        rw [if_neg hw] at hrun
        exact fin (.tuple #[]) undef H m w (stays_refl _ _ _) hrun (.undef m) I.rel (.refl m H w)
end
end Am
