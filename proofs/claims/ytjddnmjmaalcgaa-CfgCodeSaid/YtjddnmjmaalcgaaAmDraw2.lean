/- The abstract machine: operations whose order is drawn: what is asked of them, and that one order serves all.
   No condition: plain lemmas. -/
import Derived.Test.YtjddnmjmaalcgaaAmDraw
namespace Am
set_option linter.unusedSimpArgs false
set_option linter.unusedVariables false
open Go
open Classical

noncomputable def maskF (X : Nat → Prop) (fr : Fr) : Fr := fun t => if X t then .tuple #[] else fr t
noncomputable def maskA (X : Nat → Prop) (a : Act) : Act := { a with tmps := a.tmps.mapIdx fun i v => if X i then undef else v }

section
variable {P : Program} {m : Mu} {H : Heap} {w : World} {fr : Fr} {a : Act} {X : Nat → Prop}
theorem maskA_get (t : Nat) : (maskA X a).tmps.getD t undef = if X t then undef else a.tmps.getD t undef := by
  simp only [maskA, Array.getD_eq_getD_getElem?, Array.getElem?_mapIdx]
  cases a.tmps[t]? with
  | none => simp
  | some v => simp
theorem mask_rel (h : ∀ t, ¬ X t → VRel m (fr t) (a.tmps.getD t undef)) : FRel m (maskF X fr) (maskA X a) := by
  intro t
  rw [maskA_get]
  unfold maskF
  split
  · exact .undef m
  · rename_i hx; exact h t hx
theorem mask_eval {x : Operand} (h : ∀ t, x = .tmp t → ¬ X t) : (maskA X a).eval x = a.eval x := by
  cases x with
  | tmp t => simp only [Act.eval]; rw [maskA_get, if_neg (h t rfl)]
  | _ => rfl
theorem maskF_at {t : Nat} (h : ¬ X t) : maskF X fr t = fr t := if_neg h
end

/-- What is asked of a row of operations whose order is drawn: 'kd': 0 quiet, 1 a new row that may come early, 2 any other. -/
structure DOk (P : Program) (N : Nat) (ops : Array Oper) (ord : List Nat) (A : Nat → AIns) (rd : Nat → List Nat) (B : Nat → Nat → Bool) (kd : Nat → Nat) : Prop where
  mem : ∀ i, i ∈ ord ↔ i < ops.size
  nodup : ord.Nodup
  comp : ∀ i o, ops[i]? = some o → cOp P o.op = some (A i).op ∧ gSlot ops o.guard = some (A i).guard ∧ (A i).dst = o.dst ∧ dstOk N o.dst = true
  rdo : ∀ i o, ops[i]? = some o → ∀ t, Operand.tmp t ∈ o.op.operands → t ∈ rd i
  rda : ∀ i, i < ops.size → ∀ t ∈ rdA (A i).op, t ∈ rd i
  rdg : ∀ i, i < ops.size → ∀ d wnt, (A i).guard = some (d, wnt) → d ∈ rd i
  dir : ∀ i o, ops[i]? = some o → ∀ e ∈ o.after, Region.binds .any e = true → B i e.on = true
  bfc : ∀ i o, ops[i]? = some o → ∀ j, B i j = true → ∃ e ∈ o.after, Region.binds .any e = true ∧ (j = e.on ∨ B e.on j = true)
  topo : ∀ pre x rest, ord = pre ++ x :: rest → ∀ j, B x j = true → j ∈ pre
  fresh : ∀ i, kd i ≠ 2 → i < ops.size → ∃ d, (A i).dst = some d ∧ (∀ k, k < ops.size → k ≠ i → (A k).dst ≠ some d) ∧ ∀ k, k < ops.size → d ∈ rd k → B k i = true
  kd3 : ∀ i, kd i = 0 ∨ kd i = 1 ∨ kd i = 2
  light : ∀ i, i < ops.size → kd i = 0 → ∃ q, (A i).op = .q q
  mkk : ∀ i, i < ops.size → kd i = 1 → (∃ e, (A i).op = .e e ∧ isMk e = true) ∧ (A i).guard = none ∧ ∀ j, B i j = true → kd j = 0
  ordd : ∀ pre x rest, ord = pre ++ x :: rest → kd x ≠ 1 → ∀ j ∈ pre, kd j ≠ 0 → B x j = true
  early : ∀ pre x rest, ord = pre ++ x :: rest → kd x = 1 → (∃ z esz, (A x).op = .e (.new z esz)) ∨ ∀ j ∈ pre, kd j ≠ 2
  hw : ∀ x, x < ops.size → kd x = 2 → ∀ d, (A x).dst = some d → ∀ j, j < ops.size → B x j = false → j ≠ x → B j x = false → kd j ≠ 2 → d ∉ rd j
  fl : ∀ pre x rest, ord = pre ++ x :: rest → kd x = 2 → ∀ j ∈ pre, kd j = 0 → B x j = false → ∀ q, (A j).op = .q q → looks q = true → q ∈ (A x).fl

theorem stays_mem {fr : Fr} {H H' : Heap} : ∀ {l : List QOp}, stays fr H H' l → ∀ q ∈ l, qop q fr H' = qop q fr H
  | _ :: _, h, q, hq => by
    rcases List.mem_cons.1 hq with rfl | hq
    · exact h.1
    · exact stays_mem h.2 q hq

section
variable {P : Program} {N : Nat} {ops : Array Oper} {ord : List Nat} {A : Nat → AIns} {rd : Nat → List Nat} {B : Nat → Nat → Bool} {kd : Nat → Nat} {K : Fr → Heap → Prop} {m0 : Mu} {H0 : Heap} {w0 : World}

/-- A new row that was made early. -/
def Pend (A : Nat → AIns) (w0 : World) (m : Mu) (fr : Fr) (a : Act) (w : World) (b : Nat) (j : Nat) : Prop :=
  ∃ d mk vs esz e arr T, (A j).dst = some d ∧ (A j).op = .e e ∧ mkV e fr = some (mk, vs, esz) ∧ w.heap[b]? = some (.cells arr T (0, 0)) ∧ w0.heap.size ≤ b ∧
    (∀ (id ver : Nat) (L : Loc), m id ver = some L → L.blk ≠ b) ∧ (∀ (j : Nat) (v : Value), vs[j]? = some v → ∃ c, arr[j]? = some c ∧ VRel m v c) ∧ vs.length ≤ arr.size ∧ (∀ v ∈ vs, cellLike v = true) ∧
    ∀ (m' : Mu) (id : Nat), m' id 0 = some ⟨b, 0, arr.size, esz⟩ → VRel m' (mk id) (a.tmps.getD d undef)

theorem Pend.move {m m' : Mu} {H H' : Heap} {fr fr' : Fr} {a a' : Act} {w w' : World} {b j : Nat} (h : Pend A w0 m fr a w b j) (k : Kept m H w m' H' w') (hf : ∀ e, (A j).op = .e e → mkV e fr' = mkV e fr)
    (ht : ∀ d, (A j).dst = some d → a'.tmps.getD d undef = a.tmps.getD d undef) : Pend A w0 m' fr' a' w' b j := by
  obtain ⟨d, mk, vs, esz, e, arr, T, h1, h2, h3, h4, h5, h6, h7, h8, h9, h10⟩ := h
  have hb := (Array.getElem?_eq_some_iff.1 h4).1
  refine ⟨d, mk, vs, esz, e, arr, T, h1, h2, (hf e h2).trans h3, ?_, h5, fun id ver L hL hLb => ?_, fun i v hv => ?_, h8, h9, fun m'' id hm => by rw [ht d h1]; exact h10 m'' id hm⟩
  · rw [k.same b hb (fun ⟨id, r, L, _, _, z3, z4⟩ => h6 _ _ _ z3 z4)]; exact h4
  · rcases k.dom id ver L hL with ⟨i0, v0, L0, z1, z2⟩ | z
    · exact h6 _ _ _ z1 (z2.trans hLb)
    · omega
  · obtain ⟨c, z1, z2⟩ := h7 i v hv
    exact ⟨c, z1, z2.mono k.ext⟩

structure DInv (P : Program) (N : Nat) (ops : Array Oper) (ord : List Nat) (A : Nat → AIns) (B : Nat → Nat → Bool) (kd : Nat → Nat) (K : Fr → Heap → Prop) (m0 : Mu) (H0 : Heap) (w0 : World)
    (listed : Array Bool) (a : Act) (w : World) (blk : Nat → Nat) (pre rest : List Nat) (m : Mu) (fr : Fr) (H : Heap) : Prop where
  spl : ord = pre ++ rest
  sz : listed.size = ops.size
  run : wOps P K (rest.map A) fr H
  prel : ∀ j ∈ pre, kd j ≠ 0 → listed.getD j false = true
  restl : ∀ j ∈ rest, listed.getD j false = true → kd j = 1 ∧ Pend A w0 m fr a w (blk j) j
  rel : ARel m H w
  kept : Kept m0 H0 w0 m H w
  tsz : a.tmps.size = N
  dfr : a.defers = []
  frame : ∀ t, (∀ j, j < ops.size → (A j).dst = some t → ¬ (j ∈ pre ∧ kd j = 0 ∧ listed.getD j false = false) ∧ ¬ (j ∈ rest ∧ listed.getD j false = true)) → VRel m (fr t) (a.tmps.getD t undef)
  lval : ∀ j ∈ pre, kd j = 0 → listed.getD j false = false → ∃ d, (A j).dst = some d ∧ (wantA fr (A j).guard = true → ∀ q, (A j).op = .q q → qop q fr H = some (fr d)) ∧ (wantA fr (A j).guard = false → fr d = .tuple #[])
  clos : ∀ j, listed.getD j false = true → ∀ k, B j k = true → listed.getD k false = true
  binj : ∀ i ∈ rest, ∀ j ∈ rest, listed.getD i false = true → listed.getD j false = true → i ≠ j → blk i ≠ blk j

def Settled (kd : Nat → Nat) (listed : Array Bool) (rest : List Nat) : Prop := rest = [] ∨ ∃ x r, rest = x :: r ∧ kd x ≠ 0 ∧ listed.getD x false = false

theorem wantA_congr {fr fr' : Fr} {g : Option (Nat × Bool)} (h : ∀ d w, g = some (d, w) → fr d = fr' d) : wantA fr g = wantA fr' g := by
  cases g with
  | none => rfl
  | some p => obtain ⟨d, w⟩ := p; simp only [wantA]; rw [h d w rfl]

theorem upd_ne {fr : Fr} {d t : Nat} {v : Value} (h : t ≠ d) : upd fr d v t = fr t := if_neg h
theorem upd_eq {fr : Fr} {d : Nat} {v : Value} : upd fr d v d = v := if_pos rfl

/-- The order goes on past what is quiet, and past new rows that were made early. -/
theorem advance (D : DOk P N ops ord A rd B kd) {listed : Array Bool} {a : Act} {w : World} {blk : Nat → Nat} : ∀ (rest pre : List Nat) (m : Mu) (fr : Fr) (H : Heap),
    DInv P N ops ord A B kd K m0 H0 w0 listed a w blk pre rest m fr H → ∃ pre' rest' m' fr' H', DInv P N ops ord A B kd K m0 H0 w0 listed a w blk pre' rest' m' fr' H' ∧ Settled kd listed rest' := by
  intro rest
  induction rest with
  | nil => intro pre m fr H I; exact ⟨pre, [], m, fr, H, I, .inl rfl⟩
  | cons x r ih =>
    intro pre m fr H I
    have hxo : x ∈ ord := by rw [I.spl]; simp
    have hxs := (D.mem x).1 hxo
    have hnd : ord.Nodup := D.nodup
    have hxpre : x ∉ pre := by
      intro h; rw [I.spl] at hnd
      exact (List.nodup_append.1 hnd).2.2 x h x (by simp) rfl
    have hxr : x ∉ r := by
      rw [I.spl] at hnd
      exact (List.nodup_cons.1 (List.nodup_append.1 hnd).2.1).1
    have hpr : ∀ j, j ∈ pre → j ∉ x :: r := by
      intro j h h'; rw [I.spl] at hnd
      exact (List.nodup_append.1 hnd).2.2 j h j h' rfl
    have hpo : ∀ j, j ∈ pre → j < ops.size := fun j h => (D.mem j).1 (by rw [I.spl]; exact List.mem_append_left _ h)
    have hro : ∀ j, j ∈ r → j < ops.size := fun j h => (D.mem j).1 (by rw [I.spl]; exact List.mem_append_right _ (List.mem_cons_of_mem _ h))
    have hnotself : B x x = false := by
      cases h : B x x with
      | false => rfl
      | true => exact absurd (D.topo pre x r I.spl x h) hxpre
    have hprenot : ∀ j ∈ pre, B j x = false := by
      intro j hj
      cases h : B j x with
      | false => rfl
      | true =>
        obtain ⟨p1, p2, e⟩ := List.append_of_mem hj
        have := D.topo p1 j (p2 ++ x :: r) (by rw [I.spl, e]; simp) x h
        exact absurd (by rw [e]; exact List.mem_append_left _ this) hxpre
    by_cases hk0 : kd x = 0
    · -- quiet
      obtain ⟨d, hd, hdis, hdrd⟩ := D.fresh x (by omega) hxs
      obtain ⟨q, hq⟩ := D.light x hxs hk0
      have hLx : listed.getD x false = false := by
        cases h : listed.getD x false with
        | false => rfl
        | true => have := (I.restl x (by simp) h).1; omega
      have hrun := I.run
      have hAx : A x = ⟨some d, (A x).guard, .q q, (A x).fl⟩ := by
        rw [← hd, ← hq]
      rw [List.map_cons, hAx] at hrun
      simp only [wOps] at hrun
      have hdx : d ∉ rd x := fun h => by have := hdrd x hxs h; rw [hnotself] at this; cases this
      have key : ∀ v, wOps P K (r.map A) (upd fr d v) H → (wantA fr (A x).guard = true → qop q fr H = some v) → (wantA fr (A x).guard = false → v = .tuple #[]) →
          DInv P N ops ord A B kd K m0 H0 w0 listed a w blk (pre ++ [x]) r m (upd fr d v) H := by
        intro v hv hv1 hv2
        have hgx : wantA (upd fr d v) (A x).guard = wantA fr (A x).guard := wantA_congr fun d' w' hg => upd_ne fun e => hdx (e ▸ D.rdg x hxs d' w' hg)
        refine ⟨by rw [I.spl]; simp, I.sz, hv, ?_, ?_, I.rel, I.kept, I.tsz, I.dfr, ?_, ?_, I.clos, fun i hi j hj => I.binj i (List.mem_cons_of_mem _ hi) j (List.mem_cons_of_mem _ hj)⟩
        · intro j hj hk
          rcases List.mem_append.1 hj with h | h
          · exact I.prel j h hk
          · simp at h; subst h; exact absurd hk0 hk
        · intro j hj hL
          obtain ⟨k1, k2⟩ := I.restl j (List.mem_cons_of_mem _ hj) hL
          refine ⟨k1, k2.move (.refl m H w) (fun e he => mkV_congr fun t ht => upd_ne fun et => ?_) (fun _ _ => rfl)⟩
          have : B j x = true := hdrd j (hro j hj) (et ▸ D.rda j (hro j hj) t (by rw [he]; exact ht))
          rw [I.clos j hL x this] at hLx; cases hLx
        · intro t ht
          have htd : t ≠ d := fun e => by
            have := (ht x hxs (by rw [hd, e])).1
            exact this ⟨by simp, hk0, hLx⟩
          rw [upd_ne htd]
          refine I.frame t fun j hj hdj => ⟨fun ⟨z1, z2, z3⟩ => (ht j hj hdj).1 ⟨List.mem_append_left _ z1, z2, z3⟩, fun ⟨z1, z2⟩ => ?_⟩
          rcases List.mem_cons.1 z1 with e | e
          · subst e; rw [hLx] at z2; cases z2
          · exact (ht j hj hdj).2 ⟨e, z2⟩
        · intro j hj hk hL
          rcases List.mem_append.1 hj with h | h
          · obtain ⟨d', z1, z2, z3⟩ := I.lval j h hk hL
            have hjs := hpo j h
            have hjx : j ≠ x := fun e => hxpre (e ▸ h)
            have hd' : d' ≠ d := fun e => hdis j hjs hjx (by rw [z1, e])
            have hnr : d ∉ rd j := fun hh => by have := hdrd j hjs hh; rw [hprenot j h] at this; cases this
            have hg : wantA (upd fr d v) (A j).guard = wantA fr (A j).guard := wantA_congr fun d'' w' hg => upd_ne fun e => hnr (e ▸ D.rdg j hjs d'' w' hg)
            rw [hg]
            refine ⟨d', z1, fun hw q' hq' => ?_, fun hw => by rw [upd_ne hd']; exact z3 hw⟩
            rw [upd_ne hd', ← z2 hw q' hq']
            exact qop_congr fun t ht => upd_ne fun e => hnr (e ▸ D.rda j hjs t (by rw [hq']; exact ht))
          · simp at h; subst h
            rw [hgx]
            refine ⟨d, hd, fun hw q' hq' => ?_, fun hw => by rw [upd_eq]; exact hv2 hw⟩
            rw [hq] at hq'; cases hq'
            rw [upd_eq, ← hv1 hw]
            exact qop_congr fun t ht => upd_ne fun e => hdx (e ▸ D.rda _ hxs t (by rw [hq]; exact ht))
      split at hrun
      · rename_i hw
        simp only [wOp] at hrun
        split at hrun
        · rename_i v hv
          exact ih _ _ _ _ (key v hrun (fun _ => hv) (fun h => by rw [hw] at h; cases h))
        · exact hrun.elim
      · rename_i hw
        exact ih _ _ _ _ (key _ hrun (fun h => absurd h hw) (fun _ => rfl))
    · by_cases hk1 : kd x = 1 ∧ listed.getD x false = true
      · -- a row that was made early
        obtain ⟨hk1, hLx⟩ := hk1
        obtain ⟨_, hP⟩ := I.restl x (by simp) hLx
        obtain ⟨d, mk, vs, esz, e, arr, T, h1, h2, h3, h4, h5, h6, h7, h8, h9, h10⟩ := hP
        obtain ⟨⟨e', he', hmk⟩, hg, hbf⟩ := D.mkk x hxs hk1
        rw [h2] at he'; cases he'
        obtain ⟨d0, hd0, hdis, hdrd⟩ := D.fresh x (by omega) hxs
        rw [h1] at hd0; cases hd0
        have hrun := I.run
        have hAx : A x = ⟨some d, none, .e e, (A x).fl⟩ := by rw [← h1, ← h2, ← hg]
        rw [List.map_cons, hAx] at hrun
        simp only [wOps, wantA, if_true, wOp, eop_mk hmk, h3, Option.map_some] at hrun
        have hA' := I.rel.adopt h4 h6 h7 h8 h9 esz
        have hK' := I.kept.adopt I.rel h5 vs arr.size esz
        have hext : MExt m (m.put H.length 0 ⟨blk x, 0, arr.size, esz⟩) := by
          refine Mu.put_ext ?_
          cases hm : m H.length 0 with
          | none => rfl
          | some L => obtain ⟨r, hr, _⟩ := I.rel.fresh _ _ L hm; simp at hr
        refine ih (pre ++ [x]) _ _ _ ⟨by rw [I.spl]; simp, I.sz, hrun.2, ?_, ?_, hA', hK', I.tsz, I.dfr, ?_, ?_, I.clos, fun i hi j hj => I.binj i (List.mem_cons_of_mem _ hi) j (List.mem_cons_of_mem _ hj)⟩
        · intro j hj hk
          rcases List.mem_append.1 hj with h | h
          · exact I.prel j h hk
          · simp at h; subst h; exact hLx
        · intro j hj hL
          obtain ⟨k1, k2⟩ := I.restl j (List.mem_cons_of_mem _ hj) hL
          have hjx : j ≠ x := fun e => hxr (e ▸ hj)
          refine ⟨k1, ?_⟩
          obtain ⟨d', mk', vs', esz', e', arr', T', q1, q2, q3, q4, q5, q6, q7, q8, q9, q10⟩ := k2
          refine ⟨d', mk', vs', esz', e', arr', T', q1, q2, ?_, q4, q5, fun id ver L hL' => ?_, fun i v hv => by obtain ⟨c, z1, z2⟩ := q7 i v hv; exact ⟨c, z1, z2.mono hext⟩, q8, q9, q10⟩
          · rw [← q3]
            refine mkV_congr fun t ht => upd_ne fun et => ?_
            have hb : B j x = true := hdrd j (hro j hj) (et ▸ D.rda j (hro j hj) t (by rw [q2]; exact ht))
            have := (D.mkk j (hro j hj) k1).2.2 x hb
            omega
          · unfold Mu.put at hL'
            split at hL'
            · cases hL'; exact I.binj x (by simp) j (List.mem_cons_of_mem _ hj) hLx hL (fun e => hjx e.symm)
            · exact q6 _ _ _ hL'
        · intro t ht
          by_cases htd : t = d
          · subst htd
            show VRel _ (upd fr t _ t) _
            rw [upd_eq]; exact h10 _ _ (Mu.put_same _ _ _ _)
          · show VRel _ (upd fr d _ t) _
            rw [upd_ne htd]
            refine (I.frame t fun j hj hdj => ⟨fun ⟨z1, z2, z3⟩ => (ht j hj hdj).1 ⟨List.mem_append_left _ z1, z2, z3⟩, fun ⟨z1, z2⟩ => ?_⟩).mono hext
            rcases List.mem_cons.1 z1 with e | e
            · subst e; rw [h1] at hdj; cases hdj; exact htd rfl
            · exact (ht j hj hdj).2 ⟨e, z2⟩
        · intro j hj hk hL
          rcases List.mem_append.1 hj with h | h
          · obtain ⟨d', z1, z2, z3⟩ := I.lval j h hk hL
            have hjs := hpo j h
            have hjx : j ≠ x := fun e => hxpre (e ▸ h)
            have hd' : d' ≠ d := fun e => hdis j hjs hjx (by rw [z1, e])
            have hnr : d ∉ rd j := fun hh => by have := hdrd j hjs hh; rw [hprenot j h] at this; cases this
            have hg : wantA (updO fr (some d) (mk H.length)) (A j).guard = wantA fr (A j).guard := wantA_congr fun d'' w' hg => upd_ne fun e => hnr (e ▸ D.rdg j hjs d'' w' hg)
            rw [hg]
            refine ⟨d', z1, fun hw q' hq' => ?_, fun hw => by show upd fr d _ d' = _; rw [upd_ne hd']; exact z3 hw⟩
            show _ = some (upd fr d _ d')
            rw [upd_ne hd']
            have := qop_grow (z2 hw q' hq') [.row ⟨vs, esz, 0, true⟩]
            rw [← this]
            exact qop_congr fun t ht => upd_ne fun e => hnr (e ▸ D.rda j hjs t (by rw [hq']; exact ht))
          · simp at h; subst h; omega
      · have hLx : listed.getD x false = false := by
          cases h : listed.getD x false with
          | false => rfl
          | true => exact absurd ⟨(I.restl x (by simp) h).1, h⟩ hk1
        exact ⟨pre, x :: r, m, fr, H, I, .inr ⟨x, r, rfl, hk0, hLx⟩⟩
end
end Am
