/- The abstract machine: operations whose order is drawn: the check is enough.
   No condition: plain lemmas. -/
import Derived.Test.YtjddnmjmaalcgaaAmDraw4
namespace Am
set_option linter.unusedSimpArgs false
set_option linter.unusedVariables false
open Go

theorem sub_at {a b : Nat} (h : sub a b = true) {j : Nat} (hj : a.testBit j = true) : b.testBit j = true := by
  have e : a &&& b = a := by simpa [sub] using h
  rw [← e, Nat.testBit_and] at hj
  simp at hj; exact hj.2
theorem bit_at (s i j : Nat) : (s ||| 2 ^ i).testBit j = (s.testBit j || decide (i = j)) := by
  rw [Nat.testBit_or, Nat.testBit_two_pow]
theorem mask_fold (f : Nat → Bool) (j : Nat) : ∀ (l : List Nat) (s : Nat), (l.foldl (fun s i => if f i then s ||| 2 ^ i else s) s).testBit j = (s.testBit j || (decide (j ∈ l) && f j))
  | [], s => by simp
  | i :: l, s => by
    rw [List.foldl_cons, mask_fold f j l]
    cases hf : f i with
    | true =>
      rw [if_pos rfl, bit_at]
      by_cases e : i = j
      · subst e; simp [hf]
      · have : j ≠ i := fun h => e h.symm
        simp [e, this]
    | false =>
      rw [if_neg (by simp)]
      by_cases e : j = i
      · subst e; simp [hf]
      · simp [e]
theorem mask_at {n : Nat} {f : Nat → Bool} {j : Nat} : (maskOf n f).testBit j = true ↔ j < n ∧ f j = true := by
  unfold maskOf; rw [mask_fold]; simp
theorem bf_fold (bf : Nat → Nat) (j : Nat) : ∀ (l : List Edge) (s : Nat), (l.foldl (fun s e => if Region.binds .any e then s ||| 2 ^ e.on ||| bf e.on else s) s).testBit j = true ↔
    (s.testBit j = true ∨ ∃ e ∈ l, Region.binds .any e = true ∧ (j = e.on ∨ (bf e.on).testBit j = true))
  | [], s => by simp
  | e :: l, s => by
    rw [List.foldl_cons, bf_fold bf j l]
    cases hb : Region.binds .any e with
    | true =>
      rw [if_pos rfl, Nat.testBit_or, bit_at]
      constructor
      · rintro (h | ⟨e', h1, h2, h3⟩)
        · rw [Bool.or_eq_true, Bool.or_eq_true] at h
          rcases h with (h | h) | h
          · exact .inl h
          · exact .inr ⟨e, by simp, hb, .inl (by have := of_decide_eq_true h; exact this.symm)⟩
          · exact .inr ⟨e, by simp, hb, .inr h⟩
        · exact .inr ⟨e', by simp [h1], h2, h3⟩
      · rintro (h | ⟨e', h1, h2, h3⟩)
        · exact .inl (by simp [h])
        · rcases List.mem_cons.1 h1 with r | r
          · subst r
            rcases h3 with h3 | h3
            · subst h3; exact .inl (by simp)
            · exact .inl (by simp [h3])
          · exact .inr ⟨e', r, h2, h3⟩
    | false =>
      rw [if_neg (by simp)]
      constructor
      · rintro (h | ⟨e', h1, h2, h3⟩)
        · exact .inl h
        · exact .inr ⟨e', by simp [h1], h2, h3⟩
      · rintro (h | ⟨e', h1, h2, h3⟩)
        · exact .inl h
        · rcases List.mem_cons.1 h1 with r | r
          · subst r; rw [hb] at h2; cases h2
          · exact .inr ⟨e', r, h2, h3⟩
theorem bf_at {o : Oper} {bf : Nat → Nat} {j : Nat} : (bfOf o bf).testBit j = true ↔ ∃ e ∈ o.after, Region.binds .any e = true ∧ (j = e.on ∨ (bf e.on).testBit j = true) := by
  unfold bfOf; rw [bf_fold]; simp

theorem chk_spec {n : Nat} {ins : List AIns} {rd : List (List Nat)} {bf kd : List Nat} {nl hv : Nat} : ∀ (rest : List Nat) (pm : Nat) (pre0 : List Nat), chk n ins rd bf kd nl hv pm rest = true → (∀ j, pm.testBit j = true ↔ j ∈ pre0) →
    ∀ pre x r, rest = pre ++ x :: r → ∃ pm' : Nat, (∀ j, pm'.testBit j = true ↔ j ∈ pre0 ∨ j ∈ pre) ∧ pm'.testBit x = false ∧ sub (bf.getD x 0) pm' = true ∧ (kd.getD x 2 ≠ 1 → sub (pm' &&& nl) (bf.getD x 0) = true) ∧
      (kd.getD x 2 = 1 → isNew (insAt ins x).op = true ∨ pm' &&& hv = 0)
  | [], _, _, _, _, pre, x, r, e => by cases pre <;> cases e
  | y :: l, pm, pre0, h, hp, pre, x, r, e => by
    rw [chk] at h
    simp only [Bool.and_eq_true, Bool.or_eq_true, Bool.not_eq_true', beq_iff_eq, bne_iff_ne, ne_eq] at h
    obtain ⟨⟨⟨⟨h1, h2⟩, h3⟩, h4⟩, h5⟩ := h
    cases pre with
    | nil =>
      cases e
      refine ⟨pm, fun j => by simp [hp j], h1, h2, fun hk => h3.resolve_left hk, fun hk => ?_⟩
      rcases h4 with (h4 | h4) | h4
      · exact absurd hk h4
      · exact .inl h4
      · exact .inr h4
    | cons z pre =>
      cases e
      obtain ⟨pm', q1, q2⟩ := chk_spec (pre ++ x :: r) _ (y :: pre0) h5 (fun j => by rw [bit_at, Bool.or_eq_true, decide_eq_true_iff, List.mem_cons, hp j]; exact ⟨fun h => h.elim .inr (fun h => .inl h.symm), fun h => h.elim (fun h => .inr h.symm) .inl⟩) pre x r rfl
      refine ⟨pm', fun j => ?_, q2⟩
      rw [q1 j, List.mem_cons, List.mem_cons]
      constructor
      · rintro ((h | h) | h)
        · exact .inr (.inl h)
        · exact .inl h
        · exact .inr (.inr h)
      · rintro (h | h | h)
        · exact .inl (.inr h)
        · exact .inl (.inl h)
        · exact .inr h

theorem nodup_of : ∀ (l pre0 : List Nat), (∀ pre x r, l = pre ++ x :: r → x ∉ pre0 ∧ x ∉ pre) → l.Nodup
  | [], _, _ => List.nodup_nil
  | y :: l, pre0, h => by
    refine List.nodup_cons.2 ⟨fun hy => ?_, nodup_of l pre0 fun pre x r e => ?_⟩
    · obtain ⟨p, q, e⟩ := List.append_of_mem hy
      exact (h (y :: p) y q (by rw [e]; rfl)).2 (by simp)
    · have := h (y :: pre) x r (by rw [e]; rfl)
      exact ⟨this.1, fun h => this.2 (by simp [h])⟩

theorem takeW {x : Nat} {r : List Nat} : ∀ {pre : List Nat}, x ∉ pre → (pre ++ x :: r).takeWhile (· != x) = pre
  | [], _ => by simp
  | y :: pre, h => by
    have hy : y ≠ x := fun e => h (by simp [e])
    rw [List.cons_append, List.takeWhile_cons, if_pos (by simpa using hy), takeW (fun h' => h (by simp [h']))]

theorem cList_at {P : Program} {N : Nat} {ops : Array Oper} : ∀ {l : List Oper} {ins : List AIns}, cList P N ops l = some ins → ins.length = l.length ∧ ∀ i o, l[i]? = some o → cIns P N ops o = some (insAt ins i)
  | [], ins, h => by cases h; exact ⟨rfl, fun i o h => by simp at h⟩
  | o :: l, ins, h => by
    rw [cList] at h
    split at h
    · rename_i i is h1 h2
      cases h
      obtain ⟨q1, q2⟩ := cList_at h2
      refine ⟨by simp [q1], fun k o' hk => ?_⟩
      cases k with
      | zero => simp at hk; subst hk; exact h1
      | succ k => simp at hk; exact q2 k o' hk
    · cases h

theorem fin_dst {ins : List AIns} {bf kd ord : List Nat} {x : Nat} : (finalIns ins bf kd ord x).dst = (insAt ins x).dst := by unfold finalIns; dsimp only; split <;> rfl
theorem fin_guard {ins : List AIns} {bf kd ord : List Nat} {x : Nat} : (finalIns ins bf kd ord x).guard = (insAt ins x).guard := by unfold finalIns; dsimp only; split <;> rfl
theorem fin_op {ins : List AIns} {bf kd ord : List Nat} {x : Nat} : (finalIns ins bf kd ord x).op = (insAt ins x).op := by unfold finalIns; dsimp only; split <;> rfl

theorem fresh_at {n : Nat} {ins : List AIns} {rd : List (List Nat)} {bf : List Nat} {i : Nat} (h : freshB n ins rd bf i = true) :
    ∃ d, (insAt ins i).dst = some d ∧ (∀ k, k < n → k ≠ i → (insAt ins k).dst ≠ some d) ∧ ∀ k, k < n → d ∈ rd.getD k [] → (bf.getD k 0).testBit i = true := by
  unfold freshB at h
  split at h
  · rename_i d hd
    rw [List.all_eq_true] at h
    refine ⟨d, hd, fun k hk hki => ?_, fun k hk hdk => ?_⟩
    · have := h k (List.mem_range.2 hk)
      simp only [Bool.and_eq_true, Bool.or_eq_true, beq_iff_eq, bne_iff_ne, ne_eq] at this
      exact this.1.resolve_left hki
    · have := h k (List.mem_range.2 hk)
      simp only [Bool.and_eq_true, Bool.or_eq_true, beq_iff_eq, bne_iff_ne, ne_eq, Bool.not_eq_true', List.contains_eq_mem] at this
      exact this.2.resolve_left fun h => of_decide_eq_false h hdk
  · cases h

theorem rdO_mem {o : Oper} {t : Nat} (h : Operand.tmp t ∈ o.op.operands) : t ∈ rdO o := by
  unfold rdO
  rw [List.mem_filterMap]
  exact ⟨.tmp t, by simpa using h, rfl⟩

theorem dok_of {P : Program} {N : Nat} {ops : Array Oper} {ins : List AIns} {rd : List (List Nat)} {bf kd ord : List Nat} (hins : cList P N ops ops.toList = some ins) (h : okDraw ops.size ops.toList ins rd bf kd ord = true) :
    DOk P N ops ord (finalIns ins bf kd ord) (fun i => rd.getD i []) (fun i j => (bf.getD i 0).testBit j) (fun i => kd.getD i 2) := by
  unfold okDraw at h
  simp only [Bool.and_eq_true, List.all_eq_true, List.mem_range] at h
  obtain ⟨⟨⟨⟨⟨⟨⟨⟨⟨hm1, hm2⟩, hbr⟩, hfr⟩, hlt⟩, hmk⟩, hk2⟩, hkl⟩, hhw⟩, hch⟩ := h
  have hmem : ∀ i, i ∈ ord ↔ i < ops.size := fun i => ⟨fun h => by simpa using hm2 i h, fun h => by simpa using hm1 i h⟩
  have hspec := chk_spec ord 0 [] hch (by simp)
  have hnin : ∀ pre x r, ord = pre ++ x :: r → x ∉ pre := by
    intro pre x r e hx
    obtain ⟨pm, q1, q2, _⟩ := hspec pre x r e
    rw [(q1 x).2 (.inr hx)] at q2; cases q2
  have hat : ∀ i, i < ops.size → ∃ o, ops[i]? = some o ∧ ops.toList[i]? = some o := fun i hi => ⟨ops[i], Array.getElem?_eq_getElem hi, by simp [Array.getElem?_toList, hi]⟩
  have hbf : ∀ i o, ops[i]? = some o → bf.getD i 0 = bfOf o (bf.getD · 0) ∧ rd.getD i [] = rdO o ++ rdA (insAt ins i).op ++ rdG (insAt ins i).guard := by
    intro i o ho
    have := hbr i (Array.getElem?_eq_some_iff.1 ho).1
    rw [show ops.toList[i]? = some o from by rw [Array.getElem?_toList]; exact ho] at this
    simpa using this
  refine ⟨hmem, nodup_of ord [] fun pre x r e => ⟨by simp, hnin pre x r e⟩, fun i o ho => ?_, fun i o ho t ht => ?_, fun i hi t ht => ?_, fun i hi d wnt hg => ?_, fun i o ho e he hb => ?_, fun i o ho j hj => ?_,
    fun pre x r e j hj => ?_, fun i hk hi => ?_, fun i => ?_, fun i hi hk => ?_, fun i hi hk => ?_, fun pre x r e hk j hj hkj => ?_, fun pre x r e hk => ?_, fun x hx hk d hd j hj h1 h2 h3 h4 hdj => ?_, fun pre x r e hk j hj hkj hb q hq hl => ?_⟩
  · have := (cList_at hins).2 i o (by rw [Array.getElem?_toList]; exact ho)
    unfold cIns at this
    split at this
    · rename_i op g e1 e2
      split at this
      · rename_i e3
        rw [fin_op, fin_guard, fin_dst]
        have e4 := (Option.some.inj this).symm
        rw [e4]
        exact ⟨e1, e2, rfl, e3⟩
      · cases this
    · cases this
  · rw [(hbf i o ho).2]; simp [rdO_mem ht]
  · obtain ⟨o, ho, _⟩ := hat i hi
    rw [fin_op] at ht
    rw [(hbf i o ho).2]; simp [ht]
  · obtain ⟨o, ho, _⟩ := hat i hi
    rw [fin_guard] at hg
    rw [(hbf i o ho).2, hg]; simp [rdG]
  · rw [(hbf i o ho).1]; exact bf_at.2 ⟨e, he, hb, .inl rfl⟩
  · rw [(hbf i o ho).1] at hj; exact bf_at.1 hj
  · obtain ⟨pm, q1, q2, q3, _⟩ := hspec pre x r e
    have := (q1 j).1 (sub_at q3 hj)
    simpa using this
  · have := hfr i hi
    simp only [Bool.or_eq_true, beq_iff_eq] at this
    obtain ⟨d, z1, z2, z3⟩ := fresh_at (this.resolve_left hk)
    exact ⟨d, by rw [fin_dst]; exact z1, fun k hk hki => by rw [fin_dst]; exact z2 k hk hki, z3⟩
  · rw [List.getD_eq_getElem?_getD]
    cases hi : kd[i]? with
    | none => simp
    | some v =>
      have := hk2 v (List.mem_of_getElem? hi)
      simp at this ⊢; omega
  · have := hlt i hi
    rw [fin_op]
    simp only [Bool.or_eq_true, bne_iff_ne, ne_eq] at this
    have := this.resolve_left (fun h => h hk)
    unfold isQ at this
    split at this
    · rename_i q e; exact ⟨q, e⟩
    · cases this
  · have := hmk i hi
    rw [fin_op, fin_guard]
    simp only [Bool.or_eq_true, Bool.and_eq_true, bne_iff_ne, ne_eq] at this
    obtain ⟨⟨w1, w2⟩, w3⟩ := this.resolve_left (fun h => h hk)
    refine ⟨?_, by simpa using w2, fun j hj => ?_⟩
    · unfold isMkA at w1
      split at w1
      · rename_i ee e; exact ⟨ee, e, w1⟩
      · cases w1
    · have := mask_at.1 (sub_at w3 hj)
      simpa using this.2
  · obtain ⟨pm, q1, q2, q3, q4, _⟩ := hspec pre x r e
    have hjo : j < ops.size := (hmem j).1 (by rw [e]; exact List.mem_append_left _ hj)
    refine sub_at (q4 hk) ?_
    rw [Nat.testBit_and, (q1 j).2 (.inr hj), mask_at.2 ⟨hjo, by simpa using hkj⟩]; rfl
  · obtain ⟨pm, q1, q2, q3, _, q5⟩ := hspec pre x r e
    rcases q5 hk with z | z
    · rw [fin_op]
      unfold isNew at z
      split at z
      · rename_i zz esz e; exact .inl ⟨zz, esz, e⟩
      · cases z
    · refine .inr fun j hj hk2' => ?_
      have hjo : j < ops.size := (hmem j).1 (by rw [e]; exact List.mem_append_left _ hj)
      have : (pm &&& maskOf ops.size fun j => kd.getD j 2 == 2).testBit j = true := by
        rw [Nat.testBit_and, (q1 j).2 (.inr hj), mask_at.2 ⟨hjo, by simpa using hk2'⟩]; rfl
      rw [z] at this; simp at this
  · have := hhw x hx
    rw [fin_dst] at hd
    unfold hwB at this
    rw [hd] at this
    simp only [Bool.or_eq_true, bne_iff_ne, ne_eq, List.all_eq_true, List.mem_range, beq_iff_eq, Bool.not_eq_true', List.contains_eq_mem] at this
    have := (this.resolve_left (fun h => h hk)) j hj
    clear hhw
    simp only [h1, h3, h2, h4, or_false, false_or, Bool.false_eq_true] at this
    exact of_decide_eq_false this hdj
  · unfold finalIns
    try dsimp only at hk hkj hb ⊢
    rw [if_pos (by simpa using hk), e, takeW (hnin pre x r e)]
    unfold floats
    rw [List.mem_filterMap]
    refine ⟨j, hj, ?_⟩
    rw [fin_op] at hq
    rw [hkj, hb, hq]
    simp [hl]

theorem draw_sound {P : Program} {N : Nat} {ops : Array Oper} {is : List AIns} {Q : Exit → Fr → Heap → Prop} {fr : Fr} {H H0 : Heap} {m m0 : Mu} {a : Act} {w w0 : World} (hP : P.follows .mixedOrders = true) (hc : cDraw P N ops = some is) (id : Nat)
    (h : wOps P (Q .normal) is fr H) (hA : ARel m H w) (hF : FRel m fr a) (hK : Kept m0 H0 w0 m H w) (hN : a.tmps.size = N) (hD : a.defers = []) : (Code.region id ops true).wp P (CPost Q m0 H0 w0 N) a w := by
  unfold cDraw at hc
  split at hc
  · rename_i ins hins
    dsimp only at hc
    split at hc
    · rename_i hok
      cases hc
      exact draw_of (dok_of hins hok) hP id h hA hF hK hN hD
    · cases hc
  · cases hc
end Am
