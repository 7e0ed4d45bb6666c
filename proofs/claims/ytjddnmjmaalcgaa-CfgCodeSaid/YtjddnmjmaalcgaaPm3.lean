/- The pure machine, third part: operations that make rows or write into them, and that the abstract machine's do the same.
   No condition: plain lemmas. -/
import Derived.Test.YtjddnmjmaalcgaaPm2
namespace Pm
set_option linter.unusedSimpArgs false
set_option linter.unusedVariables false
open Go Am

def pElems (h : Heap) (e : Nat) (x : Value) : Option (Nat × List Value) :=
  match asLst x with
  | some (e', n, cs) => if e' = e then some (n, cs) else none
  | none => elemsV h e x
/-- More elements behind a slice. -/
def pMore (h : Heap) (e : Nat) (s : Value) (n : Nat) (new : List Value) : Option (Value × Heap) :=
  match s with
  | .slice none 0 0 => if n = 0 then some (.slice none 0 0, h) else if n ≤ lim then some (.slice (some ⟨h.length, 0, none⟩) n 0, Am.newRow h new e) else none
  | .slice (some ⟨id, off, none⟩) len ver =>
    match h.row? id ver with
    | some r =>
      if r.rw = true ∧ r.esz = e ∧ off + len * e ≤ r.cells.length ∧ len + n ≤ lim then
        some (.slice (some ⟨id, 0, none⟩) (len + n) (ver + 1), h.set id (.row ⟨(r.cells.drop off).take (len * e) ++ new, e, ver + 1, true⟩))
      else none
    | none => none
  | _ => none
def pApp (h : Heap) (e : Nat) (s x : Value) : Option (Value × Heap) :=
  match pElems h e x with
  | some (n, new) => pMore h e s n new
  | none => none
def pOver (h : Heap) (e : Nat) (d : Value) (n : Nat) (cs : List Value) : Option (Value × Heap) :=
  match d with
  | .slice none 0 0 => some (.int .i64 0, h)
  | .slice (some ⟨id, off, none⟩) len ver =>
    if min n len = 0 then some (.int .i64 0, h) else
    match h.row? id ver with
    | some r => if r.rw = true ∧ off + min n len * e ≤ r.cells.length ∧ min n len * e ≤ cs.length then
        some (.int .i64 (min n len : Nat), h.set id (.row { r with cells := setAll r.cells off (cs.take (min n len * e)) })) else none
    | none => none
  | _ => none
def pCopy (h : Heap) (e : Nat) (d s : Value) : Option (Value × Heap) :=
  match pElems h e s with
  | some (n, cs) => pOver h e d n cs
  | none => none
theorem appV_more {H : Heap} {e : Nat} {s x : Value} {n : Nat} {new : List Value} (h : elemsV H e x = some (n, new)) : appV H e s x = pMore H e s n new := by
  simp only [appV, h, pMore]; rfl
theorem copyV_over {H : Heap} {e : Nat} {d s : Value} {n : Nat} {cs : List Value} (h : elemsV H e s = some (n, cs)) : copyV H e d s = pOver H e d n cs := by
  unfold copyV pOver
  rw [h]
  cases d with
  | slice a len cap =>
    cases a with
    | none => cases len <;> cases cap <;> rfl
    | some a => obtain ⟨b, o, s⟩ := a; cases s <;> rfl
  | _ => rfl

def peop : EOp → Fr → Heap → Option (Value × Heap)
  | .app e s x, fr, h => pApp h e (ev fr s) (ev fr x)
  | .copy e d s, fr, h => pCopy h e (ev fr d) (ev fr s)
  | o, fr, h => eop o fr h

def okE : EOp → Bool
  | .new z _ => z.all plainC
  | .box _ _ x => okO x
  | .lit z _ _ ps => z.all plainC && okL (ps.map (·.2.2))
  | .make z _ l c => z.all plainC && okO l && okO c
  | .store _ a x => okO a && okO x
  | .app _ s x => okO s && okO x
  | .clear z x => z.all plainC && okO x
  | .copy _ d s => okO d && okO s

section
variable {h H : Heap} {m : Map}

def Map.put (m : Map) (id a : Nat) : Map := fun i => if i = id then some a else m i

/-- A new row. -/
theorem PRel.push (hP : PRel m h H) {vs vs' : List Value} (hr : Rs (Wr m h) H m vs vs') (e : Nat) :
    PRel (m.put h.length H.length) (Am.newRow h vs e) (Am.newRow H vs' e) ∧ MLe m (m.put h.length H.length) ∧ Stp (Wr m h) H (Wr (m.put h.length H.length) (Am.newRow h vs e)) (Am.newRow H vs' e) ∧ (m.put h.length H.length) h.length = some H.length := by
  have hle : MLe m (m.put h.length H.length) := by
    intro id a ha
    have := (hP.dom id a ha).1
    unfold Map.put; rw [if_neg (by omega)]; exact ha
  have hw : ∀ a, Wr (m.put h.length H.length) (Am.newRow h vs e) a → Wr m h a ∨ a = H.length := by
    rintro a ⟨id, r, h1, h2, h3⟩
    by_cases hi : id = h.length
    · subst hi; simp [Map.put] at h3; exact .inr h3.symm
    · unfold Map.put at h3; rw [if_neg hi] at h3
      have := (hP.dom id a h3).1
      unfold Am.newRow at h1
      rw [List.getElem?_append_left (by omega)] at h1
      exact .inl ⟨id, r, h1, h2, h3⟩
  have hs : Stp (Wr m h) H (Wr (m.put h.length H.length) (Am.newRow h vs e)) (Am.newRow H vs' e) :=
    ⟨by simp [Am.newRow], fun a ha _ => by unfold Am.newRow; rw [List.getElem?_append_left ha], fun a ha => (hw a ha).imp (fun x => x) (fun x => by omega)⟩
  refine ⟨⟨fun id r hid => ?_, fun id id' a h1 h2 => ?_, fun id a ha => ?_⟩, hle, hs, by simp [Map.put]⟩
  · by_cases hi : id < h.length
    · unfold Am.newRow at hid
      rw [List.getElem?_append_left hi] at hid
      obtain ⟨a, r', k1, k2, k3, k4, k5, k6⟩ := hP.row id r hid
      exact ⟨a, r', hle _ _ k1, by unfold Am.newRow; rw [List.getElem?_append_left (hP.dom _ _ k1).2]; exact k2, k3, k4, k5, k6.mono hs hle⟩
    · unfold Am.newRow at hid
      rw [List.getElem?_append_right (by omega)] at hid
      have hi' : id - h.length < 1 := by simpa using (List.getElem?_eq_some_iff.1 hid).1
      have hi'' : id = h.length := by omega
      subst hi''
      simp at hid
      subst hid
      exact ⟨H.length, ⟨vs', e, 0, true⟩, by simp [Map.put], by unfold Am.newRow; rw [List.getElem?_append_right (Nat.le_refl _)]; simp, rfl, rfl, fun _ => rfl, hr.mono hs hle⟩
  · unfold Map.put at h1 h2
    split at h1
    · rename_i e1
      split at h2
      · rename_i e2; omega
      · cases h1; have := (hP.dom _ _ h2).2; omega
    · split at h2
      · cases h2; have := (hP.dom _ _ h1).2; omega
      · exact hP.inj _ _ _ h1 h2
  · unfold Map.put at ha
    split at ha
    · cases ha; subst_vars; simp [Am.newRow]
    · have := hP.dom _ _ ha; simp [Am.newRow]; omega

/-- A row turns. -/
theorem PRel.turn (hP : PRel m h H) {id a : Nat} {r r1 r' : Row} (hr : h[id]? = some (.row r)) (hrw : r.rw = true) (hm : m id = some a) (hc : Rs (Wr m h) H m r1.cells r'.cells) (he : r'.esz = r1.esz) (hv : r'.ver = r1.ver) (hw : r1.rw = true → r'.rw = true) :
    PRel m (h.set id (.row r1)) (H.set a (.row r')) ∧ Stp (Wr m h) H (Wr m (h.set id (.row r1))) (H.set a (.row r')) := by
  have hil : id < h.length := (List.getElem?_eq_some_iff.1 hr).1
  have hal : a < H.length := (hP.dom _ _ hm).2
  have hwr : Wr m h a := ⟨id, r, hr, hrw, hm⟩
  have hsub : ∀ b, Wr m (h.set id (.row r1)) b → Wr m h b := by
    rintro b ⟨i, q, h1, h2, h3⟩
    by_cases hi : i = id
    · subst hi; rw [hm] at h3; cases h3; exact hwr
    · rw [List.getElem?_set_ne (fun x => hi x.symm)] at h1; exact ⟨i, q, h1, h2, h3⟩
  have hs : Stp (Wr m h) H (Wr m (h.set id (.row r1))) (H.set a (.row r')) :=
    ⟨by simp, fun b hb hn => by rw [List.getElem?_set_ne (fun x => hn (by rw [← x]; exact hwr))], fun b hb => .inl (hsub b hb)⟩
  refine ⟨⟨fun i q hq => ?_, hP.inj, fun i b hb => by simpa using hP.dom i b hb⟩, hs⟩
  by_cases hi : i = id
  · subst hi
    rw [List.getElem?_set_self hil] at hq; cases hq
    exact ⟨a, r', hm, List.getElem?_set_self hal, he, hv, hw, hc.mono hs (.refl m)⟩
  · rw [List.getElem?_set_ne (fun x => hi x.symm)] at hq
    obtain ⟨b, q', k1, k2, k3, k4, k5, k6⟩ := hP.row i q hq
    refine ⟨b, q', k1, ?_, k3, k4, k5, k6.mono hs (.refl m)⟩
    rw [List.getElem?_set_ne (fun x => hi (hP.inj i id b k1 (by rw [← x]; exact hm)))]; exact k2

/-- What both machines come to. -/
def Both (m : Map) (h H : Heap) (p : Value) (h' : Heap) (o : Option (Value × Heap)) : Prop :=
  ∃ v H' m', o = some (v, H') ∧ MLe m m' ∧ Stp (Wr m h) H (Wr m' h') H' ∧ R (Wr m' h') H' m' p v ∧ PRel m' h' H'

theorem both_push (hP : PRel m h H) {vs vs' : List Value} (hr : Rs (Wr m h) H m vs vs') {e : Nat} {mk : Nat → Value} (hk : ∀ (W : Nat → Prop) (K : Heap) (m' : Map) (i j : Nat), m' i = some j → R W K m' (mk i) (mk j)) :
    Both m h H (mk h.length) (Am.newRow h vs e) (some (mk H.length, Am.newRow H vs' e)) := by
  obtain ⟨k1, k2, k3, k4⟩ := hP.push hr e
  exact ⟨_, _, _, rfl, k2, k3, hk _ _ _ _ _ k4, k1⟩

theorem pElems_R (hP : PRel m h H) {e : Nat} {x x' : Value} (hx : R (Wr m h) H m x x') {n : Nat} {cs : List Value} (hp : pElems h e x = some (n, cs)) : ∃ cs', elemsV H e x' = some (n, cs') ∧ Rs (Wr m h) H m cs cs' := by
  cases hx with
  | @lst m e' n' cs0 a o ver r hr hf he hl hb hc =>
    simp only [pElems, asLst_lst] at hp
    split at hp
    · rename_i he'
      subst he'
      cases hp
      refine ⟨_, by simp only [elemsV, Heap.cells?, hr]; rw [if_pos hb]; rfl, .of_get ?_ fun i p v h1 h2 => ?_⟩
      · simp; omega
      · simp only [List.getElem?_take, List.getElem?_drop] at h2
        split at h2
        · exact (hc i p v h1 h2).mono (.refl _ _) (.none m)
        · cases h2
    · cases hp
  | lstNil =>
    simp only [pElems, asLst_lst] at hp
    split at hp
    · cases hp; exact ⟨[], rfl, .nil⟩
    · cases hp
  | sliceNil => simp only [pElems, asLst, elemsV] at hp; cases hp; exact ⟨[], rfl, .nil⟩
  | slice hm =>
    simp only [pElems, asLst, elemsV] at hp
    obtain ⟨l, hl, e1⟩ := Option.map_eq_some_iff.1 hp
    cases e1
    obtain ⟨a, vs, k1, k2, k3⟩ := cells_R hP hl
    rw [hm] at k1; cases k1
    exact ⟨vs, by simp only [elemsV, k2, Option.map_some], k3⟩
  | fptr => simp [pElems, elemsV, fptr] at hp; cases hp
  | _ => simp [pElems, asLst, elemsV] at hp

theorem pMore_R (hP : PRel m h H) {e n : Nat} {s s' : Value} {new new' : List Value} (hs : R (Wr m h) H m s s') (hn : Rs (Wr m h) H m new new') {p : Value} {h' : Heap} (hp : pMore h e s n new = some (p, h')) : Both m h H p h' (pMore H e s' n new') := by
  unfold pMore at hp
  split at hp
  · cases hs with
    | sliceNil =>
      simp only [pMore]
      split at hp
      · rename_i h0
        rw [if_pos h0]; cases hp
        exact ⟨_, H, m, rfl, .refl m, .refl _ _, .sliceNil, hP⟩
      · rename_i h0
        rw [if_neg h0]
        split at hp
        · rename_i h1
          rw [if_pos h1]; cases hp
          exact both_push hP hn (mk := fun i => .slice (some ⟨i, 0, none⟩) n 0) fun W K m' i j hm => .slice hm
        · cases hp
  · rename_i id off len ver
    cases hs with
    | slice hm =>
      simp only [pMore]
      split at hp
      · rename_i r hr
        obtain ⟨a, r', k1, k2, k3, k4, k5, k6⟩ := hP.row? hr
        rw [hm] at k1; cases k1
        split at hp
        · rename_i hc
          obtain ⟨c1, c2, c3, c4⟩ := hc
          cases hp
          simp only [k2]
          rw [if_pos ⟨k5 c1, by rw [k3]; exact c2, by rw [← k6.length]; exact c3, c4⟩]
          obtain ⟨q1, q2⟩ := hP.turn (Heap.row?_some hr).1 c1 hm (r1 := ⟨(r.cells.drop off).take (len * e) ++ new, e, ver + 1, true⟩) (r' := ⟨(r'.cells.drop off).take (len * e) ++ new', e, ver + 1, true⟩) (((k6.drop off).take _).append hn) rfl rfl fun _ => rfl
          exact ⟨_, _, m, rfl, .refl m, q2, .slice hm, q1⟩
        · cases hp
      · cases hp
  · cases hp

theorem pOver_R (hP : PRel m h H) {e n : Nat} {s s' : Value} {new new' : List Value} (hs : R (Wr m h) H m s s') (hn : Rs (Wr m h) H m new new') {p : Value} {h' : Heap} (hp : pOver h e s n new = some (p, h')) : Both m h H p h' (pOver H e s' n new') := by
  unfold pOver at hp
  split at hp
  · cases hs with
    | sliceNil => cases hp; exact ⟨_, H, m, rfl, .refl m, .refl _ _, .int _ _, hP⟩
  · rename_i id off len ver
    cases hs with
    | slice hm =>
      simp only [pOver]
      split at hp
      · rename_i h0
        rw [if_pos h0]; cases hp
        exact ⟨_, H, m, rfl, .refl m, .refl _ _, .int _ _, hP⟩
      · rename_i h0
        rw [if_neg h0]
        split at hp
        · rename_i r hr
          obtain ⟨a, r', k1, k2, k3, k4, k5, k6⟩ := hP.row? hr
          rw [hm] at k1; cases k1
          split at hp
          · rename_i hc
            obtain ⟨c1, c2, c3⟩ := hc
            cases hp
            simp only [k2]
            rw [if_pos ⟨k5 c1, by rw [← k6.length]; exact c2, by rw [← hn.length]; exact c3⟩]
            obtain ⟨q1, q2⟩ := hP.turn (Heap.row?_some hr).1 c1 hm (r1 := { r with cells := setAll r.cells off (new.take (min n len * e)) }) (r' := { r' with cells := setAll r'.cells off (new'.take (min n len * e)) }) (k6.setAll (hn.take _) off) k3 k4 k5
            exact ⟨_, _, m, rfl, .refl m, q2, .int _ _, q1⟩
          · cases hp
        · cases hp
  · cases hp

theorem pe_sound (hP : PRel m h H) {fr afr : Fr} (hF : FR (Wr m h) H m fr afr) {o : EOp} (ho : okE o = true) {p : Value} {h' : Heap} (hp : peop o fr h = some (p, h')) : Both m h H p h' (eop o afr H) := by
  cases o with
  | new z e =>
    cases hp
    exact both_push hP (plainC_Rs ho) (mk := fun i => .pointer (some ⟨i, 0, some 0⟩)) fun W K m' i j hm => .ptr hm
  | box n e x =>
    simp only [peop, eop] at hp ⊢
    split at hp
    · rename_i vs hvs
      obtain ⟨vs', k1, k2⟩ := cellsOf_R (hF.ev ho) hvs
      split at hp
      · rename_i hn
        cases hp
        simp only [k1]
        rw [if_pos (by rw [← k2.length]; exact hn)]
        exact both_push hP k2 (mk := fun i => .pointer (some ⟨i, 0, some 0⟩)) fun W K m' i j hm => .ptr hm
      · cases hp
    · cases hp
  | lit z e len ps =>
    simp only [okE, Bool.and_eq_true] at ho
    simp only [peop, eop] at hp ⊢
    obtain ⟨r, hr, e1⟩ := Option.map_eq_some_iff.1 hp
    cases e1
    obtain ⟨r', k1, k2⟩ := fill_ops hF ho.1 ho.2 hr
    rw [k1]
    exact both_push hP k2 (mk := fun i => .slice (some ⟨i, 0, none⟩) len 0) fun W K m' i j hm => .slice hm
  | make z e l c =>
    simp only [okE, Bool.and_eq_true] at ho
    simp only [peop, eop] at hp ⊢
    unfold makeV at hp
    split at hp
    · rename_i _ _ kl l' kc c' hl hc
      have el := r_int (hl ▸ hF.ev ho.1.2)
      have ec := r_int (hc ▸ hF.ev ho.2)
      split at hp
      · rename_i hb
        cases hp
        rw [el, ec]
        simp only [makeV]
        rw [if_pos hb]
        exact both_push hP (rep_Rs (plainC_Rs ho.1.1) _) (mk := fun i => .slice (some ⟨i, 0, none⟩) l'.toNat 0) fun W K m' i j hm => .slice hm
      · cases hp
    · cases hp
  | store n a x =>
    simp only [okE, Bool.and_eq_true] at ho
    simp only [peop, eop] at hp ⊢
    obtain ⟨h1, hs, e1⟩ := Option.map_eq_some_iff.1 hp
    cases e1
    unfold storeV at hs
    split at hs
    · rename_i _ _ id off ver vs hptr hvs
      have hra := hF.ev ho.1
      rw [hptr] at hra
      obtain ⟨vs', k1, k2⟩ := cellsOf_R (hF.ev ho.2) hvs
      cases hptr' : ev afr a <;> rw [hptr'] at hra <;> cases hra
      rename_i b hm
      split at hs
      · rename_i r hr
        obtain ⟨b', r', q1, q2, q3, q4, q5, q6⟩ := hP.row? hr
        rw [hm] at q1; cases q1
        split at hs
        · rename_i hc
          cases hs
          simp only [storeV, k1, q2]
          rw [if_pos ⟨q5 hc.1, by rw [← k2.length]; exact hc.2.1, by rw [← k2.length, ← q6.length]; exact hc.2.2⟩]
          obtain ⟨z1, z2⟩ := hP.turn (Heap.row?_some hr).1 hc.1 hm (r1 := { r with cells := setAll r.cells off vs }) (r' := { r' with cells := setAll r'.cells off vs' }) (q6.setAll k2 off) q3 q4 q5
          exact ⟨_, _, m, rfl, .refl m, z2, .undef, z1⟩
        · cases hs
      · cases hs
    · cases hs
  | app e s x =>
    simp only [okE, Bool.and_eq_true] at ho
    simp only [peop, eop, pApp] at hp ⊢
    split at hp
    · rename_i n new hn
      obtain ⟨new', k1, k2⟩ := pElems_R hP (hF.ev ho.2) hn
      rw [appV_more k1]
      exact pMore_R hP (hF.ev ho.1) k2 hp
    · cases hp
  | clear z x =>
    simp only [okE, Bool.and_eq_true] at ho
    simp only [peop, eop] at hp ⊢
    obtain ⟨h1, hs, e1⟩ := Option.map_eq_some_iff.1 hp
    cases e1
    have hra := hF.ev ho.2
    unfold clearV at hs
    split at hs
    · rename_i hx
      rw [hx] at hra
      cases hs
      cases hx' : ev afr x <;> rw [hx'] at hra <;> cases hra
      exact ⟨_, H, m, rfl, .refl m, .refl _ _, .undef, hP⟩
    · rename_i id off len ver hx
      rw [hx] at hra
      cases hx' : ev afr x <;> rw [hx'] at hra <;> cases hra
      rename_i b hm
      simp only [clearV]
      split at hs
      · rename_i h0
        cases hs
        rw [if_pos h0]
        exact ⟨_, H, m, rfl, .refl m, .refl _ _, .undef, hP⟩
      · rename_i h0
        rw [if_neg h0]
        split at hs
        · rename_i r hr
          obtain ⟨b', r', q1, q2, q3, q4, q5, q6⟩ := hP.row? hr
          rw [hm] at q1; cases q1
          split at hs
          · rename_i hc
            cases hs
            simp only [q2]
            rw [if_pos ⟨q5 hc.1, by rw [← q6.length]; exact hc.2⟩]
            obtain ⟨z1, z2⟩ := hP.turn (Heap.row?_some hr).1 hc.1 hm (r1 := { r with cells := setAll r.cells off (rep len z) }) (r' := { r' with cells := setAll r'.cells off (rep len z) }) (q6.setAll (rep_Rs (plainC_Rs ho.1) len) off) q3 q4 q5
            exact ⟨_, _, m, rfl, .refl m, z2, .undef, z1⟩
          · cases hs
        · cases hs
    · cases hs
  | copy e d s =>
    simp only [okE, Bool.and_eq_true] at ho
    simp only [peop, eop, pCopy] at hp ⊢
    split at hp
    · rename_i n cs hn
      obtain ⟨cs', k1, k2⟩ := pElems_R hP (hF.ev ho.2) hn
      rw [copyV_over k1]
      exact pOver_R hP (hF.ev ho.1) k2 hp
    · cases hp
end
end Pm
