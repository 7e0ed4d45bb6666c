/- Stores that are left out: what does not race tells the same; without the program.
   No condition: plain lemmas. -/

import Derived.Test.YtmdnkninbkcmkaaZSPmRaceT1
import Derived.Test.YtmdnkninbkcmkaaZSPmSto4
import Derived.Test.YtmdnkninbkcmkaaZSPmSound5
namespace Pm
set_option linter.unusedSimpArgs false
set_option linter.unusedVariables false
open Go Am

structure StoT (s t : List (List Ins)) : Prop where
  le : t.length ≤ s.length
  one : ∀ (k : Nat) (x y : List Ins),s[k]? = some x → t[k]? = some y → Stored x y
theorem StoT.snoc {s t : List (List Ins)} {x y : List Ins} (h : StoT s t) (hx : s[t.length]? = some x) (hf : Stored x y) : StoT s (t ++ [y]) := by
  refine ⟨by have := (List.getElem?_eq_some_iff.1 hx).1; simp; omega,fun k a b ha hb => ?_⟩
  rcases Nat.lt_or_ge k t.length with h1 | h1
  · rw [List.getElem?_append_left h1] at hb; exact h.one k a b ha hb
  · have h2 := (List.getElem?_eq_some_iff.1 hb).1
    simp at h2
    obtain rfl : k = t.length := by omega
    rw [hx] at ha; cases ha
    rw [List.getElem?_append_right (Nat.le_refl _)] at hb
    simp at hb
    subst hb; exact hf
theorem Stored.at' {x y : List Ins} (h : Stored x y) {i : Nat} {c d : Ins} (hc : x[i]? = some c) (hd : y[i]? = some d) : (Gone x i c ∧ d = nopI) ∨ (¬ Gone x i c ∧ d = c) := by
  rcases Classical.em (Gone x i c) with g | g
  · have := h.gone i c hc g
    rw [hd] at this; cases this
    exact .inl ⟨g,rfl⟩
  · have := h.stay i c hc g
    rw [hd] at this; cases this
    exact .inr ⟨g,rfl⟩
theorem Stored.ok {p : Prog} {n : Nat} {x y : List Ins} (h : Stored x y) (ho : ∀ i ∈ x,InsOk p n i) : ∀ i ∈ y,InsOk p n i := by
  intro c hc
  obtain ⟨i,hi⟩ := List.mem_iff_getElem?.1 hc
  have hlt := (List.getElem?_eq_some_iff.1 hi).1
  rw [h.len] at hlt
  have hx : x[i]? = some x[i] := List.getElem?_eq_getElem hlt
  rcases h.at' hx hi with ⟨_,e⟩ | ⟨_,e⟩
  · rw [e]; exact qWc p n
  · rw [e]; exact ho _ (List.getElem_mem hlt)
theorem StoT.sound {p : Prog} {t : List (List Ins)} (h : StoT p.threads t) (hl : t.length = p.threads.length) (hp : SoundP p) : SoundP (thrP p t) :=
  hp.other rfl rfl rfl rfl rfl rfl hl fun k x y hx hy => ⟨(h.one k x y hx hy).len,fun hx' => (h.one k x y hx hy).ok hx'⟩
def qWq (p : Prog) (x : RunR) (v : Nat) : Prop := v < 8 ∧ ∃ (k i : Nat) (a : Ev),x.trace[i]? = some a ∧ a.op = 8 ∧ a.obj = (v : Int) ∧ a.thread = (k : Int) ∧ (∀ (m : Nat) (c : Ev),i < m → x.trace[m]? = some c → c.thread = (k : Int) → qIu c.op = false) ∧ ∀ (t : List Ins) (pc : Nat),p.threads[k]? = some t → x.s.at_[k]? = some (pc : Int) → ¬ Nd t v pc
structure StI (p : Prog) (x y : RunR) : Prop where
  at_ : y.s.at_ = x.s.at_
  r : y.s.r = x.s.r
  g : y.s.g = { x.s.g with vars := y.s.g.vars }
  vlen : y.s.g.vars.length = x.s.g.vars.length
  picks : y.picks = x.picks
  like : Like x.trace y.trace
  diff : ∀ v : Nat,y.s.g.vars[v]? ≠ x.s.g.vars[v]? → qWq p x v
section
variable {p q : Prog} {outs : List (List Ins)} {x y : RunR}
theorem StI.twin (hf : StoT p.threads outs) (hl : outs.length = p.threads.length) (hqe : q = thrP p outs) (h : StI p x y) : Twin p q x.s y.s := by
  subst hqe
  refine ⟨hl,fun k a b ha hb => (hf.one k a b ha hb).len,h.at_,by rw [h.g],by rw [h.g],fun k a b i c d ha hb hat hc hd => ?_⟩
  have hbl : ∀ e,qCs p.chans y.s.g e = qCs p.chans x.s.g e := fun e => by rw [h.g]; rfl
  show qCs p.chans y.s.g d = _
  rcases (hf.one k a b ha hb).at' hc hd with ⟨hg,e⟩ | ⟨_,e⟩
  · rw [e]
    have h8 := hg.1
    have : ∀ g,qCs p.chans g c = false := fun g => by simp [qCs,h8]
    rw [this]; rfl
  · rw [e]; exact hbl c
theorem qWq.carry {v n i : Nat} {t : List Ins} {c : Ins} {r : List Int} {x' : RunR} {j : Nat} (w : qWq p x v) (A : At p x.s n t i c r) (hlt : i < t.length) (hlay : lays v c = false)
    (htr : x'.trace = x.trace ++ [(exec n i c r x.s.g).e]) (hat : x'.s.at_ = x.s.at_.set n (exec n i c r x.s.g).pc) (hj : (exec n i c r x.s.g).pc = (j : Int)) (hjn : (j : Int) ∈ qDd i c) : qWq p x' v := by
  obtain ⟨v8,k,i0,a,h1,h2,h3,h4,h5,h6⟩ := w
  obtain ⟨e1,e2⟩ := qUl A.ok n i r x.s.g
  refine ⟨v8,k,i0,a,?_,h2,h3,h4,fun m d hm hd hk => ?_,fun t' pc ht' hpc => ?_⟩
  · rw [htr,List.getElem?_append_left (List.getElem?_eq_some_iff.1 h1).1,h1]
  · rw [htr] at hd
    rcases Nat.lt_or_ge m x.trace.length with hm2 | hm2
    · rw [List.getElem?_append_left hm2] at hd
      exact h5 m d hm hd hk
    · have := (List.getElem?_eq_some_iff.1 hd).1
      simp at this
      obtain rfl : m = x.trace.length := by omega
      simp at hd
      rw [← hd,e1] at hk
      obtain rfl : n = k := by omega
      have := h6 t i A.thr A.pc
      rw [qRz v8 A.ins] at this
      rw [← hd,e2]
      cases hr : qIu c.op with
      | false => rfl
      | true => exact absurd (Or.inl (by simp [qTz,hr])) this
  · rw [hat,List.getElem?_set] at hpc
    split at hpc
    · rename_i e
      subst e
      split at hpc
      · injection hpc with hpc
        have hjp : pc = j := by omega
        subst hjp
        rw [A.thr] at ht'; cases ht'
        intro hnd
        have := h6 t i A.thr A.pc
        rw [qRz v8 A.ins] at this
        exact this (.inr ⟨hlay,_,hjn,hnd⟩)
      · cases hpc
    · exact h6 t' pc ht' hpc
theorem StI.step {T rest : List Ev} (hp : SoundP p) (hq : SoundP q) (hf : StoT p.threads outs) (hl : outs.length = p.threads.length) (hqe : q = thrP p outs) (hx : Shape p x.s) (hy : Shape q y.s) (h : StI p x y) (hnr : qJu p T) (hth : ∀ e ∈ T,0 ≤ e.thread ∧ e.thread < 6) (k : Int) (hT : T = (qFw p x k).trace ++ rest) : StI p (qFw p x k) (qFw q y k) := by
  have tw := h.twin hf hl hqe
  have hcan := tw.can hx k
  cases hc : canM p x.s k with
  | false =>
    unfold qFw
    rw [qJy hc,qJy (by rw [hcan,hc])]
    exact h
  | true =>
    obtain ⟨n,t,i,c,r,rfl,A,hb,e⟩ := hx.at' hp hc
    obtain ⟨n',t',i',c',r',en,A',hb',e'⟩ := hy.at' hq (by rw [hcan,hc])
    obtain rfl : n = n' := by omega
    have hi : i' = i := by have := A'.pc; rw [h.at_,A.pc] at this; injection this with this; omega
    subst hi
    have hr : r' = r := by have := A'.regs; rw [h.r,A.regs] at this; injection this with this; exact this.symm
    subst hr
    have hlt := (List.getElem?_eq_some_iff.1 A.ins).1
    obtain ⟨j,hj,hjn,hjl⟩ := qQe A.ok hlt n r' x.s.g
    obtain ⟨e1,e2⟩ := qUl A.ok n i' r' x.s.g
    have sp : qFw p x (n : Int) = ⟨⟨x.s.at_.set n (exec n i' c r' x.s.g).pc,x.s.r.set n (exec n i' c r' x.s.g).r,(exec n i' c r' x.s.g).g⟩,x.picks ++ [(n : Int)],x.trace ++ [(exec n i' c r' x.s.g).e]⟩ := by
      unfold qFw; rw [e]; rfl
    have sq : qFw q y (n : Int) = ⟨⟨y.s.at_.set n (exec n i' c' r' y.s.g).pc,y.s.r.set n (exec n i' c' r' y.s.g).r,(exec n i' c' r' y.s.g).g⟩,y.picks ++ [(n : Int)],y.trace ++ [(exec n i' c' r' y.s.g).e]⟩ := by
      unfold qFw; rw [e']; rfl
    have hcc : (Gone t i' c ∧ c' = nopI) ∨ (¬ Gone t i' c ∧ c' = c) := by
      have hthr : outs[n]? = some t' := by have := A'.thr; rw [hqe] at this; exact this
      exact (hf.one n t t' A.thr hthr).at' A.ins A'.ins
    rw [sp] at hT
    rw [sp,sq]
    obtain ⟨E,hE⟩ : ∃ E,E = (exec n i' c r' x.s.g).e := ⟨_,rfl⟩
    rw [← hE] at e1 e2
    have hTN : T[x.trace.length]? = some E := by
      rw [hT,hE]; simp
    have hTl : ∀ m d,x.trace[m]? = some d → T[m]? = some d := fun m d hd => by
      have := (List.getElem?_eq_some_iff.1 hd).1
      rw [hT,List.append_assoc,List.getElem?_append_left this,hd]
    have hTm : ∀ m d,m < x.trace.length → T[m]? = some d → x.trace[m]? = some d := fun m d hm hd => by
      rw [hT,List.append_assoc,List.getElem?_append_left hm] at hd; exact hd
    obtain ⟨hv7,hv8⟩ := vals_of hp A.ok
    have key : ∀ v : Nat,E.obj = (v : Int) → (c.op = 7 ∨ c.op = 8) → y.s.g.vars[v]? ≠ x.s.g.vars[v]? → ¬ Nd t v i' ∧ v < 8 := by
      intro v hov hop hd
      obtain ⟨v8,k0,i0,a,h1,h2,h3,h4,h5,h6⟩ := h.diff v hd
      have hi0 := (List.getElem?_eq_some_iff.1 h1).1
      by_cases ek : k0 = n
      · subst ek
        exact ⟨h6 t i' A.thr A.pc,v8⟩
      · exfalso
        have hcf : qFm a E = true := by
          have t1 : qFh a = true := by simp [qFh,h2]
          have t2 : qFh E = true := by rcases hop with hop | hop <;> simp [qFh,e2,hop]
          have t3 : a.obj = E.obj := by rw [h3,hov]
          have t4 : a.thread ≠ E.thread := by rw [h4,e1]; omega
          simp [qFm,t1,t2,t3,t4,h2]
        have hB := hnr.ordered hth (hTl _ _ h1) hTN hi0 hcf
        obtain ⟨m,d,m1,m2,m3,m4,m5⟩ := hB.out (hTl _ _ h1) hTN (by rw [h4,e1]; omega)
        have m3' := hTm m d m2 m3
        rcases Nat.lt_or_ge i0 m with hm | hm
        · have := h5 m d hm m3' (by rw [m4,h4])
          rw [this] at m5; cases m5
        · obtain rfl : m = i0 := by omega
          rw [h1] at m3'; cases m3'
          rw [h2] at m5; cases m5
    have carry : ∀ v : Nat,y.s.g.vars[v]? ≠ x.s.g.vars[v]? → lays v c = false → qWq p ⟨⟨x.s.at_.set n (exec n i' c r' x.s.g).pc,x.s.r.set n (exec n i' c r' x.s.g).r,(exec n i' c r' x.s.g).g⟩,x.picks ++ [(n : Int)],x.trace ++ [E]⟩ v := fun v hd hlay =>
      (h.diff v hd).carry A hlt hlay (by rw [hE]) rfl hj hjn
    by_cases h8 : c.op = 8
    · obtain ⟨a0,a1,b0,b1⟩ := hv8 h8
      obtain ⟨v,hv⟩ : ∃ v : Nat,c.a = (v : Int) := ⟨c.a.toNat,by omega⟩
      have hvl : v < x.s.g.vars.length := by have := hx.vars; omega
      have hv8' : v < 8 := by have := hp.vars; omega
      have ex : ∀ g,exec n i' c r' g = ⟨(i' : Int) + 1,r',{ g with vars := sI g.vars c.a (gI r' c.b) },{ (⟨n,i',c.op,0,0,0⟩ : Ev) with obj := c.a,value := gI r' c.b }⟩ := fun g => by
        obtain ⟨op,a,b,d⟩ := c
        simp only at h8
        subst h8; rfl
      rw [ex] at hE hj carry
      have hob : E.obj = (v : Int) := by rw [hE]; exact hv
      have lay : ∀ u : Nat,lays u c = decide (u = v) := fun u => by
        unfold lays
        rw [h8,hv]
        by_cases e : u = v
        · subst e; simp
        · have : ¬ (v : Int) = (u : Int) := by omega
          simp [e,this]
      have sv : ∀ (l : List Int) (u : Nat) (w : Int),(sI l c.a w)[u]? = if u = v then (if u < l.length then some w else none) else l[u]? := fun l u w => by
        rw [qWv,hv,show ((v : Int)).toNat = v by omega]
      rcases hcc with ⟨hg,ec⟩ | ⟨hg,ec⟩
      · -- left out
        subst ec
        have ex2 : exec n i' nopI r' y.s.g = ⟨(i' : Int) + 1,r',y.s.g,⟨n,i',0,0,0,0⟩⟩ := rfl
        rw [ex,ex2]
        refine ⟨by rw [h.at_],by rw [h.r],by rw [h.g],by simp [sI,h.vlen],by rw [h.picks],h.like.snoc (.inr ⟨rfl,.inr h8,.inl rfl⟩),fun u hu => ?_⟩
        simp only at hu
        rw [sv] at hu
        by_cases eu : u = v
        · subst eu
          refine ⟨hv8',n,x.trace.length,E,by simp [hE],by rw [e2,h8],hob,e1,fun m d hm hd => ?_,fun t2 pc ht2 hpc => ?_⟩
          · have := (List.getElem?_eq_some_iff.1 hd).1
            simp at this; omega
          · rw [A.thr] at ht2; cases ht2
            simp only at hpc
            rw [List.getElem?_set_self (List.getElem?_eq_some_iff.1 A.pc).1] at hpc
            injection hpc with hpc
            simp only at hj
            have : pc = j := by omega
            subst this
            obtain ⟨_,u2,_,hu2,_,hgn⟩ := hg
            have : u2 = u := by omega
            subst this
            exact fun hnd => hgn ⟨pc,hjn,hnd⟩
        · rw [if_neg eu] at hu
          have := carry u hu (by rw [lay]; simp [eu])
          rw [hE] at this
          exact this
      · subst ec
        rw [ex,ex]
        refine ⟨by rw [h.at_],by rw [h.r],by rw [h.g],by simp [sI,h.vlen],by rw [h.picks],h.like.snoc (.refl _),fun u hu => ?_⟩
        simp only at hu
        rw [sv,sv,h.vlen] at hu
        by_cases eu : u = v
        · rw [if_pos eu,if_pos eu] at hu; exact absurd rfl hu
        · rw [if_neg eu,if_neg eu] at hu
          have := carry u hu (by rw [lay]; simp [eu])
          rw [hE] at this
          exact this
    · have ec : c' = c := by
        rcases hcc with ⟨hg,_⟩ | ⟨_,ec⟩
        · exact absurd hg.1 h8
        · exact ec
      subst ec
      have lay : ∀ u : Nat,lays u c' = false := fun u => by unfold lays; simp [h8]
      by_cases h7 : c'.op = 7
      · obtain ⟨b0,b1,a0,a1⟩ := hv7 h7
        obtain ⟨v,hv⟩ : ∃ v : Nat,c'.b = (v : Int) := ⟨c'.b.toNat,by omega⟩
        have ex : ∀ g,exec n i' c' r' g = ⟨(i' : Int) + 1,sI r' c'.a (gI g.vars c'.b),g,{ (⟨n,i',c'.op,0,0,0⟩ : Ev) with obj := c'.b,value := gI g.vars c'.b }⟩ := fun g => by
          obtain ⟨op,a,b,d⟩ := c'
          simp only at h7
          subst h7; rfl
        have hob : E.obj = (v : Int) := by rw [hE,ex]; exact hv
        have hsame : y.s.g.vars[v]? = x.s.g.vars[v]? := by
          rcases Classical.em (y.s.g.vars[v]? = x.s.g.vars[v]?) with hd | hd
          · exact hd
          · exfalso
            obtain ⟨hn,v8⟩ := key v hob (.inl h7) hd
            rw [qRz v8 A.ins] at hn
            exact hn (.inl (by simp [qTz,h7,hv]))
        have hgv : gI y.s.g.vars c'.b = gI x.s.g.vars c'.b := gI_vars (by omega) hv hsame
        rw [ex] at hE carry
        rw [ex,ex,hgv]
        refine ⟨by rw [h.at_],by rw [h.r],h.g,h.vlen,by rw [h.picks],h.like.snoc (.refl _),fun u hu => ?_⟩
        have := carry u hu (lay u)
        rw [hE] at this
        exact this
      · obtain ⟨x1,x2⟩ := exec_vars A.ok h7 h8 n i' r' x.s.g y.s.g.vars
        rw [← h.g] at x1
        rw [x1]
        refine ⟨by rw [h.at_],by rw [h.r],rfl,by simp only; rw [x2]; exact h.vlen,by rw [h.picks],h.like.snoc (.refl _),fun u hu => ?_⟩
        simp only at hu
        rw [x2] at hu
        have := carry u hu (lay u)
        rw [hE] at this
        exact this
theorem stores_runs (hp : SoundP p) (hq : SoundP q) (hf : StoT p.threads outs) (hl : outs.length = p.threads.length) (hqe : q = thrP p outs) (hn : newM q = newM p) (ks : List Int) (hnr : qJu p (runR p ks).trace) : StI p (runR p ks) (runR q ks) := by
  have hth := qJz hp ks
  suffices hh : ∀ (l : List Int) (x y : RunR),Shape p x.s → Shape q y.s → StI p x y → (l.foldl (qFw p) x).trace = (runR p ks).trace → StI p (l.foldl (qFw p) x) (l.foldl (qFw q) y) by
    refine hh ks _ _ (qLu hp) (qLu hq) ⟨by simp only; rw [hn],by simp only; rw [hn],by simp only; rw [hn],by simp only; rw [hn],rfl,.nil,fun v hv => ?_⟩ rfl
    simp only at hv
    rw [hn] at hv
    exact absurd rfl hv
  intro l
  induction l with
  | nil => intro x y _ _ h _; exact h
  | cons k l ih =>
    intro x y hx hy h hT
    rw [List.foldl_cons] at hT ⊢
    obtain ⟨rest,hr⟩ := run_pre p l (qFw p x k)
    rw [hT] at hr
    have s1 : Shape p (qFw p x k).s := by
      unfold qFw
      split
      · exact (qHm hp hx k).1
      · exact hx
    have s2 : Shape q (qFw q y k).s := by
      unfold qFw
      split
      · exact (qHm hq hy k).1
      · exact hy
    exact ih _ _ s1 s2 (h.step hp hq hf hl hqe hx hy hnr hth k hr) hT
end
end Pm
