/- The pure machine, fourth part: code and calls; that what is shown on it holds of the abstract machine's.
   No condition: plain lemmas. -/
import Derived.Test.YtdiggaadgjkgkaaGreatDoorZNPm1
namespace Pm
set_option linter.unusedSimpArgs false
set_option linter.unusedVariables false
open Go Am

/-! ### Nothing of one's own any more -/
def qCf:Value→Bool
  | .bool _ | .int _ _ | .string _ | .pointer none | .slice none 0 0 | .nilFunc | .nilIface=>true
  | .func (.yield _) _ _=>true
  | _=>false
def seg (cs:List Value) (off k:Nat):List Value:=(cs.drop off).take k
def frzC (h:Heap):Value→Option (Value×Heap)
  | .slice (some ⟨id,off,none⟩) n ver =>
    match h.row? id ver with
    | some r=>if off+n * r.esz≤r.cells.length∧(seg r.cells off (n * r.esz)).all qCf=true then some (lst r.esz n (seg r.cells off (n * r.esz)),h.set id (.row { r with rw:=false })) else none
    | none=>none
  | .pointer (some ⟨id,off,some ver⟩) =>
    match h.row? id ver with
    | some r=>if off≤r.cells.length∧(r.cells.drop off).all qCf=true then some (fptr (r.cells.drop off),h.set id (.row { r with rw:=false })) else none
    | none=>none
  | v=>if qCf v=true then some (v,h) else none
def qTb (h:Heap):List Value→Option (List Value×Heap)
  | []=>some ([],h)
  | c :: cs=>match frzC h c with
    | some (c',h')=>match qTb h' cs with
      | some (cs',h'')=>some (c' :: cs',h'')
      | none=>none
    | none=>none
def frzV (h:Heap) (e:Nat):Value→Option (Value×Heap)
  | .slice none 0 0=>some (lst e 0 [],h)
  | .agg cs=>(qTb h cs.toList).map fun x=>(.agg x.1.toArray,x.2)
  | v=>frzC h v

section
variable {h H : Heap} {m : Map}
theorem qKg {W:Nat→Prop} {c v:Value} (hr:R W H m c v) (hc:qCf c=true) (m':Map):R W H m' c v:=by
  cases hr with
  | bool b=>exact .bool b
  | int k n=>exact .int k n
  | string s=>exact .string s
  | ptrNil=>exact .ptrNil
  | sliceNil=>exact .sliceNil
  | nilFunc=>exact .nilFunc
  | nilIface=>exact .nilIface
  | ptr h=>cases hc
  | slice h=>cases hc
  | lstNil=>exact .lstNil
  | lst hr hf he hl hb hc'=>exact .lst hr hf he hl hb hc'
  | fptr hr hf hb hc'=>exact .fptr hr hf hb hc'
  | agg=>cases hc
  | tup=>cases hc
  | func=>cases hc

theorem PRel.lock (hP:PRel m h H) {id:Nat} {r:Row} (hr:h[id]?=some (.row r)):PRel m (h.set id (.row { r with rw:=false })) H∧(∀ a,Wr m (h.set id (.row { r with rw:=false })) a→Wr m h a)∧∀ a,m id=some a→¬ Wr m (h.set id (.row { r with rw:=false })) a:=by
  have hil:id < h.length:=(List.getElem?_eq_some_iff.1 hr).1;have hw:∀ a,Wr m (h.set id (.row { r with rw:=false })) a→Wr m h a:=by
    rintro b ⟨i,q,h1,h2,h3⟩
    by_cases hi:i=id
    . subst hi; rw [List.getElem?_set_self hil] at h1; cases h1; cases h2
    . rw [List.getElem?_set_ne (fun x=>hi x.symm)] at h1; exact ⟨i,q,h1,h2,h3⟩
  refine ⟨⟨fun i q hq=>?_,hP.inj,fun i a ha=>by simpa using hP.dom i a ha⟩,hw,fun a ha=>?_⟩
  . by_cases hi:i=id
    . subst hi
      rw [List.getElem?_set_self hil] at hq; cases hq;obtain ⟨b,q',k1,k2,k3,k4,k5,k6⟩:=hP.row i r hr;exact ⟨b,q',k1,k2,k3,k4,fun x=>by (cases x),k6.mono (.less hw) (.refl m)⟩
    . rw [List.getElem?_set_ne (fun x=>hi x.symm)] at hq
      obtain ⟨b,q',k1,k2,k3,k4,k5,k6⟩:=hP.row i q hq;exact ⟨b,q',k1,k2,k3,k4,k5,k6.mono (.less hw) (.refl m)⟩
  . rintro ⟨i,q,h1,h2,h3⟩
    have hi:=hP.inj _ _ _ h3 ha;subst hi;rw [List.getElem?_set_self hil] at h1; cases h1; cases h2

def Frozen (m:Map) (h H:Heap) (v' av:Value) (h':Heap):Prop:=PRel m h' H∧R (Wr m h') H m v' av∧(∀ a,Wr m h' a→Wr m h a)

theorem frzC_R (hP:PRel m h H) {v av v':Value} {h':Heap} (hr:R (Wr m h) H m v av) (hf:frzC h v=some (v',h')):Frozen m h H v' av h':=by
  unfold frzC at hf
  split at hf
  . rename_i id off n ver
    split at hf
    . rename_i r hrow
      split at hf
      . rename_i hc
        cases hf;obtain ⟨q1,q2,q3⟩:=hP.lock (Heap.row?_some hrow).1;obtain ⟨a,r',k1,k2,k3,k4,k5,k6⟩:=hP.row? hrow;cases hr with
        | slice hm =>
          rw [k1] at hm; cases hm;refine ⟨q1,.lst k2 (q3 a k1) k3 ?_ (by rw [← k6.length]; exact hc.1) fun j c v h1 h2=>?_,q2⟩
          . simp [seg]; omega
          . have hcl:=List.all_eq_true.1 hc.2 c (List.mem_of_getElem? h1)
            unfold seg at h1;rw [List.getElem?_take] at h1
            split at h1
            . rw [List.getElem?_drop] at h1
              exact qKg ((k6.get _ _ _ h1 h2).mono (.less q2) (.refl m)) hcl _
            . cases h1
      . cases hf
    . cases hf
  . rename_i id off ver
    split at hf
    . rename_i r hrow
      split at hf
      . rename_i hc
        cases hf;obtain ⟨q1,q2,q3⟩:=hP.lock (Heap.row?_some hrow).1;obtain ⟨a,r',k1,k2,k3,k4,k5,k6⟩:=hP.row? hrow;cases hr with
        | ptr hm =>
          rw [k1] at hm; cases hm;refine ⟨q1,.fptr k2 (q3 a k1) (fun _=>by rw [← k6.length]; simp; omega) fun j c v h1 h2=>?_,q2⟩
          have hcl:=List.all_eq_true.1 hc.2 c (List.mem_of_getElem? h1);rw [List.getElem?_drop] at h1;exact qKg ((k6.get _ _ _ h1 h2).mono (.less q2) (.refl m)) hcl _
      . cases hf
    . cases hf
  . split at hf
    . cases hf; exact ⟨hP,hr,fun _ h=>h⟩
    . cases hf

theorem frzCs_R:∀ {cs acs cs':List Value} {h h':Heap},PRel m h H→Rs (Wr m h) H m cs acs→qTb h cs=some (cs',h')→PRel m h' H∧Rs (Wr m h') H m cs' acs∧(∀ a,Wr m h' a→Wr m h a)
  | [],_,_,_,_,hP,hr,hf=>by cases hr; cases hf; exact ⟨hP,.nil,fun _ h=>h⟩
  | c :: cs,_,_,h,_,hP,hr,hf=>by
    cases hr with
    | cons h1 h2 =>
      simp only [qTb] at hf
      split at hf
      . rename_i c' h1' hc
        obtain ⟨k1,k2,k3⟩:=frzC_R hP h1 hc
        split at hf
        . rename_i cs' h2' hcs
          cases hf;obtain ⟨q1,q2,q3⟩:=frzCs_R k1 (h2.mono (.less k3) (.refl m)) hcs;exact ⟨q1,.cons (k2.mono (.less q3) (.refl m)) q2,fun a x=>k3 a (q3 a x)⟩
        . cases hf
      . cases hf
theorem frzV_R (hP:PRel m h H) {e:Nat} {v av v':Value} {h':Heap} (hr:R (Wr m h) H m v av) (hf:frzV h e v=some (v',h')):Frozen m h H v' av h':=by
  unfold frzV at hf
  split at hf
  . cases hf; cases hr; exact ⟨hP,.lstNil,fun _ h=>h⟩
  . rename_i cs
    obtain ⟨x,hx,e1⟩:=Option.map_eq_some_iff.1 hf;cases e1;obtain ⟨ys,rfl,hrs⟩:=hr.agg_list;obtain ⟨q1,q2,q3⟩:=frzCs_R hP hrs hx;exact ⟨q1,.agg' (by simpa using q2),q3⟩
  . exact frzC_R hP hr hf
end

/-! ### Calls -/
def qBl (P:Program) (f:FuncId) (args:List Value) (h:Heap) (K:Value→Heap→Prop):Prop :=
  ∀ (m:Map) (H:Heap) (vals:List Value),PRel m h H→Rs (Wr m h) H m args vals →
    qCq P f vals H fun v H'=>∃ p h' m',K p h'∧PRel m' h' H'∧R (Wr m' h') H' m' p v∧MLe m m'∧Stp (Wr m h) H (Wr m' h') H'
theorem qBl.mono {P:Program} {f:FuncId} {args:List Value} {h:Heap} {K K':Value→Heap→Prop} (k:qBl P f args h K) (hk:∀ v h',K v h'→K' v h'):qBl P f args h K' :=
  fun m H vals hP hr=>(k m H vals hP hr).mono fun _ _ ⟨p,h',m',q,r⟩=>⟨p,h',m',hk _ _ q,r⟩

/-! ### Code -/
def lockAll (h:Heap):Heap:=h.map fun o=>match o with | .row r=>.row { r with rw:=false } | o=>o
theorem qLb {h:Heap} {id:Nat}:(lockAll h)[id]?=(h[id]?).map fun o=>match o with | .row r=>.row { r with rw:=false } | o=>o:=by simp [lockAll]
inductive Inl (b:Nat) (h:Heap):Value→Value→Prop
  | cell {v:Value} (hc:qCf v=true):Inl b h v v
  | nil {e:Nat}:Inl b h (.slice none 0 0) (lst e 0 [])
  | row {id off n ver:Nat} {r:Row} {cs:List Value} (hb:b≤id) (hr:h.row? id ver=some r) (hl:off+n * r.esz≤r.cells.length) (hn:cs.length=n * r.esz)
      (hc:∀ (j:Nat) (c c':Value),r.cells[off+j]?=some c→cs[j]?=some c'→Inl b h c c'):Inl b h (.slice (some ⟨id,off,none⟩) n ver) (lst r.esz n cs)
  | agg {xs ys:Array Value} (hs:xs.size=ys.size) (hc:∀ (i:Nat) (x y:Value),xs[i]?=some x→ys[i]?=some y→Inl b h x y):Inl b h (.agg xs) (.agg ys)
  | tup {xs ys:Array Value} (hs:xs.size=ys.size) (hc:∀ (i:Nat) (x y:Value),xs[i]?=some x→ys[i]?=some y→Inl b h x y):Inl b h (.tuple xs) (.tuple ys)

def Inls (b:Nat) (h:Heap):List Value→List Value→Prop
  | [],[]=>True
  | x :: xs,y :: ys=>Inl b h x y∧Inls b h xs ys
  | _,_=>False
theorem Inls.get {b:Nat} {h:Heap}:∀ {xs ys:List Value},Inls b h xs ys→xs.length=ys.length∧∀ (i:Nat) (x y:Value),xs[i]?=some x→ys[i]?=some y→Inl b h x y
  | [],[],_=>⟨rfl,fun i x y h=>by simp at h⟩
  | [],_ :: _,h=>h.elim
  | _ :: _,[],h=>h.elim
  | x :: xs,y :: ys,h=>by
    obtain ⟨h1,h2⟩:=Inls.get h.2;refine ⟨by simp [h1],fun i a c ha hc=>?_⟩
    cases i with
    | zero=>simp at ha hc; subst ha; subst hc; exact h.1
    | succ i=>exact h2 i a c (by simpa using ha) (by simpa using hc)
theorem Inls.agg {b:Nat} {h:Heap} {xs ys:List Value} (k:Inls b h xs ys):Inl b h (.agg xs.toArray) (.agg ys.toArray) :=
  .agg (by simpa using k.get.1) fun i x y hx hy=>k.get.2 i x y (by simpa using hx) (by simpa using hy)
theorem Inls.tup {b:Nat} {h:Heap} {xs ys:List Value} (k:Inls b h xs ys):Inl b h (.tuple xs.toArray) (.tuple ys.toArray) :=
  .tup (by simpa using k.get.1) fun i x y hx hy=>k.get.2 i x y (by simpa using hx) (by simpa using hy)
theorem Inl.R {b:Nat} {h H:Heap} {m:Map} (hP:PRel m h H) {W:Nat→Prop} (hW:∀ a,W a→∃ id,id < b∧m id=some a) {v p:Value} (hi:Inl b h v p):∀ {av:Value},Pm.R (Wr m h) H m v av→(∀ a,W a→Wr m h a)→Pm.R W H Map.none p av:=by
  induction hi with
  | cell hc=>intro av hr hw; exact qKg (hr.mono (.less hw) (.refl m)) hc _
  | nil=>intro av hr hw; cases hr; exact .lstNil
  | row hb hr hl hn hc ih =>
    intro av hra hw;obtain ⟨a,r',k1,k2,k3,k4,k5,k6⟩:=hP.row? hr;cases hra with
    | slice hm =>
      rw [k1] at hm; cases hm;refine .lst k2 (fun x=>?_) k3 hn (by rw [← k6.length]; exact hl) fun j c v h1 h2=>?_
      . obtain ⟨id',h1,h2⟩:=hW a x
        have:=hP.inj _ _ _ k1 h2; omega
      . have hlt:=(List.getElem?_eq_some_iff.1 h2).1
        rw [← k6.length] at hlt;have hc0:=List.getElem?_eq_getElem hlt;exact ih j _ c hc0 h1 (k6.get _ _ _ hc0 h2) hw
  | agg hs hc ih =>
    intro av hr hw;obtain ⟨ys,rfl,hrs⟩:=hr.agg_list;refine .agg (by rw [← hs]; simpa using hrs.length) fun i x y hx hy=>?_
    obtain ⟨z,hz⟩:=qCk (hs ▸ qCi hx);exact ih i z x hz hx (hrs.get i z y (by simpa using hz) (by simpa using hy)) hw
  | tup hs hc ih =>
    intro av hr hw;obtain ⟨ys,rfl,hrs⟩:=hr.tup_list;refine .tup (by rw [← hs]; simpa using hrs.length) fun i x y hx hy=>?_
    obtain ⟨z,hz⟩:=qCk (hs ▸ qCi hx);exact ih i z x hz hx (hrs.get i z y (by simpa using hz) (by simpa using hy)) hw

theorem Inl.R2 {b:Nat} {hs h H:Heap} {m:Map} (hP:PRel m h H) (hx:∀ (id ver:Nat) (r:Row),hs.row? id ver=some r→h.row? id ver=some r) {W:Nat→Prop} (hW:∀ a,W a→∃ id,(id < b∨hs.length≤id)∧m id=some a) {v p:Value} (hi:Inl b hs v p):∀ {av:Value},Pm.R (Wr m h) H m v av→(∀ a,W a→Wr m h a)→Pm.R W H Map.none p av:=by
  induction hi with
  | cell hc=>intro av hr hw; exact qKg (hr.mono (.less hw) (.refl m)) hc _
  | nil=>intro av hr hw; cases hr; exact .lstNil
  | row hb hr hl hn hc ih =>
    intro av hra hw;have hlen:=row?_lt hr;obtain ⟨a,r',k1,k2,k3,k4,k5,k6⟩:=hP.row? (hx _ _ _ hr);cases hra with
    | slice hm =>
      rw [k1] at hm; cases hm;refine .lst k2 (fun x=>?_) k3 hn (by rw [← k6.length]; exact hl) fun j c v h1 h2=>?_
      . obtain ⟨id',h1,h2⟩:=hW a x
        have:=hP.inj _ _ _ k1 h2; omega
      . have hlt:=(List.getElem?_eq_some_iff.1 h2).1
        rw [← k6.length] at hlt;have hc0:=List.getElem?_eq_getElem hlt;exact ih j _ c hc0 h1 (k6.get _ _ _ hc0 h2) hw
  | agg hs hc ih =>
    intro av hr hw;obtain ⟨ys,rfl,hrs⟩:=hr.agg_list;refine .agg (by rw [← hs]; simpa using hrs.length) fun i x y hx hy=>?_
    obtain ⟨z,hz⟩:=qCk (hs ▸ qCi hx);exact ih i z x hz hx (hrs.get i z y (by simpa using hz) (by simpa using hy)) hw
  | tup hs hc ih =>
    intro av hr hw;obtain ⟨ys,rfl,hrs⟩:=hr.tup_list;refine .tup (by rw [← hs]; simpa using hrs.length) fun i x y hx hy=>?_
    obtain ⟨z,hz⟩:=qCk (hs ▸ qCi hx);exact ih i z x hz hx (hrs.get i z y (by simpa using hz) (by simpa using hy)) hw
def qSg (h:Heap) (K:Heap→Prop):Prop:=∃ (h0 h1:Heap) (r:Row) (cs:List Value),h=(h0++h1)++[.row r]∧Inls h0.length (h0++h1) r.cells cs∧K ((h0++lockAll h1)++[.row { r with cells:=cs }])
theorem qSg.mono {h:Heap} {K K':Heap→Prop} (hh:qSg h K) (hk:∀ h',K h'→K' h'):qSg h K':=by
  obtain ⟨h0,h1,r,cs,e,hi,k⟩:=hh;exact ⟨h0,h1,r,cs,e,hi,hk _ k⟩
theorem seal_R {m:Map} {h0 h1 H:Heap} {r:Row} {cs:List Value} (hP:PRel m ((h0++h1)++[.row r]) H) (hi:Inls h0.length (h0++h1) r.cells cs):PRel m ((h0++lockAll h1)++[.row { r with cells:=cs }]) H∧∀ a,Wr m ((h0++lockAll h1)++[.row { r with cells:=cs }]) a→Wr m ((h0++h1)++[.row r]) a:=by
  have hll:(lockAll h1).length=h1.length:=by simp [Pm.lockAll]
  have old:∀ (id:Nat) (r1:Row),((h0++lockAll h1)++[.row { r with cells:=cs }])[id]?=some (.row r1) →
      (id < h0.length∧((h0++h1)++[.row r])[id]?=some (.row r1))∨(h0.length≤id∧r1.rw=false∧∃ b,((h0++h1)++[.row r])[id]?=some (.row { r1 with rw:=b }))∨(id=(h0++h1).length∧r1={ r with cells:=cs }):=by
    intro id r1 hr;rcases Nat.lt_or_ge id h0.length with h | h
    . rw [List.append_assoc,List.getElem?_append_left h] at hr
      exact .inl ⟨h,by rw [List.append_assoc,List.getElem?_append_left h]; exact hr⟩
    . rcases Nat.lt_or_ge id (h0++h1).length with h2 | h2
      . refine .inr (.inl ⟨h,?_⟩)
        rw [List.getElem?_append_left (by simp [hll] at h2 ⊢; exact h2),List.getElem?_append_right h,qLb] at hr
        rw [List.getElem?_append_left h2,List.getElem?_append_right h];cases ho:h1[id - h0.length]? with
        | none=>rw [ho] at hr; cases hr
        | some o =>
          rw [ho] at hr;cases o<;>simp at hr;rename_i r0;subst hr;exact ⟨rfl,r0.rw,rfl⟩
      . refine .inr (.inr ?_)
        have hl:=(List.getElem?_eq_some_iff.1 hr).1;simp [hll] at hl h2;have e:id=(h0++lockAll h1).length:=by simp [hll]; omega
        subst e;simp at hr;exact ⟨by simp [hll],hr.symm⟩
  have hw:∀ a,Wr m ((h0++lockAll h1)++[.row { r with cells:=cs }]) a→Wr m ((h0++h1)++[.row r]) a∧∃ id,(id < h0.length∨(h0++h1).length≤id)∧m id=some a:=by
    rintro a ⟨id,r1,q1,q2,q3⟩;rcases old id r1 q1 with ⟨g1,g2⟩ | ⟨g1,g2,_⟩ | ⟨g1,g2⟩
    . exact ⟨⟨id,r1,g2,q2,q3⟩,id,.inl g1,q3⟩
    . rw [g2] at q2; cases q2
    . subst g2
      exact ⟨⟨id,r,by rw [g1]; simp,q2,q3⟩,id,.inr (by omega),q3⟩
  have hw1:∀ a,Wr m ((h0++lockAll h1)++[.row { r with cells:=cs }]) a→Wr m ((h0++h1)++[.row r]) a:=fun a ha=>(hw a ha).1
  refine ⟨⟨fun id r1 hr=>?_,hP.inj,fun id a ha=>⟨by have:=(hP.dom id a ha).1; simp [hll] at this ⊢; exact this,(hP.dom id a ha).2⟩⟩,hw1⟩
  rcases old id r1 hr with ⟨g1,g2⟩ | ⟨g1,g2,b,g3⟩ | ⟨g1,g2⟩
  . obtain ⟨a,r',k1,k2,k3,k4,k5,k6⟩:=hP.row id r1 g2
    exact ⟨a,r',k1,k2,k3,k4,k5,k6.mono (.less hw1) (.refl m)⟩
  . obtain ⟨a,r',k1,k2,k3,k4,k5,k6⟩:=hP.row id _ g3
    exact ⟨a,r',k1,k2,k3,k4,(fun e=>by rw [g2] at e; cases e),k6.mono (.less hw1) (.refl m)⟩
  . subst g2
    obtain ⟨a,r',k1,k2,k3,k4,k5,k6⟩:=hP.row id r (by rw [g1]; simp)
    obtain ⟨i1,i2⟩:=hi.get;refine ⟨a,r',k1,k2,k3,k4,k5,.of_get (by rw [← i1]; exact k6.length) fun i p v h1' h2'=>?_⟩
    obtain ⟨x,hx⟩:∃ x,r.cells[i]?=some x:=⟨_,List.getElem?_eq_getElem (by rw [i1]; exact (List.getElem?_eq_some_iff.1 h1').1)⟩
    refine ((i2 i x p hx h1').R2 hP (fun id ver r2 hr2=>?_) (W:=Wr m ((h0++lockAll h1)++[.row { r with cells:=cs }])) (fun a ha=>(hw a ha).2) (k6.get i x v hx h2') hw1).mono (.refl _ _) (.none _)
    have hlt:=row?_lt hr2;rw [row?_same (H:=h0++h1) (by rw [List.getElem?_append_left hlt])]
    exact hr2
def qTo (P:Program) (f:FuncId) (args:List Value) (h:Heap) (K:Value→Heap→Prop):Prop :=
  ∀ (m:Map) (H:Heap) (vals:List Value),PRel m h H→Rs (Wr m h) H m args vals →
    qCq P f vals H fun v H'=>(∃ ext,H'=H++ext)∧∃ p h' m',K p h'∧PRel m' h' H'∧R (Wr m' h') H' m' p v∧MLe m m'∧Stp (Wr m h) H (Wr m' h') H'
def qOr (fr:Fr) (h:Heap):List QOp→Prop
  | []=>True
  | q :: qs=>okQ q=true∧(∃ v,pqop q fr h=some v)∧qOr fr h qs
def qOt (fr:Fr) (h:Heap):List QOp→Prop
  | []=>True
  | .load x :: qs=>okO x=true∧(∃ cs v,ev fr x=fptr cs∧pLd h (fptr cs)=some v)∧qOt fr h qs
  | .loadA n x :: qs=>okO x=true∧(∃ cs v,ev fr x=fptr cs∧pLdA h n (fptr cs)=some v)∧qOt fr h qs
  | _ :: _=>False
def pNil (x:Value) (b:Bool):Bool:=match qDx x with | some (_,n,_)=>!b || n == 0 | none=>qEr x b
theorem pNil_R {W:Nat→Prop} {H:Heap} {m:Map} {x x':Value} (hx:R W H m x x') {b:Bool} (hp:pNil x false=true):qEr x' false=true∧(qEr x' b=true→pNil x b=true):=by
  cases hx with
  | lst=>simp only [pNil,qCx,qEr]; exact ⟨rfl,id⟩
  | lstNil=>simp only [pNil,qCx,qEr]; exact ⟨rfl,fun _=>by simp⟩
  | slice=>simp only [pNil,qDx,qEr]; exact ⟨rfl,id⟩
  | sliceNil=>simp only [pNil,qDx,qEr]; exact ⟨rfl,id⟩
  | fptr=>simp only [pNil,asLst_fptr,fptr,qEr] at hp; cases hp
  | _=>simp [pNil,qDx,qEr] at hp
def qNy:Value→Bool
  | .slice (some _) _ _=>true
  | v=>qEt v
def qKz (fr:Fr) (h h':Heap):List QOp→Prop
  | []=>True
  | q :: qs=>okQ q=true∧(∃ v,qNy v=true∧pqop q fr h=some v∧pqop q fr h'=some v)∧qKz fr h h' qs
mutual
def pOps (P:Program) (K:Fr→Heap→Prop):List AIns→Fr→Heap→Prop
  | [],fr,h=>K fr h
  | ⟨d,g,o,fl⟩ :: is,fr,h=>if qCe fr g=true then pOp P K is d fl o fr h else pOps P K is (updO fr d (.tuple #[])) h
def pOp (P:Program) (K:Fr→Heap→Prop) (is:List AIns) (d:Option Nat) (fl:List QOp):AOp→Fr→Heap→Prop
  | .q (.fn (.yield e) [.tmp b]),fr,h=>match frzV h e (fr b) with | some (v,h')=>pOps P K is (upd fr b v) h' | none=>False
  | .q o,fr,h=>match pqop o fr h with | some v=>pOps P K is (updO fr d v) h | none=>False
  | .e o,fr,h=>match peop o fr h with | some (v,h')=>qKz fr h h' fl∧pOps P K is (updO fr d v) h' | none=>False
  | .call f args,fr,h=>qBl P f (args.map (ev fr)) h fun v h'=>qKz fr h h' fl∧pOps P K is (updO fr d v) h'
  | .callv g args,fr,h =>
    match ev fr g with
    | .func (.func f) first caps=>qCg P f=true∧qBl P f (first.toList++args.map (ev fr)++caps.toList) h fun v h'=>qKz fr h h' fl∧pOps P K is (updO fr d v) h'
    | _=>False
  | .st (.call f args),fr,h=>(qOr fr h fl∧qTo P f (args.map (ev fr)) h fun v h'=>pOps P K is (updO fr d v) h')∨(qOt fr h fl∧qBl P f (args.map (ev fr)) h fun v h'=>pOps P K is (updO fr d v) h')
  | .st (.e o),fr,h=>match peop o fr h with | some (v,h')=>qOr fr h fl∧pOps P K is (updO fr d v) h' | none=>False
  | .st (.q _),fr,h=>qSg h fun h'=>pOps P K is fr h'
  | .st _,_,_=>False
  | .nilT g x,fr,h=>pNil (ev fr x) false=true∧∀ b:Bool,pNil (ev fr x) b=true→pOps P K is (updO fr d (.bool (b != g))) h
end
def pwp (P:Program):AC→(Exit→Fr→Heap→Prop)→Fr→Heap→Prop
  | .skip,Q,fr,H=>Q .normal fr H
  | .ops is,Q,fr,H=>pOps P (Q .normal) is fr H
  | .seq a b,Q,fr,H=>pwp P a (SeqK (pwp P b Q) Q) fr H
  | .cond c a b,Q,fr,H=>qLh (pwp P a Q) (pwp P b Q) (ev fr c) fr H
  | .block id a,Q,fr,H=>pwp P a (qEu id Q) fr H
  | .loop a,Q,fr,H=>∃ n,rounds (pwp P a) Q n fr H
  | .exit id,Q,fr,H=>Q (.exit id) fr H
  | .label _,Q,fr,H=>Q .normal fr H
  | .goto l,Q,fr,H=>Q (.goto l) fr H
  | .scope l a rest,Q,fr,H=>∃ n,pwp P a (qGn l (qLd (pwp P rest) l Q n) Q) fr H
  | .ret,Q,fr,H=>Q .ret fr H

def erase:List AIns→List AIns
  | []=>[]
  | ⟨d,g,.q (.fn (.yield e) xs),fl⟩ :: is=>erase is
  | ⟨d,g,.st (.q _),fl⟩ :: is=>erase is
  | ⟨d,g,.st o,fl⟩ :: is=>⟨d,g,o,fl⟩ :: erase is
  | i :: is=>i :: erase is
def qGd:AC→AC
  | .ops is=>.ops (erase is)
  | .seq a b=>.seq (qGd a) (qGd b)
  | .cond c a b=>.cond c (qGd a) (qGd b)
  | .block id a=>.block id (qGd a)
  | .loop a=>.loop (qGd a)
  | .scope l a r=>.scope l (qGd a) (qGd r)
  | c=>c
def qCb (af:AFn):AFn:=⟨qGd af.body,af.results,af.ntmps⟩
def okI:AIns→Bool
  | ⟨_,none,.q (.fn (.yield _) xs),_⟩=>match xs with | [.tmp _]=>true | _=>false
  | ⟨_,_,.q (.fn (.yield _) _),_⟩=>false
  | ⟨_,_,.q o,_⟩=>okQ o
  | ⟨_,_,.e o,_⟩=>okE o
  | ⟨_,_,.call _ args,_⟩=>okL args
  | ⟨_,_,.callv g args,_⟩=>okO g && okL args
  | ⟨_,_,.nilT _ x,_⟩=>okO x
  | ⟨_,_,.st (.call _ args),_⟩=>okL args
  | ⟨_,_,.st (.e o),_⟩=>okE o && isMk o
  | ⟨_,none,.st (.q _),_⟩=>true
  | ⟨_,_,.st _,_⟩=>false
def okC:AC→Bool
  | .ops is=>is.all okI
  | .seq a b=>okC a && okC b
  | .cond c a b=>okO c && okC a && okC b
  | .block _ a=>okC a
  | .loop a=>okC a
  | .scope _ a r=>okC a && okC r
  | _=>true

def Lift (K:Fr→Heap→Prop) (m0:Map) (W0:Nat→Prop) (H0:Heap):Fr→Heap→Prop :=
  fun afr H=>∃ fr h m,K fr h∧PRel m h H∧FR (Wr m h) H m fr afr∧MLe m0 m∧Stp W0 H0 (Wr m h) H
def LiftE (Q:Exit→Fr→Heap→Prop) (m0:Map) (W0:Nat→Prop) (H0:Heap):Exit→Fr→Heap→Prop:=fun e=>Lift (Q e) m0 W0 H0

section
variable {P : Program} {m0 : Map} {W0 : Nat → Prop} {H0 : Heap}

theorem qJx {W:Nat→Prop} {H:Heap} {m:Map} {fr afr:Fr} (hF:FR W H m fr afr) (g:Option (Nat×Bool)):qCe afr g=qCe fr g:=by
  cases g with
  | none=>rfl
  | some p =>
    obtain ⟨d,b⟩:=p;have h:=hF d;simp only [qCe]
    generalize fr d=x at *
    generalize afr d=y at *
    cases h<;>rfl

theorem plainC_self {W:Nat→Prop} {H:Heap} {m:Map} {c v:Value} (hc:qDe c=true) (h:R W H m c v):v=c:=by
  unfold qDe at hc
  split at hc
  . exact qJh h
  . exact qFo h
  . exact qHh h
  . cases h; rfl
  . cases h; rfl
  . cases h; rfl
  . cases h; rfl
  . cases hc
theorem plainCs_self {W:Nat→Prop} {H:Heap} {m:Map}:∀ {cs vs:List Value},cs.all qDe=true→Rs W H m cs vs→vs=cs
  | [],_,_,h=>by cases h; rfl
  | c :: cs,_,hc,h=>by
    simp only [List.all_cons,Bool.and_eq_true] at hc;cases h with
    | cons h1 h2=>rw [plainC_self hc.1 h1,plainCs_self hc.2 h2]
theorem qJo {W:Nat→Prop} {H:Heap} {m:Map} {c v:Value} (hc:qEt c=true) (h:R W H m c v):v=c:=by
  unfold qEt at hc
  split at hc
  . rename_i cs
    obtain ⟨ys,rfl,hr⟩:=h.agg_list;have:=plainCs_self hc hr;rw [← Array.toArray_toList (xs:=ys),this]
  . rename_i cs
    have:cs=#[]:=by simpa using hc
    subst this;obtain ⟨ys,rfl,hr⟩:=h.tup_list;have:ys.toList=[]:=by
      generalize ys.toList=l at hr
      cases hr; rfl
    rw [← Array.toArray_toList (xs:=ys),this]
  . exact plainC_self hc h
theorem stayV_two {W W':Nat→Prop} {H H':Heap} {m m':Map} {c a b:Value} (hc:qNy c=true) (h:R W H m c a) (h':R W' H' m' c b) (he:MLe m m'):b=a:=by
  unfold qNy at hc
  split at hc
  . cases h with
    | slice hm =>
      cases h' with
      | slice hm' =>
        have:=he _ _ hm;rw [this] at hm';cases hm'
        rfl
  . rw [qJo hc h,qJo hc h']
theorem qLu {fr afr:Fr} {h h' H H':Heap} {m m':Map} (hP:PRel m h H) (hF:FR (Wr m h) H m fr afr) (hP':PRel m' h' H') (hF':FR (Wr m' h') H' m' fr afr) (he:MLe m m'):∀ {fl:List QOp},qKz fr h h' fl→qFm afr H H' fl
  | [],_=>trivial
  | q :: qs,⟨hq,⟨v,hv,e1,e2⟩,hs⟩=>by
    obtain ⟨a,k1,k2⟩:=qLy hP hF hq e1;obtain ⟨b,k3,k4⟩:=qLy hP' hF' hq e2;refine ⟨?_,qLu hP hF hP' hF' he hs⟩;rw [k1,k3,stayV_two hv k2 k4 he]

theorem qKp {fr afr:Fr} {h H:Heap} {m:Map} (hP:PRel m h H) (hF:FR (Wr m h) H m fr afr) {ext:Heap}:∀ {fl:List QOp},qOr fr h fl→qFm afr H (H++ext) fl
  | [],_=>trivial
  | q :: qs,⟨hq,⟨v,hv⟩,hs⟩=>by
    obtain ⟨a,k1,k2⟩:=qLy hP hF hq hv;refine ⟨?_,qKp hP hF hs⟩;rw [k1,qop_grow k1]
theorem qKq {fr afr:Fr} {h H H':Heap} {m:Map} {W':Nat→Prop} (hP:PRel m h H) (hF:FR (Wr m h) H m fr afr) (hS:Stp (Wr m h) H W' H'):∀ {fl:List QOp},qOt fr h fl→qFm afr H H' fl
  | [],_=>trivial
  | .load x :: qs,⟨hq,⟨cs,v,e,hv⟩,hs⟩=>by
    refine ⟨?_,qKq hP hF hS hs⟩;have hr:=hF.ev hq;rw [e] at hr
    generalize hx:ev afr x=x' at hr
    simp only [qop,hx];cases hr with
    | fptr hr hf hb hc =>
      simp only [ldV,Heap.cell?];rw [row?_same (hS.same _ (row?_lt hr) hf)]
  | .loadA n x :: qs,⟨hq,⟨cs,v,e,hv⟩,hs⟩=>by
    refine ⟨?_,qKq hP hF hS hs⟩;have hr:=hF.ev hq;rw [e] at hr
    generalize hx:ev afr x=x' at hr
    simp only [qop,hx];cases hr with
    | fptr hr hf hb hc =>
      simp only [ldA,Heap.cells?];rw [row?_same (hS.same _ (row?_lt hr) hf)]
theorem qRb {m:Map} {h:Heap} {a:Nat}:¬ Wr m (lockAll h) a:=by
  rintro ⟨id,r,h1,h2,_⟩;rw [qLb] at h1;cases ho:h[id]? with
  | none=>rw [ho] at h1; cases h1
  | some o =>
    rw [ho] at h1;cases o<;>simp at h1;subst h1; cases h2
theorem PRel.lockAll {h H:Heap} {m:Map} (hP:PRel m h H):PRel m (lockAll h) H:=by
  refine ⟨fun id r hr=>?_,hP.inj,fun id a ha=>⟨by simpa [Pm.lockAll] using (hP.dom id a ha).1,(hP.dom id a ha).2⟩⟩
  rw [qLb] at hr;cases ho:h[id]? with
  | none=>rw [ho] at hr; cases hr
  | some o =>
    rw [ho] at hr;cases o<;>simp at hr;rename_i r0;obtain ⟨a,r',h1,h2,h3,h4,h5,h6⟩:=hP.row id r0 ho;subst hr;exact ⟨a,r',h1,h2,h3,h4,(fun e=>by cases e),h6.mono (Stp.less fun a ha=>(qRb ha).elim) (.refl _)⟩
theorem qTo.lock {f:FuncId} {args:List Value} {h:Heap} {K:Value→Heap→Prop} (k:qBl P f args (lockAll h) fun v h'=>qEt v=true∧K v h):qTo P f args h K:=by
  intro m H vals hP hr;refine (k m H vals hP.lockAll (hr.mono (Stp.less fun a ha=>(qRb ha).elim) (.refl _))).mono fun v H'=>?_
  rintro ⟨p,h',m',⟨k1,k2⟩,k3,k4,k5,k6⟩;obtain ⟨ext,rfl⟩:∃ ext,H'=H++ext:=by
    refine ⟨H'.drop H.length,?_⟩;apply List.ext_getElem?;intro i
    by_cases hi:i < H.length
    . rw [k6.same i hi qRb,List.getElem?_append_left hi]
    . rw [List.getElem?_append_right (by omega),List.getElem?_drop]; congr 1; omega
  have hs:Stp (Wr m h) H (Wr m h) (H++ext):=⟨by simp,fun a ha _=>List.getElem?_append_left ha,fun a ha=>.inl ha⟩
  refine ⟨⟨ext,rfl⟩,p,h,m,k2,⟨fun id r hr=>?_,hP.inj,fun id a ha=>⟨(hP.dom id a ha).1,Nat.lt_of_lt_of_le (hP.dom id a ha).2 (by simp)⟩⟩,?_,.refl _,hs⟩
  . obtain ⟨a,r',h1,h2,h3,h4,h5,h6⟩:=hP.row id r hr
    exact ⟨a,r',h1,by rw [List.getElem?_append_left (hP.dom id a h1).2]; exact h2,h3,h4,h5,h6.mono hs (.refl _)⟩
  . rw [qJo k1 k4]; exact qOo k1

theorem ops_sound {K:Fr→Heap→Prop}:∀ {is:List AIns} {fr afr:Fr} {h H:Heap} {m:Map},is.all okI=true→pOps P K is fr h→PRel m h H→FR (Wr m h) H m fr afr→MLe m0 m→Stp W0 H0 (Wr m h) H→wOps P (Lift K m0 W0 H0) (erase is) afr H
  | [],fr,afr,h,H,m,_,x,hP,hF,he,hs=>by
    rw [pOps] at x;simp only [erase]; rw [wOps];exact ⟨fr,h,m,x,hP,hF,he,hs⟩
  | ⟨d,g,o,fl⟩ :: is,fr,afr,h,H,m,ho,x,hP,hF,he,hs=>by
    simp only [List.all_cons,Bool.and_eq_true] at ho;obtain ⟨ho,hos⟩:=ho;rw [pOps] at x;have skip:∀ {j:AIns},j=⟨d,g,o,fl⟩→¬ qCe fr g=true→pOps P K is (updO fr d (.tuple #[])) h→wOps P (Lift K m0 W0 H0) (j :: erase is) afr H:=by
      rintro _ rfl hw k;rw [wOps,qJx hF,if_neg hw];exact ops_sound hos k hP (hF.upd d .undef) he hs
    have go:∀ {v p:Value} {h' H':Heap} {m':Map},pOps P K is (updO fr d p) h'→MLe m m'→Stp (Wr m h) H (Wr m' h') H'→R (Wr m' h') H' m' p v→PRel m' h' H'→wOps P (Lift K m0 W0 H0) (erase is) (updO afr d v) H' :=
      fun k e1 e2 e3 e4=>ops_sound hos k e4 ((hF.mono e2 e1).upd d e3) (he.trans e1) (hs.trans e2)
    cases o with
    | q o =>
      by_cases hm:∃ e xs,o=.fn (.yield e) xs
      . obtain ⟨e,xs,rfl⟩:=hm
        simp only [erase];cases g with
        | some g=>simp [okI] at ho
        | none =>
          rw [if_pos (show qCe fr none=true from rfl)] at x;simp only [okI] at ho
          split at ho
          . rename_i b
            simp only [pOp] at x
            split at x
            . rename_i v h' hf
              obtain ⟨q1,q2,q3⟩:=frzV_R hP (hF b) hf;have hF':=hF.mono (Stp.less q3) (.refl m);refine ops_sound hos x q1 (fun t=>?_) he (hs.trans (.less q3))
              simp only [Am.upd]
              split
              . rename_i e; rw [e]; exact q2
              . exact hF' t
            . exact x.elim
          . cases ho
      . have e1:erase (⟨d,g,.q o,fl⟩ :: is)=⟨d,g,.q o,fl⟩ :: erase is:=by
          cases o with
          | fn f xs=>cases f<;>first | rfl | exact absurd ⟨_,_,rfl⟩ hm
          | _=>rfl
        have e2:pOp P K is d fl (.q o) fr h=(match pqop o fr h with | some v=>pOps P K is (updO fr d v) h | none=>False):=by
          cases o with
          | fn f xs=>cases f<;>first | (simp only [pOp]; done) | exact absurd ⟨_,_,rfl⟩ hm
          | _=>simp only [pOp]
        have e3:okQ o=true:=by
          clear skip go e1 e2 x;cases g<;>(cases o with
          | fn f xs=>cases f<;>first | exact ho | exact absurd ⟨_,_,rfl⟩ hm
          | _=>exact ho)
        rw [e1]
        by_cases hw:qCe fr g=true
        . rw [if_pos hw,e2] at x
          rw [wOps,qJx hF,if_pos hw]
          split at x
          . rename_i p hp
            obtain ⟨v,k1,k2⟩:=qLy hP hF e3 hp;simp only [wOp,k1];exact go x (.refl m) (.refl _ _) k2 hP
          . exact x.elim
        . rw [if_neg hw] at x
          exact skip rfl hw x
    | e o =>
      simp only [erase]
      by_cases hw:qCe fr g=true
      . rw [if_pos hw] at x
        rw [wOps,qJx hF,if_pos hw];simp only [pOp] at x
        split at x
        . rename_i p h' hp
          obtain ⟨v,H',m',k1,k2,k3,k4,k5⟩:=pe_sound hP hF (o:=o) (by cases g<;>exact ho) hp
          obtain ⟨hst,x⟩:=x;simp only [wOp,k1];exact ⟨qLu hP hF k5 (hF.mono k3 k2) k2 hst,go x k2 k3 k4 k5⟩
        . exact x.elim
      . rw [if_neg hw] at x
        exact skip rfl hw x
    | call f args =>
      simp only [erase]
      by_cases hw:qCe fr g=true
      . rw [if_pos hw] at x
        rw [wOps,qJx hF,if_pos hw];simp only [pOp] at x;simp only [wOp];refine (x m H _ hP (hF.map (by cases g<;>exact ho))).mono fun v H'=>?_
        rintro ⟨p,h',m',⟨hst,k1⟩,k2,k3,k4,k5⟩;exact ⟨qLu hP hF k2 (hF.mono k5 k4) k4 hst,go k1 k4 k5 k3 k2⟩
      . rw [if_neg hw] at x
        exact skip rfl hw x
    | callv g' args =>
      simp only [erase]
      by_cases hw:qCe fr g=true
      . rw [if_pos hw] at x
        rw [wOps,qJx hF,if_pos hw];simp only [pOp] at x;simp only [wOp];have ho:okO g'=true∧okL args=true:=by cases g<;>simpa [okI] using ho
        have hr:=hF.ev ho.1
        split at x
        . rename_i f first caps hg
          rw [hg] at hr;cases hv:ev afr g'<;>rw [hv] at hr<;>cases hr;rename_i f1 g1 s1 r1 s2 r2;refine ⟨x.1,(x.2 m H _ hP ?_).mono fun v H'=>?_⟩
          . exact ((Rs.of_get (by simpa using s1) fun i x y hx hy=>r1 i x y (by simpa using hx) (by simpa using hy)).append (hF.map ho.2)).append
              (.of_get (by simpa using s2) fun i x y hx hy=>r2 i x y (by simpa using hx) (by simpa using hy))
          . rintro ⟨p,h',m',⟨hst,k1⟩,k2,k3,k4,k5⟩
            exact ⟨qLu hP hF k2 (hF.mono k5 k4) k4 hst,go k1 k4 k5 k3 k2⟩
        . exact x.elim
      . rw [if_neg hw] at x
        exact skip rfl hw x
    | nilT g' y =>
      simp only [erase]
      by_cases hw:qCe fr g=true
      . rw [if_pos hw] at x
        rw [wOps,qJx hF,if_pos hw];simp only [pOp] at x;simp only [wOp];have ho:okO y=true:=by cases g<;>simpa [okI] using ho
        have hr:=hF.ev ho;refine ⟨(pNil_R (b:=false) hr x.1).1,fun b hb=>?_⟩
        exact go (x.2 b ((pNil_R hr x.1).2 hb)) (.refl _) (.refl _ _) (.bool _) hP
      . rw [if_neg hw] at x
        exact skip rfl hw x
    | st o' =>
      have skip':∀ {o:AOp},¬ qCe fr g=true→pOps P K is (updO fr d (.tuple #[])) h→wOps P (Lift K m0 W0 H0) (⟨d,g,o,fl⟩ :: erase is) afr H:=by
        intro o hw k;rw [wOps,qJx hF,if_neg hw];exact ops_sound hos k hP (hF.upd d .undef) he hs
      cases o' with
      | call f args =>
        simp only [erase]
        by_cases hw:qCe fr g=true
        . rw [if_pos hw] at x
          rw [wOps,qJx hF,if_pos hw];simp only [pOp] at x;simp only [wOp];have ho:okL args=true:=by cases g<;>simpa [okI] using ho
          rcases x with ⟨hst,x⟩ | ⟨hst,x⟩
          . refine (x m H _ hP (hF.map ho)).mono fun v H'=>?_
            rintro ⟨⟨ext,rfl⟩,p,h',m',k1,k2,k3,k4,k5⟩;exact ⟨qKp hP hF hst,go k1 k4 k5 k3 k2⟩
          . refine (x m H _ hP (hF.map ho)).mono fun v H'=>?_
            rintro ⟨p,h',m',k1,k2,k3,k4,k5⟩;exact ⟨qKq hP hF k5 hst,go k1 k4 k5 k3 k2⟩
        . rw [if_neg hw] at x
          exact skip' hw x
      | e o =>
        simp only [erase]
        by_cases hw:qCe fr g=true
        . rw [if_pos hw] at x
          rw [wOps,qJx hF,if_pos hw];simp only [pOp] at x;have ho:okE o=true∧isMk o=true:=by cases g<;>simpa [okI] using ho
          split at x
          . rename_i p h' hp
            obtain ⟨v,H',m',k1,k2,k3,k4,k5⟩:=pe_sound hP hF (o:=o) ho.1 hp;obtain ⟨hst,x⟩:=x;simp only [wOp,k1];refine ⟨?_,go x k2 k3 k4 k5⟩;have e:=qTd (fr:=afr) (H:=H) ho.2;rw [k1] at e;cases hm:mkV o afr with
            | none=>rw [hm] at e; cases e
            | some q =>
              rw [hm] at e;have:H'=Am.newRow H q.2.1 q.2.2:=by
                have:=congrArg (fun z=>z.map Prod.snd) e
                simpa using this
              rw [this];exact qKp hP hF hst (ext:=[.row ⟨q.2.1,q.2.2,0,true⟩])
          . exact x.elim
        . rw [if_neg hw] at x
          exact skip' hw x
      | q o2 =>
        simp only [erase];cases g with
        | some g=>simp [okI] at ho
        | none =>
          rw [if_pos (show qCe fr none=true from rfl)] at x;simp only [pOp] at x;obtain ⟨h0,h1,r,cs,rfl,hi,x⟩:=x;obtain ⟨q1,q2⟩:=seal_R hP hi;exact ops_sound hos x q1 (hF.mono (Stp.less q2) (.refl m)) he (hs.trans (.less q2))
      | _=>cases g<;>simp [okI] at ho

theorem code_sound:∀ (c:AC) {Q:Exit→Fr→Heap→Prop} {fr afr:Fr} {h H:Heap} {m:Map},okC c=true→pwp P c Q fr h→PRel m h H→FR (Wr m h) H m fr afr→MLe m0 m→Stp W0 H0 (Wr m h) H→awp P (qGd c) (LiftE Q m0 W0 H0) afr H:=by
  intro c
  induction c with
  | skip=>intro Q fr afr h H m _ x hP hF he hs; exact ⟨fr,h,m,x,hP,hF,he,hs⟩
  | ops is=>intro Q fr afr h H m ho x hP hF he hs; exact ops_sound ho x hP hF he hs
  | seq a b iha ihb =>
    intro Q fr afr h H m ho x hP hF he hs;simp only [okC,Bool.and_eq_true] at ho;simp only [qGd,awp];refine qCw _ _ _ ?_ _ _ (iha ho.1 x hP hF he hs);rintro e afr H ⟨fr,h,m,q,hP,hF,he,hs⟩;cases e<;>first | exact ihb ho.2 q hP hF he hs | exact ⟨fr,h,m,q,hP,hF,he,hs⟩
  | cond c a b iha ihb =>
    intro Q fr afr h H m ho x hP hF he hs;simp only [okC,Bool.and_eq_true] at ho;have hr:=hF.ev ho.1.1;simp only [pwp] at x;simp only [qGd,awp]
    generalize ev fr c=p at *
    cases p<;>simp only [qLh] at x;rename_i t;rw [qJh hr];simp only [qLh]
    split at x
    . rename_i ht; rw [if_pos ht]; exact iha ho.1.2 x hP hF he hs
    . rename_i ht; rw [if_neg ht]; exact ihb ho.2 x hP hF he hs
  | block id a iha =>
    intro Q fr afr h H m ho x hP hF he hs;simp only [qGd,awp];refine qCw _ _ _ ?_ _ _ (iha ho x hP hF he hs);rintro e afr H ⟨fr,h,m,q,hP,hF,he,hs⟩;cases e with
    | exit i =>
      simp only [qEu] at q ⊢
      split at q
      . rename_i hi; rw [if_pos hi]; exact ⟨fr,h,m,q,hP,hF,he,hs⟩
      . rename_i hi; rw [if_neg hi]; exact ⟨fr,h,m,q,hP,hF,he,hs⟩
    | _=>exact ⟨fr,h,m,q,hP,hF,he,hs⟩
  | loop a iha =>
    intro Q fr afr h H m ho x hP hF he hs;obtain ⟨n,x⟩:=x;refine ⟨n,?_⟩
    induction n generalizing fr afr h H m with
    | zero=>exact x.elim
    | succ n ih =>
      refine qCw _ _ _ ?_ _ _ (iha ho x hP hF he hs);rintro e afr H ⟨fr,h,m,q,hP,hF,he,hs⟩;cases e<;>first | exact ih hP hF he hs q | exact ⟨fr,h,m,q,hP,hF,he,hs⟩
  | exit id=>intro Q fr afr h H m _ x hP hF he hs; exact ⟨fr,h,m,x,hP,hF,he,hs⟩
  | label l=>intro Q fr afr h H m _ x hP hF he hs; exact ⟨fr,h,m,x,hP,hF,he,hs⟩
  | goto l=>intro Q fr afr h H m _ x hP hF he hs; exact ⟨fr,h,m,x,hP,hF,he,hs⟩
  | scope l a r iha ihr =>
    intro Q fr afr h H m ho x hP hF he hs;simp only [okC,Bool.and_eq_true] at ho;obtain ⟨n,x⟩:=x;have key:∀ (n:Nat) (fr afr:Fr) (h H:Heap) (m:Map),qLd (pwp P r) l Q n fr h→PRel m h H→FR (Wr m h) H m fr afr→MLe m0 m→Stp W0 H0 (Wr m h) H→qLd (awp P (qGd r)) l (LiftE Q m0 W0 H0) n afr H:=by
      intro n
      induction n with
      | zero=>intro fr afr h H m x; exact x.elim
      | succ n ih =>
        intro fr afr h H m x hP hF he hs;refine qCw _ _ _ ?_ _ _ (ihr ho.2 x hP hF he hs);rintro e afr H ⟨fr,h,m,q,hP,hF,he,hs⟩;cases e<;>first | exact ⟨q.1,ih _ _ _ _ _ q.2 hP hF he hs⟩ | exact ⟨fr,h,m,q,hP,hF,he,hs⟩
    refine ⟨n,qCw _ _ _ ?_ _ _ (iha ho.1 x hP hF he hs)⟩;rintro e afr H ⟨fr,h,m,q,hP,hF,he,hs⟩;cases e<;>first | exact ⟨q.1,key _ _ _ _ _ _ q.2 hP hF he hs⟩ | exact ⟨fr,h,m,q,hP,hF,he,hs⟩
  | ret=>intro Q fr afr h H m _ x hP hF he hs; exact ⟨fr,h,m,x,hP,hF,he,hs⟩

theorem resV_R {fr afr:Fr} {h H:Heap} {m:Map} (hP:PRel m h H) (hF:FR (Wr m h) H m fr afr) {r:RV} {p:Value} (hp:resV fr h r=some p):∃ v,resV afr H r=some v∧R (Wr m h) H m p v:=by
  cases r with
  | tmp t=>cases hp; exact ⟨_,rfl,hF t⟩
  | cell t =>
    have hr:=hF t;simp only [resV] at hp ⊢;refine pLd_R hP hr ?_
    generalize fr t=x at *
    generalize afr t=y at *
    cases hr with
    | fptr=>simp [ldV,fptr] at hp
    | _=>exact hp
  | cells t n =>
    have hr:=hF t;simp only [resV] at hp ⊢;refine pLdA_R hP hr ?_
    generalize fr t=x at *
    generalize afr t=y at *
    cases hr with
    | fptr=>simp [ldA,fptr] at hp
    | _=>exact hp
theorem resVs_R {fr afr:Fr} {h H:Heap} {m:Map} (hP:PRel m h H) (hF:FR (Wr m h) H m fr afr):∀ {rs:List RV} {ps:List Value},qAu fr h rs=some ps→∃ vs,qAu afr H rs=some vs∧Rs (Wr m h) H m ps vs
  | [],ps,hp=>by cases hp; exact ⟨[],rfl,.nil⟩
  | r :: rs,ps,hp=>by
    simp only [qAu] at hp ⊢
    split at hp
    . rename_i v vs h1 h2
      cases hp;obtain ⟨v',k1,k2⟩:=resV_R hP hF h1;obtain ⟨vs',k3,k4⟩:=resVs_R hP hF h2;exact ⟨v' :: vs',by simp only [k1,k3],.cons k2 k4⟩
    . cases hp
theorem retV_R {W:Nat→Prop} {H:Heap} {m:Map} {ps vs:List Value} (h:Rs W H m ps vs):R W H m (retV ps) (retV vs):=by
  have h0:=h;cases h with
  | nil=>exact .undef
  | cons h1 h2 =>
    cases h2 with
    | nil=>exact h1
    | cons h3 h4=>exact .tup (by simpa [retV] using h0.length) fun i x y hx hy=>h0.get i x y (by simpa [retV] using hx) (by simpa [retV] using hy)

theorem qBh {f:FuncId} {fn:Func} {af:AFn} (hP:P.follows .mixedOrders=true) (hf:P.funcs[f]?=some fn) (hc:qCd P fn=some ⟨qGd af.body,af.results,af.ntmps⟩) (hok:okC af.body=true) {args:List Value} (hl:args.length≤af.ntmps)
    {h:Heap} {K:Value→Heap→Prop} (k:pwp P af.body (qAs af.results K) (qBv args) h):qBl P f args h K:=by
  intro m H vals hR hr;refine qCp hP hf hc (by rw [← hr.length]; exact hl) ?_
  have hF:FR (Wr m h) H m (qBv args) (qBv vals):=by
    intro t;simp only [qBv]
    by_cases ht:t < args.length
    . have ht':t < vals.length:=by rw [← hr.length]; exact ht
      rw [List.getElem?_eq_getElem ht,List.getElem?_eq_getElem ht'];exact hr.get t _ _ (List.getElem?_eq_getElem ht) (List.getElem?_eq_getElem ht')
    . rw [List.getElem?_eq_none (by omega),List.getElem?_eq_none (by rw [← hr.length]; omega)]
      exact .undef
  refine qCw _ _ _ ?_ _ _ (code_sound (m0:=m) (W0:=Wr m h) (H0:=H) af.body hok k hR hF (.refl m) (.refl _ _));rintro e afr H' ⟨fr,h',m',q,hP',hF',he,hs⟩;have fin:(∃ ps,qAu fr h' af.results=some ps∧K (retV ps) h')→∃ vs,qAu afr H' af.results=some vs∧∃ p h' m',K p h'∧PRel m' h' H'∧R (Wr m' h') H' m' p (retV vs)∧MLe m m'∧Stp (Wr m h) H (Wr m' h') H':=by
    rintro ⟨ps,e1,e2⟩;obtain ⟨vs,k1,k2⟩:=resVs_R hP' hF' e1;exact ⟨vs,k1,_,h',m',e2,hP',retV_R k2,he,hs⟩
  cases e with
  | normal =>
    simp only [qAs] at q ⊢
    split at q
    . rename_i ps e1
      obtain ⟨vs,k1,k2⟩:=fin ⟨ps,e1,q⟩;rw [k1]; exact k2
    . exact q.elim
  | ret =>
    simp only [qAs] at q ⊢
    split at q
    . rename_i ps e1
      obtain ⟨vs,k1,k2⟩:=fin ⟨ps,e1,q⟩;rw [k1]; exact k2
    . exact q.elim
  | _=>exact q.elim
end

/-! ### What is forgotten behind a call -/
theorem qBl.forget {P:Program} {f:FuncId} {args:List Value} {h:Heap} {K:Value→Heap→Prop} (k:qBl P f args h fun v h'=>(∃ g,h'=h++g)∧∃ p,Inl h.length h' v p∧K p h):qBl P f args h K:=by
  intro m H vals hP hr;refine (k m H vals hP hr).mono fun v H'=>?_
  rintro ⟨p,h',m',⟨⟨g,rfl⟩,p',hi,hK⟩,hP',hR,he,hs⟩
  let m2:Map:=fun id=>if id < h.length then m' id else none
  have e2:∀ id a,m id=some a→m2 id=m' id:=fun id a ha=>by simp only [m2]; rw [if_pos (hP.dom id a ha).1]
  have e3:∀ id a,m2 id=some a→id < h.length∧m' id=some a:=fun id a ha=>by
    simp only [m2] at ha; split at ha
    . rename_i hi; exact ⟨hi,ha⟩
    . cases ha
  have w2:∀ a,Wr m2 h a→Wr m' (h++g) a:=by
    rintro a ⟨id,r,h1,h2,h3⟩;obtain ⟨k1,k2⟩:=e3 _ _ h3;exact ⟨id,r,by rw [List.getElem?_append_left k1]; exact h1,h2,k2⟩
  refine ⟨p',h,m2,hK,⟨fun id r hid=>?_,fun id id' a h1 h2=>hP'.inj _ _ _ (e3 _ _ h1).2 (e3 _ _ h2).2,fun id a ha=>⟨(e3 _ _ ha).1,(hP'.dom _ _ (e3 _ _ ha).2).2⟩⟩,?_,fun id a ha=>by rw [e2 _ _ ha]; exact he _ _ ha,⟨hs.len,hs.same,fun a ha=>hs.wr a (w2 a ha)⟩⟩
  . have hil:=(List.getElem?_eq_some_iff.1 hid).1
    obtain ⟨a,r',k1,k2,k3,k4,k5,k6⟩:=hP'.row id r (by rw [List.getElem?_append_left hil]; exact hid)
    obtain ⟨a0,r0,z1,z2,z3,z4,z5,z6⟩:=hP.row id r hid;refine ⟨a,r',by simp only [m2]; rw [if_pos hil]; exact k1,k2,k3,k4,k5,.of_get k6.length fun i p v h1 h2=>?_⟩
    obtain ⟨v0,hv0⟩:∃ v0,r0.cells[i]?=some v0:=⟨_,List.getElem?_eq_getElem (by rw [← z6.length]; exact (List.getElem?_eq_some_iff.1 h1).1)⟩
    exact ((z6.get i p v0 h1 hv0).both (k6.get i p v h1 h2) e2).mono (.less w2) (.refl _)
  . exact (hi.R hP' (W:=Wr m2 h) (fun a ha=>by obtain ⟨id,r,h1,h2,h3⟩:=ha; exact ⟨id,(e3 _ _ h3).1,(e3 _ _ h3).2⟩) hR w2).mono (.refl _ _) (.none _)

def Pure (P:Program) (f:FuncId) (args:List Value) (p:Value):Prop:=∀ h,qBl P f args h fun v h'=>v=p∧h'=h
theorem Pure.go {P:Program} {f:FuncId} {args:List Value} {p:Value} (k:Pure P f args p) {h:Heap} {K:Value→Heap→Prop} (hk:K p h):qBl P f args h K:=(k h).mono fun v h' ⟨e1,e2⟩=>by rw [e1,e2]; exact hk
theorem Pure.of {P:Program} {f:FuncId} {args:List Value} {p:Value} (k:∀ h,qBl P f args h fun v h'=>(∃ g,h'=h++g)∧Inl h.length h' v p):Pure P f args p:=fun h=>qBl.forget ((k h).mono fun _ _ ⟨e1,e2⟩=>⟨e1,p,e2,rfl,rfl⟩)

inductive Cv:Value→Value→Prop
  | same (v:Value):Cv v v
  | nil {e:Nat}:Cv (.slice none 0 0) (lst e 0 [])
  | agg {xs ys:Array Value} (hs:xs.size=ys.size) (hc:∀ (i:Nat) (x y:Value),xs[i]?=some x→ys[i]?=some y→Cv x y):Cv (.agg xs) (.agg ys)
inductive Cvs:List Value→List Value→Prop
  | nil:Cvs [] []
  | cons {x y:Value} {xs ys:List Value} (h:Cv x y) (t:Cvs xs ys):Cvs (x :: xs) (y :: ys)
theorem Cv.R {W:Nat→Prop} {H:Heap} {m:Map} {x y:Value} (hc:Cv x y):∀ {v:Value},Pm.R W H m x v→Pm.R W H m y v:=by
  induction hc with
  | same v=>intro v h; exact h
  | nil=>intro v h; cases h; exact .lstNil
  | agg hs hc ih =>
    intro v h;obtain ⟨zs,rfl,hr⟩:=h.agg_list;refine .agg (by rw [← hs]; simpa using hr.length) fun i x y hx hy=>?_
    obtain ⟨z,hz⟩:=qCk (hs ▸ qCi hx);exact ih i z x hz hx (hr.get i z y (by simpa using hz) (by simpa using hy))
theorem Cvs.Rs {W:Nat→Prop} {H:Heap} {m:Map} {xs ys:List Value} (hc:Cvs xs ys):∀ {vs:List Value},Pm.Rs W H m xs vs→Pm.Rs W H m ys vs:=by
  induction hc with
  | nil=>intro vs h; exact h
  | cons h _ ih=>intro vs k; cases k with | cons k1 k2=>exact .cons (h.R k1) (ih k2)
theorem qBl.conv {P:Program} {f:FuncId} {args args':List Value} {h:Heap} {K:Value→Heap→Prop} (hc:Cvs args args') (k:qBl P f args' h K):qBl P f args h K :=
  fun m H vals hP hr=>k m H vals hP (hc.Rs hr)
end Pm
