/- The abstract machine: slices as lists.
   No condition: plain lemmas. -/
import Derived.Test.YtdiggaadgjkgkaaGreatDoorZNAmWalk
namespace Am
set_option linter.unusedSimpArgs false
set_option linter.unusedVariables false
open Go

def RL {α:Type} (E:List Value→α→Prop) (n:Nat) (S:Nat→Prop) (H:Heap) (v:Value) (l:List α):Prop :=
  (v=.slice none 0 0∧l=[])∨∃ id off ver r,v=.slice (some ⟨id,off,none⟩) l.length ver∧S id∧H[id]?=some (.row r)∧r.ver=ver∧r.esz=n∧off+l.length * n≤r.cells.length ∧
    ∀ (i:Nat) (x:α),l[i]?=some x→E ((r.cells.drop (off+i * n)).take n) x

abbrev Any:Nat→Prop:=fun _=>True
abbrev From (b:Nat):Nat→Prop:=fun i=>b≤i

section
variable {α : Type} {E E' : List Value → α → Prop} {n : Nat} {S S' : Nat → Prop} {H H' : Heap} {v : Value} {l : List α}

theorem RL.mono (h:RL E n S H v l) (hE:∀ cs x,x∈l→E cs x→E' cs x) (hS:∀ i,S i→S' i) (hH:∀ i,S i→H[i]?=H'[i]?):RL E' n S' H' v l:=by
  rcases h with h | ⟨id,off,ver,r,h1,h2,h3,h4,h5,h6,h7⟩
  . exact .inl h
  . exact .inr ⟨id,off,ver,r,h1,hS _ h2,by rw [← hH _ h2]; exact h3,h4,h5,h6,fun i x hx=>hE _ _ (List.mem_of_getElem? hx) (h7 i x hx)⟩
theorem RL.wide (h:RL E n S H v l):RL E n Any H v l:=h.mono (fun _ _ _ x=>x) (fun _ _=>trivial) fun _ _=>rfl

theorem RL.len (h:RL E n S H v l):lenV v=some (.int .i64 l.length):=by
  rcases h with ⟨rfl,rfl⟩ | ⟨id,off,ver,r,rfl,_⟩<;>rfl

theorem RL.at (h:RL E n S H v l) {i:Nat} {x:α} (hi:l[i]?=some x) :
    ∃ id off ver cs,S id∧(∀ k:IntKind,qGf n v (.int k (i:Int))=some (.pointer (some ⟨id,off,some ver⟩)))∧E cs x∧cs.length=n∧H.cells? id off ver n=some cs∧∀ j c,cs[j]?=some c→H.cell? id (off+j) ver=some c:=by
  have hil:=(List.getElem?_eq_some_iff.1 hi).1;rcases h with ⟨rfl,rfl⟩ | ⟨id,off,ver,r,rfl,h2,h3,h4,h5,h6,h7⟩
  . simp at hil
  . have hb:off+i * n+n≤r.cells.length:=by
      have:(i+1) * n≤l.length * n:=Nat.mul_le_mul_right n hil;rw [Nat.succ_mul] at this;omega
    refine ⟨id,off+i * n,ver,_,h2,fun k=>?_,h7 i x hi,by simp; omega,?_,fun j c hj=>?_⟩
    . simp only [qGf]
      rw [if_pos ⟨by omega,by omega⟩]; rfl
    . simp [Heap.cells?,Heap.row?,h3,h4,hb]
    . rw [List.getElem?_take] at hj
      split at hj
      . rw [List.getElem?_drop] at hj
        simp [Heap.cell?,Heap.row?,h3,h4,hj]
      . cases hj
end

abbrev One {α:Type} (f:α→Value) (cs:List Value) (x:α):Prop:=cs=[f x]
abbrev vI:Int→Value:=.int .i64
abbrev L1 {α:Type} (f:α→Value) (S:Nat→Prop) (H:Heap) (v:Value) (l:List α):Prop:=RL (One f) 1 S H v l
abbrev L2 {α:Type} (f:α→Value) (S:Nat→Prop) (H:Heap) (v:Value) (l:List (List α)):Prop:=RL (fun cs x=>∃ w,cs=[w]∧L1 f S H w x) 1 S H v l

section
variable {α : Type} {f : α → Value} {S S' : Nat → Prop} {H H' : Heap} {v : Value}
theorem L1.at {l:List α} (h:L1 f S H v l) {i:Nat} {x:α} (hi:l[i]?=some x):∃ p,(∀ k:IntKind,qGf 1 v (.int k (i:Int))=some p)∧ldV H p=some (f x):=by
  obtain ⟨id,off,ver,cs,_,h1,rfl,_,_,h2⟩:=RL.at h hi;exact ⟨_,h1,h2 0 _ rfl⟩
theorem L2.at {l:List (List α)} (h:L2 f S H v l) {i:Nat} {x:List α} (hi:l[i]?=some x):∃ p w,(∀ k:IntKind,qGf 1 v (.int k (i:Int))=some p)∧ldV H p=some w∧L1 f S H w x:=by
  obtain ⟨id,off,ver,cs,_,h1,⟨w,rfl,hw⟩,_,_,h2⟩:=RL.at h hi;exact ⟨_,w,h1,h2 0 _ rfl,hw⟩
theorem L1.mono {l:List α} (h:L1 f S H v l) (hS:∀ i,S i→S' i) (hH:∀ i,S i→H[i]?=H'[i]?):L1 f S' H' v l:=RL.mono h (fun _ _ _ x=>x) hS hH
theorem L2.mono {l:List (List α)} (h:L2 f S H v l) (hS:∀ i,S i→S' i) (hH:∀ i,S i→H[i]?=H'[i]?):L2 f S' H' v l :=
  RL.mono h (fun _ _ _ ⟨w,h1,h2⟩=>⟨w,h1,h2.mono hS hH⟩) hS hH
end

/-! ### A list of lists that is one's own -/
def Own2 {α:Type} (f:α→Value) (b:Nat) (H:Heap) (v:Value) (ll:List (List α)):Prop :=
  ∃ cells,v=.slice (some ⟨b,0,none⟩) ll.length 0∧H[b]?=some (.row ⟨cells,1,0,true⟩)∧cells.length=ll.length ∧
    (∀ (i:Nat) (l:List α),ll[i]?=some l→∃ w,cells[i]?=some w∧((w=.slice none 0 0∧l=[])∨∃ id ver,w=.slice (some ⟨id,0,none⟩) l.length ver∧b < id∧H[id]?=some (.row ⟨l.map f,1,ver,true⟩))) ∧
    ∀ (i j:Nat) (o1 o2:Addr) (l1 v1 l2 v2:Nat),cells[i]?=some (.slice (some o1) l1 v1)→cells[j]?=some (.slice (some o2) l2 v2)→o1.block=o2.block→i=j

theorem L1.ofRow {α:Type} {f:α→Value} {S:Nat→Prop} {H:Heap} {id ver:Nat} {l:List α} {rw:Bool} (h:H[id]?=some (.row ⟨l.map f,1,ver,rw⟩)) (hS:S id):L1 f S H (.slice (some ⟨id,0,none⟩) l.length ver) l :=
  .inr ⟨id,0,ver,_,rfl,hS,h,rfl,rfl,by simp,fun i x hx=>by
    have hi:=(List.getElem?_eq_some_iff.1 hx).1;have e:((l.map f).drop (0+i * 1)).take 1=[f x]:=by
      rw [Nat.zero_add,Nat.mul_one,List.drop_eq_getElem_cons (by simpa using hi)]
      simp [(List.getElem?_eq_some_iff.1 hx).2]
    exact e⟩
theorem L1.nil {α:Type} {f:α→Value} {S:Nat→Prop} {H:Heap}:L1 f S H (.slice none 0 0) []:=.inl ⟨rfl,rfl⟩

section
variable {α : Type} {f : α → Value} {b : Nat} {H H' : Heap} {v : Value} {ll : List (List α)}
theorem Own2.to (h:Own2 f b H v ll):L2 f (From b) H v ll:=by
  obtain ⟨cells,rfl,h2,h3,h4,h5⟩:=h;refine .inr ⟨b,0,0,_,rfl,Nat.le_refl b,h2,rfl,rfl,by simp [h3],fun i x hx=>?_⟩
  obtain ⟨w,hw,hc⟩:=h4 i x hx;refine ⟨w,?_,?_⟩
  . have hi:=(List.getElem?_eq_some_iff.1 hw).1
    rw [Nat.zero_add,Nat.mul_one];rw [List.drop_eq_getElem_cons hi];simp [(List.getElem?_eq_some_iff.1 hw).2]
  . rcases hc with ⟨rfl,rfl⟩ | ⟨id,ver,rfl,hb,hr⟩
    . exact .nil
    . exact .ofRow hr (Nat.le_of_lt hb)
theorem Own2.make {n:Nat} (h:H[b]?=some (.row ⟨List.replicate n (.slice none 0 0),1,0,true⟩)):Own2 f b H (.slice (some ⟨b,0,none⟩) n 0) (List.replicate n []):=by
  refine ⟨_,by simp,h,by simp,fun i l hl=>⟨.slice none 0 0,?_⟩,fun i j o1 o2 l1 v1 l2 v2 h1 _ _=>?_⟩
  . have:=List.getElem?_eq_some_iff.1 hl
    simp at this;obtain ⟨h1,rfl⟩:=this;exact ⟨by simp [h1],.inl ⟨rfl,rfl⟩⟩
  . have:=List.getElem?_eq_some_iff.1 h1
    simp at this

theorem Own2.push (h:Own2 f b H v ll) {i:Nat} {l:List α} (hi:ll[i]?=some l):∃ p w,(∀ k:IntKind,qGf 1 v (.int k (i:Int))=some p)∧ldV H p=some w∧L1 f (From b) H w l ∧
    ∀ (H1:Heap) (x:Value) (xs:List α) (k:Value×Heap→Prop),(∀ id,id < H.length→H1[id]?=H[id]?)→H.length≤H1.length→qDz H1 1 x=some (xs.length,xs.map f)→l.length+xs.length≤lim →
      (∀ w' H2 H3,qBu H2 1 p w'=some H3→Own2 f b H3 v (ll.set i (l++xs))→(∀ id,id < b→H3[id]?=H[id]?)→H.length≤H3.length→k (w',H2))→optK (appV H1 1 w x) k:=by
  obtain ⟨cells,rfl,h2,h3,h4,h5⟩:=h;have lt:∀ {id:Nat} {o:Ob},H[id]?=some o→id < H.length:=fun e=>(List.getElem?_eq_some_iff.1 e).1
  have hil:=(List.getElem?_eq_some_iff.1 hi).1;obtain ⟨w,hw,hc⟩:=h4 i l hi;have hic:=(List.getElem?_eq_some_iff.1 hw).1;refine ⟨.pointer (some ⟨b,i,some 0⟩),w,fun k=>?_,?_,?_,fun H1 x xs k hH hlen hx hlim hk=>?_⟩
  . simp; omega
  . simp [Heap.cell?,Heap.row?,h2,hw]
  . rcases hc with ⟨rfl,rfl⟩ | ⟨id,ver,rfl,hb,hr⟩
    . exact .nil
    . exact .ofRow hr (Nat.le_of_lt hb)
  . have h2':H1[b]?=some (.row ⟨cells,1,0,true⟩):=by rw [hH b (lt h2)]; exact h2
    have fin:∀ (w':Value) (H2:Heap),cellsOf w'=some [w']→H2[b]?=some (.row ⟨cells,1,0,true⟩)→(∀ id,id < b→H2[id]?=H[id]?)→H.length≤H2.length →
        ((w'=.slice none 0 0∧l++xs=[])∨∃ id ver,w'=.slice (some ⟨id,0,none⟩) (l++xs).length ver∧b < id∧H2[id]?=some (.row ⟨(l++xs).map f,1,ver,true⟩)) →
        (∀ (j:Nat) (l':List α),ll[j]?=some l'→j≠i→∀ (o:Addr) (ln vr:Nat),cells[j]?=some (.slice (some o) ln vr)→H2[o.block]?=H[o.block]?∧∀ (o':Addr) (ln' vr':Nat),w'=.slice (some o') ln' vr'→o'.block≠o.block)→k (w',H2):=by
      intro w' H2 hcw hb2 hlow hlen2 hnew hoth;have hbl:b < H2.length:=(List.getElem?_eq_some_iff.1 hb2).1;refine hk w' H2 (H2.set b (.row ⟨cells.set i w',1,0,true⟩)) ?_ ⟨cells.set i w',by simp,by simp [hbl],by simp [h3],fun j l' hl'=>?_,fun i1 j1 o1 o2 l1 v1 l2 v2 q1 q2 q3=>?_⟩ (fun id hid=>?_) (by simp [hlen2])
      . simp only [qBu,hcw,Heap.row?,hb2]
        simp [setAll]; omega
      . by_cases e:j=i
        . subst e
          have:l'=l++xs:=by rw [List.getElem?_set_self hil] at hl'; exact (Option.some.inj hl').symm
          subst this;refine ⟨w',by simp [hic],hnew.imp (fun x=>x) ?_⟩
          rintro ⟨id,ver,e1,e2,e3⟩;exact ⟨id,ver,e1,e2,by rw [List.getElem?_set_ne (by omega)]; exact e3⟩
        . rw [List.getElem?_set_ne (fun x=>e x.symm)] at hl'
          obtain ⟨w2,hw2,hc2⟩:=h4 j l' hl';refine ⟨w2,by rw [List.getElem?_set_ne (fun x=>e x.symm)]; exact hw2,hc2.imp (fun x=>x) ?_⟩
          rintro ⟨id,ver,e1,e2,e3⟩;refine ⟨id,ver,e1,e2,?_⟩;rw [List.getElem?_set_ne (by omega)]
          have:=(hoth j l' hl' e ⟨id,0,none⟩ l'.length ver (by rw [hw2,e1])).1
          simp only at this;rw [this]; exact e3
      . by_cases e1:i1=i
        . by_cases e2:j1=i
          . rw [e1,e2]
          . rw [List.getElem?_set_ne (fun x=>e2 x.symm)] at q2
            subst e1;rw [List.getElem?_set_self hic] at q1;have hj1:j1 < ll.length:=by rw [← h3]; exact (List.getElem?_eq_some_iff.1 q2).1
            exact absurd q3 ((hoth j1 _ (List.getElem?_eq_getElem hj1) e2 o2 l2 v2 q2).2 o1 l1 v1 (Option.some.inj q1))
        . rw [List.getElem?_set_ne (fun x=>e1 x.symm)] at q1
          have hi1:i1 < ll.length:=by rw [← h3]; exact (List.getElem?_eq_some_iff.1 q1).1
          by_cases e2:j1=i
          . subst e2
            rw [List.getElem?_set_self hic] at q2;exact absurd q3.symm ((hoth i1 _ (List.getElem?_eq_getElem hi1) e1 o1 l1 v1 q1).2 o2 l2 v2 (Option.some.inj q2))
          . rw [List.getElem?_set_ne (fun x=>e2 x.symm)] at q2
            exact h5 i1 j1 o1 o2 l1 v1 l2 v2 q1 q2 q3
      . rw [List.getElem?_set_ne (by omega)]; exact hlow id hid
    have lo:∀ {id:Nat},id < b→H1[id]?=H[id]?:=fun {id} hid=>hH id (by have:=lt h2; omega)
    have other:∀ (j:Nat) (l':List α),ll[j]?=some l'→∀ (o:Addr) (ln vr:Nat),cells[j]?=some (.slice (some o) ln vr)→o.block < H.length:=by
      intro j l' hl' o ln vr ho;obtain ⟨w2,hw2,hc2⟩:=h4 j l' hl';rw [ho] at hw2;rcases hc2 with ⟨e,_⟩ | ⟨id,ver,e,_,hr⟩
      . rw [e] at hw2; cases hw2
      . rw [e] at hw2; cases hw2; exact lt hr
    rcases hc with ⟨rfl,rfl⟩ | ⟨id,ver,rfl,hb,hr⟩
    . simp only [appV,hx]
      by_cases hz:xs.length=0
      . rw [if_pos hz]
        have:xs=[]:=List.length_eq_zero_iff.1 hz;subst this;exact fin _ _ rfl h2' (fun id hid=>lo hid) hlen (.inl ⟨rfl,rfl⟩) fun j l' hl' hji o ln vr ho=>⟨hH _ (other j l' hl' o ln vr ho),fun o' ln' vr' e=>by cases e⟩
      . rw [if_neg hz,if_pos (by simp at hlim; omega)]
        have hbl:b < H1.length:=(List.getElem?_eq_some_iff.1 h2').1;refine fin _ _ rfl (by unfold newRow; rw [List.getElem?_append_left hbl]; exact h2') (fun id hid=>by unfold newRow; rw [List.getElem?_append_left (by omega)]; exact lo hid) (by simp [newRow]; omega)
          (.inr ⟨H1.length,0,by simp,hbl,by simp [newRow]⟩) fun j l' hl' hji o ln vr ho=>?_
        have:=other j l' hl' o ln vr ho;exact ⟨by unfold newRow; rw [List.getElem?_append_left (by omega)]; exact hH _ this,fun o' ln' vr' e=>by cases e; simp only; omega⟩
    . have hr':H1[id]?=some (.row ⟨l.map f,1,ver,true⟩):=by rw [hH id (lt hr)]; exact hr
      have hidl:id < H1.length:=(List.getElem?_eq_some_iff.1 hr').1;simp only [appV,hx,Heap.row?,hr',if_true];rw [if_pos ⟨trivial,trivial,by simp,hlim⟩]
      refine fin _ _ rfl (by rw [List.getElem?_set_ne (by omega)]; exact h2') (fun id' hid=>by rw [List.getElem?_set_ne (by omega)]; exact lo hid) (by simpa using hlen)
        (.inr ⟨id,ver+1,by simp,hb,by simp [hidl]; exact List.take_of_length_le (by simp)⟩) fun j l' hl' hji o ln vr ho=>?_
      have:=other j l' hl' o ln vr ho;have hne:o.block≠id:=fun e=>hji (h5 j i o ⟨id,0,none⟩ ln vr l.length ver ho hw e)
      exact ⟨by rw [List.getElem?_set_ne (fun x=>hne x.symm)]; exact hH _ this,fun o' ln' vr' e=>by cases e; exact fun x=>hne x.symm⟩
end

theorem L1.elems {α:Type} {f:α→Value} {S:Nat→Prop} {H:Heap} {v:Value} {l:List α} (h:L1 f S H v l):qDz H 1 v=some (l.length,l.map f):=by
  rcases h with ⟨rfl,rfl⟩ | ⟨id,off,ver,r,rfl,h2,h3,h4,h5,h6,h7⟩
  . rfl
  . simp only [qDz,Heap.cells?,Heap.row?,h3,h4,if_true,h6,Option.map_some]
    congr 2
    apply List.ext_getElem?;intro i
    by_cases hi:i < l.length
    . have:=h7 i l[i] (List.getElem?_eq_getElem hi)
      have hb:off+i < r.cells.length:=by omega
      rw [Nat.mul_one,List.drop_eq_getElem_cons hb] at this;simp only [One,List.take_succ_cons,List.take_zero,List.cons.injEq,and_true] at this;rw [List.getElem?_take,if_pos (by omega),List.getElem?_drop,List.getElem?_eq_getElem hb,this]
      simp [hi]
    . rw [List.getElem?_take,if_neg (by omega),List.getElem?_eq_none (by simp; omega)]

section
variable {α : Type} {f : α → Value} {S : Nat → Prop} {H H' : Heap} {v : Value}
theorem RL.narrow {E:List Value→α→Prop} {n:Nat} {l:List α} (h:RL E n S H v l):RL E n (fun i=>S i∧i < H.length) H v l:=by
  rcases h with h | ⟨id,off,ver,r,h1,h2,h3,h4⟩
  . exact .inl h
  . exact .inr ⟨id,off,ver,r,h1,⟨h2,(List.getElem?_eq_some_iff.1 h3).1⟩,h3,h4⟩
theorem L2.narrow {l:List (List α)} (h:L2 f S H v l):L2 f (fun i=>i < H.length) H v l :=
  RL.mono (RL.narrow h) (fun _ _ _ ⟨w,h1,h2⟩=>⟨w,h1,RL.mono (RL.narrow h2) (fun _ _ _ x=>x) (fun _ h=>h.2) fun _ _=>rfl⟩) (fun _ h=>h.2) fun _ _=>rfl
theorem L1.narrow {l:List α} (h:L1 f S H v l):L1 f (fun i=>i < H.length) H v l:=RL.mono (RL.narrow h) (fun _ _ _ x=>x) (fun _ h=>h.2) fun _ _=>rfl
theorem L2.app {l:List (List α)} (h:L2 f S H v l) (ext:Heap):L2 f (fun i=>i < H.length) (H++ext) v l:=L2.mono h.narrow (fun _ x=>x) fun _ hi=>(List.getElem?_append_left hi).symm
theorem L1.app {l:List α} (h:L1 f S H v l) (ext:Heap):L1 f (fun i=>i < H.length) (H++ext) v l:=L1.mono h.narrow (fun _ x=>x) fun _ hi=>(List.getElem?_append_left hi).symm
end
end Am
