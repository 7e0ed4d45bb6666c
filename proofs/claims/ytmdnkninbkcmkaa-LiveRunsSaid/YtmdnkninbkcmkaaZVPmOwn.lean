/- Many rows of one's own, by numbers.
   No condition: plain lemmas. -/

import Derived.Test.YtmdnkninbkcmkaaZVPmBox
namespace Pm
set_option linter.unusedSimpArgs false
set_option linter.unusedVariables false
open Go Am

def fset {α:Type} (f:Nat→α) (j:Nat) (x:α):Nat→α:=fun i=>if i=j then x else f i
theorem qBt {α:Type} (f:Nat→α) (j:Nat) (x:α):fset f j x j=x:=by simp [fset]
theorem qAz {α:Type} {f:Nat→α} {i j:Nat} {x:α} (h:i≠j):fset f j x i=f i:=by simp [fset,h]
def ptrO (x:Value) (i:Nat):Value:=match x with | .slice (some a) _ ver=>.pointer (some ⟨a.block,i,some ver⟩) | _=>x
structure Owns (b:Nat) (H:Heap) (v:Nat→Value) (c:Nat→List Value):Prop where
  acc:∀ j,Acc 1 b H (v j) (c j).length (c j)
  apart:∀ i j,i≠j→qLq (v i) (v j)
section
variable {b : Nat} {H H' : Heap} {v : Nat → Value} {c : Nat → List Value} {rs : List Ob}
theorem Owns.none:Owns b H (fun _=>nilS) (fun _=>[]):=⟨fun _=>Acc.nil,fun _ _ _=>qLq.nil⟩
theorem Owns.keep (h:Owns b H v c) (hk:∀ i,b≤i→i < H.length→H'[i]?=H[i]?):Owns b H' v c:=by
  refine ⟨fun j=>?_,h.apart⟩
  rcases h.acc j with ⟨h1,h2,h3⟩ | ⟨id,ver,h1,h2,h3,h4⟩
  . exact Or.inl ⟨h1,h2,h3⟩
  . exact Or.inr ⟨id,ver,h1,h2,by rw [hk id h2 (List.getElem?_eq_some_iff.1 h3).1]; exact h3,h4⟩
theorem Owns.app (h:Owns b H v c):Owns b (H++rs) v c:=h.keep fun i _ hi=>List.getElem?_append_left hi
theorem Owns.idx (h:Owns b H v c) (j:Nat) {i:Nat} (hi:i < (c j).length):qIf 1 (v j) (vI i)=some (ptrO (v j) i):=by
  rcases h.acc j with ⟨h1,h2,h3⟩ | ⟨id,ver,h1,h2,h3,h4⟩
  . rw [h3] at hi; simp at hi
  . rw [h1]
    have h5:(0:Int)≤i∧(i:Int) < ((c j).length:Int):=by omega
    simp [qIf,qFn,qIz,ptrO];exact hi
theorem Owns.len (h:Owns b H v c) (j:Nat):pLen (v j)=some (vI (c j).length):=(h.acc j).len
theorem Owns.ld (h:Owns b H v c) (rs:List Ob) (j:Nat) {i:Nat} (hi:i < (c j).length):pLd (H++rs) (ptrO (v j) i)=(c j)[i]?:=by
  rcases h.acc j with ⟨h1,h2,h3⟩ | ⟨id,ver,h1,h2,h3,h4⟩
  . rw [h3] at hi; simp at hi
  . have hl:=(List.getElem?_eq_some_iff.1 h3).1
    rw [h1];simp [pLd,qEs,ptrO,ldV,Heap.cell?,Heap.row?,List.getElem?_append_left hl,h3]
theorem Owns.low (h:Owns b H v c) {i:Nat} (hi:i < b):∀ m,rid (v m)≠some i:=by
  intro m hm;rcases h.acc m with ⟨h1,_⟩ | ⟨id,ver,h1,h2,_⟩
  . rw [h1] at hm; simp [rid] at hm
  . rw [h1] at hm; simp [rid] at hm; omega
theorem Owns.high (h:Owns b H v c) {i:Nat} (hi:H.length≤i):∀ m,rid (v m)≠some i:=fun m hm=>by
  have:=(h.acc m).lt hm;omega
theorem Owns.store (h:Owns b H v c) (j:Nat) {i:Nat} (hi:i < (c j).length) {x:Value} (hx:cellsOf x=some [x]) :
    ∃ H',(∀ rs,qCm (H++rs) 1 (ptrO (v j) i) x=some (H'++rs))∧H'.length=H.length∧Owns b H' v (fset c j ((c j).set i x))∧∀ i,(∀ m,rid (v m)≠some i)→H'[i]?=H[i]?:=by
  rcases h.acc j with ⟨h1,h2,h3⟩ | ⟨id,ver,h1,h2,h3,h4⟩
  . rw [h3] at hi; simp at hi
  . have hl:=(List.getElem?_eq_some_iff.1 h3).1
    have hs:setAll (c j) i [x]=(c j).set i x:=rfl;refine ⟨H.set id (.row ⟨(c j).set i x,1,ver,true⟩),fun rs=>?_,by simp,⟨fun m=>?_,h.apart⟩,fun m hm=>by rw [List.getElem?_set_ne (fun e=>hm j (by rw [h1,← e]; rfl))]⟩
    . rw [h1]
      simp only [qCm,ptrO,hx,Heap.row?,List.getElem?_append_left hl,h3,if_true];rw [if_pos ⟨trivial,rfl,by simp; omega⟩,hs,List.set_append_left _ _ hl]
    . by_cases hm:m=j
      . subst hm
        rw [qBt];refine Or.inr ⟨id,ver,by simp [h1],h2,by rw [List.getElem?_set_self hl],by simp⟩
      . rw [qAz hm]
        refine (h.acc m).keep fun i hi'=>?_
        rw [List.getElem?_set_ne];rintro rfl;exact h.apart m j hm _ hi' (by rw [h1]; rfl)
theorem Owns.more (h:Owns b H v c) (j:Nat) (hb:b≤H.length) {rs:List Ob} {x:Value} {new:List Value} (hn:qDu (H++rs) 1 x=some (new.length,new)) (hlim:(c j).length+new.length≤lim) :
    ∃ v' H' g,pApp (H++rs) 1 (v j) x=some (v',H'++(rs++g))∧H'.length=H.length∧Owns b (H'++(rs++g)) (fset v j v') (fset c j (c j++new))∧(∀ i,(∀ m,rid (v m)≠some i)→H'[i]?=H[i]?)∧(∀ m,m≠j→Acc 1 b H' (v m) (c m).length (c m))∧∀ i,rid v'=some i→rid (v j)=some i∨(H++rs).length≤i:=by
  simp only [pApp,hn];rcases h.acc j with ⟨h1,h2,h3⟩ | ⟨id,ver,h1,h2,h3,h4⟩
  . rw [h1]
    simp only [qLj]
    by_cases h0:new.length=0
    . have hn0:new=[]:=List.length_eq_zero_iff.1 h0
      subst hn0;rw [if_pos List.length_nil];refine ⟨nilS,H,[],by simp,rfl,?_,fun _ _=>rfl,fun m _=>h.acc m,fun i hi=>by simp [rid] at hi⟩
      have e1:fset v j nilS=v:=by funext i; unfold fset; split<;>simp_all
      have e2:fset c j (c j++[])=c:=by funext i; unfold fset; split<;>simp_all
      rw [e1,e2];exact h.app
    . rw [if_neg h0,if_pos (by omega)]
      refine ⟨.slice (some ⟨(H++rs).length,0,Option.none⟩) new.length 0,H,[.row ⟨new,1,0,true⟩],by simp [Am.newRow],rfl,⟨fun m=>?_,fun m n hmn=>?_⟩,fun _ _=>rfl,fun m _=>h.acc m,fun i hi=>.inr (by simp only [rid,Option.some.injEq] at hi; omega)⟩
      . by_cases hm:m=j
        . subst hm
          rw [qBt,qBt,h3];refine Or.inr ⟨(H++rs).length,0,by simp,by simp; omega,?_,by simp⟩
          rw [← List.append_assoc,List.getElem?_append_right (Nat.le_refl _)]; simp
        . rw [qAz hm,qAz hm]
          exact (h.acc m).keep fun i hi=>List.getElem?_append_left ((h.acc m).lt hi)
      . have key:∀ m,m≠j→∀ i,rid (v m)=some i→i≠(H++rs).length:=fun m _ i hi=>by
          have:=(h.acc m).lt hi;simp; omega
        by_cases hm:m=j
        . subst hm
          rw [qBt,qAz (fun e=>hmn e.symm)]
          intro i hi hi';have e:i=(H++rs).length:=by simp only [rid] at hi; exact (Option.some.inj hi).symm
          exact key n (fun e=>hmn e.symm) i hi' e
        . by_cases hn':n=j
          . subst hn'
            rw [qBt,qAz hm];intro i hi hi';have e:i=(H++rs).length:=by simp only [rid] at hi'; exact (Option.some.inj hi').symm
            exact key m hm i hi e
          . rw [qAz hm,qAz hn']; exact h.apart m n hmn
  . have hl:=(List.getElem?_eq_some_iff.1 h3).1
    rw [h1];simp only [qLj,Heap.row?,List.getElem?_append_left hl,h3,if_true];rw [if_pos ⟨trivial,trivial,by simp,hlim⟩]
    refine ⟨.slice (some ⟨id,0,Option.none⟩) ((c j).length+new.length) (ver+1),H.set id (.row ⟨c j++new,1,ver+1,true⟩),[],?_,by simp,⟨fun m=>?_,fun m n hmn=>?_⟩,fun m hm=>by rw [List.getElem?_set_ne (fun e=>hm j (by rw [h1,← e]; rfl))],fun m hm=>?_,fun i hi=>.inl (by simp only [rid,Option.some.injEq] at hi ⊢; exact hi)⟩
    . rw [List.set_append_left _ _ hl,List.append_nil]
      simp
    . by_cases hm:m=j
      . subst hm
        rw [qBt,qBt];refine Or.inr ⟨id,ver+1,by simp,h2,?_,by simp⟩
        rw [List.getElem?_append_left (by simpa using hl),List.getElem?_set_self hl]
      . rw [qAz hm,qAz hm]
        refine (h.acc m).keep fun i hi'=>?_
        have hil:=(h.acc m).lt hi';rw [List.getElem?_append_left (by simpa using hil),List.getElem?_set_ne]
        rintro rfl;exact h.apart m j hm _ hi' (by rw [h1]; rfl)
    . have hj:∀ m,m≠j→qLq (v m) (.slice (some ⟨id,0,Option.none⟩) ((c j).length+new.length) (ver+1)):=fun m hm i hi hi'=>h.apart m j hm i hi (by rw [h1]; exact hi')
      by_cases hm:m=j
      . subst hm
        rw [qBt,qAz (fun e=>hmn e.symm)]
        exact (hj n (fun e=>hmn e.symm)).symm
      . by_cases hn':n=j
        . subst hn'
          rw [qBt,qAz hm];exact hj m hm
        . rw [qAz hm,qAz hn']; exact h.apart m n hmn
    . refine (h.acc m).keep fun i hi'=>?_
      rw [List.getElem?_set_ne];rintro rfl;exact h.apart m j hm _ hi' (by rw [h1]; rfl)
theorem Owns.add (h:Owns b H v c) (j:Nat) {x:Value} {l:List Value} (hj:v j=nilS) (hb:b≤H.length) (hk:qCx H.length H H') (ha:Acc 1 H.length H' x l.length l):Owns b H' (fset v j x) (fset c j l):=by
  have hx:∀ i,rid x=some i→H.length≤i:=by
    intro i hi;rcases ha with ⟨rfl,_⟩ | ⟨id,ver,rfl,h2,_⟩
    . simp [rid] at hi
    . simp [rid] at hi; omega
  have ha':Acc 1 b H' x l.length l:=by
    rcases ha with h1 | ⟨id,ver,h1,h2,h3⟩
    . exact Or.inl h1
    . exact Or.inr ⟨id,ver,h1,by omega,h3⟩
  refine ⟨fun m=>?_,fun m n hmn=>?_⟩
  . by_cases hm:m=j
    . subst hm; rw [qBt,qBt]; exact ha'
    . rw [qAz hm,qAz hm]; exact (h.acc m).ext hk
  . by_cases hm:m=j
    . subst hm
      rw [qBt,qAz (fun e=>hmn e.symm)]
      intro i hi hi';have:=hx i hi;have:=(h.acc n).lt hi';omega
    . by_cases hn':n=j
      . subst hn'
        rw [qBt,qAz hm];intro i hi hi';have:=hx i hi';have:=(h.acc m).lt hi;omega
      . rw [qAz hm,qAz hn']; exact h.apart m n hmn
theorem Owns.inl (h:Owns b H v c) (j:Nat) {l:List Int} (hl:c j=l.map vI):Inl b H (v j) (vL vI l):=by
  have:=h.acc j;rw [hl,List.length_map] at this;exact AccL.inl this (fun _=>rfl)
theorem Owns.inls (h:Owns b H v c) (j:Nat) {l:List (List Int)} (hl:(c j).length=l.length) (hc:∀ (i:Nat) (x:Value) (y:List Int),(c j)[i]?=some x→l[i]?=some y→Inl b H x (vL vI y)):Inl b H (v j) (vL (vL vI) l):=by
  rcases h.acc j with ⟨h1,h2,h3⟩ | ⟨id,ver,h1,h2,h3,h4⟩
  . have:l=[]:=List.length_eq_zero_iff.1 (by omega)
    subst this;rw [h1]; exact .nil
  . rw [h1]
    unfold vL;rw [hl];refine .row (r:=⟨c j,1,ver,true⟩) h2 (by simp [Heap.row?,h3]) (by simp; omega) (by simp) fun i x y h5 h6=>?_
    rw [List.getElem?_map] at h6;obtain ⟨z,hz,rfl⟩:=Option.map_eq_some_iff.1 h6;exact hc i x z (by simpa using h5) hz
end
structure Lies (H:Heap) (L:Nat):Prop where
  cell:∀ (rs:List Ob) (j off:Nat),(H++rs).cell? (L+j) off 0=qRz rs[j]? off
  cell0:∀ (rs:List Ob) (off:Nat),(H++rs).cell? L off 0=qRz rs[0]? off
  cells:∀ (rs:List Ob) (j off n:Nat),(H++rs).cells? (L+j) off 0 n=qOr rs[j]? off n
  cells0:∀ (rs:List Ob) (off n:Nat),(H++rs).cells? L off 0 n=qOr rs[0]? off n
  store:∀ (rs:List Ob) (j off n:Nat) (v:Value),qCm (H++rs) n (.pointer (some ⟨L+j,off,some 0⟩)) v=match cellsOf v with | some vs=>(qKz rs[j]? off n vs).map fun r=>H++rs.set j r | none=>none
  store0:∀ (rs:List Ob) (off n:Nat) (v:Value),qCm (H++rs) n (.pointer (some ⟨L,off,some 0⟩)) v=match cellsOf v with | some vs=>(qKz rs[0]? off n vs).map fun r=>H++rs.set 0 r | none=>none
  len:∀ rs:List Ob,(H++rs).length=L+rs.length
theorem lies {H:Heap} {L:Nat} (h:H.length=L):Lies H L:=by
  subst h;exact ⟨fun _ _ _=>qAi,fun _ _=>qAf,fun _ _ _ _=>qAe,fun _ _ _=>qAb,fun _ _ _ _ _=>qAc,fun _ _ _ _=>qAa,fun _=>List.length_append⟩
end Pm
