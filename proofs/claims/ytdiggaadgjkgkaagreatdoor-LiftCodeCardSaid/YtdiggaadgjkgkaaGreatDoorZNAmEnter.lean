/- The abstract machine: how a call's arguments come into it: rows that are read only; and what a law's call leaves as it was.
   No condition: plain lemmas. -/
import Derived.Below
import Derived.Test.YtdiggaadgjkgkaaGreatDoorZNAmRep
namespace Am
set_option linter.unusedSimpArgs false
set_option linter.unusedVariables false
open Go

def RO (H:Heap):Prop:=∀ (id:Nat) (r:Row),H[id]?=some (.row r)→r.rw=false
theorem RO.nil:RO []:=fun id r h=>by simp at h

theorem cell_in {w:World} {a:Addr} {v:Value} (h:w.cell? a=some v):∃ (cs:Array Value) (T:TypeId) (fz:Nat×Nat),a.spot=none∧w.heap[a.block]?=some (.cells cs T fz)∧cs[a.off]?=some v:=by
  have hs:=World.cell?_spot h;obtain ⟨b,o,s⟩:=a;simp only at hs;subst hs;simp only [World.cell?] at h
  split at h
  . rename_i cs T fz hb
    exact ⟨cs,T,fz,rfl,hb,by simpa using h⟩
  . cases h

theorem ARel.ro {m:Mu} {H:Heap} {w:World} (h:ARel m H w) (hro:RO H) {b:Nat} {cs:Array Value} {T:TypeId} {fz:Nat×Nat} (hb:w.heap[b]?=some (.cells cs T fz)) {off:Nat} {vs:List Value} (hsz:off+vs.length≤cs.size)
    (hv:∀ (j:Nat) (v:Value),vs[j]?=some v→∃ c,cs[off+j]?=some c∧VRel m v c∧cellLike v=true) (esz:Nat) :
    ARel (m.put H.length 0 ⟨b,off,vs.length,esz⟩) (H++[.row ⟨vs,esz,0,false⟩]) w∧RO (H++[.row ⟨vs,esz,0,false⟩])∧MExt m (m.put H.length 0 ⟨b,off,vs.length,esz⟩):=by
  have hnone:∀ ver,m H.length ver=none:=by
    intro ver;cases hm:m H.length ver with
    | none=>rfl
    | some L=>obtain ⟨r,hr,_⟩:=h.fresh _ ver L hm; simp at hr
  have hext:MExt m (m.put H.length 0 ⟨b,off,vs.length,esz⟩):=Mu.put_ext (hnone 0);have key:∀ (id:Nat) (r:Row),(H++[Ob.row ⟨vs,esz,0,false⟩])[id]?=some (.row r)→(id < H.length∧H[id]?=some (.row r))∨(id=H.length∧r=⟨vs,esz,0,false⟩):=by
    intro id r hr;rcases Nat.lt_or_ge id H.length with h' | h'
    . rw [List.getElem?_append_left h'] at hr; exact .inl ⟨h',hr⟩
    . rw [List.getElem?_append_right h'] at hr
      have hi:id - H.length < 1:=by simpa using (List.getElem?_eq_some_iff.1 hr).1
      have e:id=H.length:=by omega
      subst e;simp at hr; exact .inr ⟨rfl,hr.symm⟩
  have hro':RO (H++[.row ⟨vs,esz,0,false⟩]):=by
    intro id r hr;rcases key id r hr with ⟨_,h1⟩ | ⟨_,rfl⟩
    . exact hro id r h1
    . rfl
  refine ⟨⟨⟨fun id r hr=>?_,fun id r L id' r' L' h1 _ h3=>(by rw [hro' id r h1] at h3; cases h3),fun id ver L hL=>?_,fun id ver L hL=>?_⟩,⟨h.glob.tab,fun g vs e ⟨id,r,L,h1,h2,_⟩=>by rw [hro' id r h1] at h2; cases h2⟩⟩,hro',hext⟩
  . rcases key id r hr with ⟨_,h1⟩ | ⟨rfl,rfl⟩
    . obtain ⟨L,cs',T',fz',k1,k2,k3,k4,k5,k6,k7⟩:=h.row id r h1
      exact ⟨L,cs',T',fz',hext _ _ _ k1,k2,k3,k4,k5,fun j v hj=>by obtain ⟨c,z1,z2,z3⟩:=k6 j v hj; exact ⟨c,z1,z2.mono hext,z3⟩,k7⟩
    . exact ⟨_,cs,T,fz,Mu.put_same _ _ _ _,hb,rfl,hsz,Nat.le_refl _,fun j v hj=>by obtain ⟨c,z1,z2,z3⟩:=hv j v hj; exact ⟨c,z1,z2.mono hext,z3⟩,fun h=>by cases h⟩
  . unfold Mu.put at hL
    split at hL
    . rename_i e; exact ⟨_,by rw [e.1]; exact List.getElem?_concat_length ..,by omega⟩
    . obtain ⟨r,hr,hle⟩:=h.fresh id ver L hL
      exact ⟨r,by rw [List.getElem?_append_left (List.getElem?_eq_some_iff.1 hr).1]; exact hr,hle⟩
  . unfold Mu.put at hL
    split at hL
    . cases hL; exact (Array.getElem?_eq_some_iff.1 hb).1
    . exact h.lt id ver L hL

structure Came (m:Mu) (H:Heap) (w:World):Prop where
  rel:ARel m H w
  ro:RO H
theorem Came.start {w:World} (hg:GlobW w):Came (fun _ _=>none) [] w:=⟨.empty hg,.nil⟩

theorem Came.row {m:Mu} {H:Heap} {w:World} (h:Came m H w) {x:Addr} {vs:List Value} (hne:vs≠[]) {cs:List Value} (hcs:VRels m vs cs) (hc:∀ v∈vs,cellLike v=true) (hcell:∀ (j:Nat) (c:Value),cs[j]?=some c→w.cell? (x.add j)=some c) (esz:Nat) :
    x.spot=none∧∃ m',Came m' (H++[.row ⟨vs,esz,0,false⟩]) w∧MExt m m'∧m' H.length 0=some ⟨x.block,x.off,vs.length,esz⟩:=by
  cases vs with
  | nil=>exact absurd rfl hne
  | cons v vs =>
    obtain ⟨c,hc0,_⟩:=hcs.get 0 v rfl;have h0:=hcell 0 c hc0;obtain ⟨b,o,s⟩:=x;have hsp:s=none:=by
      have:=World.cell?_spot h0;cases s with
      | none=>rfl
      | some s=>simp [Addr.add] at this
    subst hsp;rw [qEg] at h0;obtain ⟨arr,T,fz,_,hb,_⟩:=cell_in h0;simp only at hb;have hat:∀ (j:Nat) (c:Value),cs[j]?=some c→arr[o+j]?=some c:=by
      intro j c hj;have:=hcell j c hj;rw [qEg] at this;obtain ⟨arr',T',fz',_,hb',hc'⟩:=cell_in this;simp only at hb' hc';rw [hb] at hb'; cases hb';exact hc'
    have hlen:o+(v :: vs).length≤arr.size:=by
      have hl:=hcs.length;have:vs.length < cs.length:=by simp at hl; omega
      have:=hat vs.length _ (List.getElem?_eq_getElem this);have:=(Array.getElem?_eq_some_iff.1 this).1;simp; omega
    obtain ⟨q1,q2,q3⟩:=h.rel.ro h.ro hb hlen (fun j v' hj=>by obtain ⟨c,z1,z2⟩:=hcs.get j v' hj; exact ⟨c,hat j c z1,z2,hc v' (List.mem_of_getElem? hj)⟩) esz
    exact ⟨rfl,_,⟨q1,q2⟩,q3,Mu.put_same _ _ _ _⟩

theorem L1.map {α β:Type} {f:α→Value} {g:β→Value} {h:α→β} {S:Nat→Prop} {H:Heap} {v:Value} {l:List α} (hl:L1 f S H v l) (he:∀ x∈l,f x=g (h x)):L1 g S H v (l.map h):=by
  rcases hl with ⟨rfl,rfl⟩ | ⟨id,off,ver,r,h1,h2,h3,h4,h5,h6,h7⟩
  . exact .inl ⟨rfl,rfl⟩
  . refine .inr ⟨id,off,ver,r,by simpa using h1,h2,h3,h4,h5,by simpa using h6,fun i y hy=>?_⟩
    rw [List.getElem?_map] at hy;obtain ⟨x,hx,rfl⟩:=Option.map_eq_some_iff.1 hy;have:=h7 i x hx;simp only [One] at this ⊢;rw [this,he x (List.mem_of_getElem? hx)]

theorem law_of {P:Program} {f:FuncId} {args:List Value} {m:Mu} {H:Heap} {w:World} {cargs:Array Value} (h:qCq P f args H fun r _=>r=.bool true) (hc:Came m H w) (hv:VRels m args cargs.toList) :
    Calls P f cargs w fun e w'=>e=.returned (.bool true)∧RowKit.Below w.heap.size w w':=by
  refine (h m w cargs hc.rel hv).mono fun e w'=>?_
  rintro ⟨v,c,H',m',rfl,rfl,hvc,hA',hK⟩;refine ⟨by rw [qFn hvc],⟨hK.os,hK.tape,hK.output,hK.size,fun b hb=>hK.same b hb ?_⟩⟩
  rintro ⟨id,r,L,h1,h2,_⟩;rw [hc.ro id r h1] at h2; cases h2
end Am
