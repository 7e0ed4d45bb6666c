/- The abstract machine, first part: its heap (rows numbered one behind the other), its values, and how both stand to a world of the model; new rows, stores, and what may be forgotten.
   No condition: plain lemmas. -/
import Derived.WalkKit
namespace Am
set_option linter.unusedSimpArgs false
set_option linter.unusedVariables false
open Go

structure Row where
  cells:List Value
  esz:Nat
  ver:Nat
  rw:Bool

inductive Ob where
  | row (r:Row)
  | hole

abbrev Heap:=List Ob

structure Loc where
  blk:Nat
  base:Nat
  room:Nat
  esz:Nat

abbrev Mu:=Nat→Nat→Option Loc

def Mu.put (m:Mu) (id ver:Nat) (L:Loc):Mu:=fun i v=>if i=id∧v=ver then some L else m i v

def MExt (m m':Mu):Prop:=∀ id ver L,m id ver=some L→m' id ver=some L

theorem MExt.refl (m:Mu):MExt m m:=fun _ _ _ h=>h
theorem MExt.trans {a b c:Mu} (h:MExt a b) (k:MExt b c):MExt a c:=fun _ _ _ x=>k _ _ _ (h _ _ _ x)
theorem Mu.put_same (m:Mu) (id ver:Nat) (L:Loc):m.put id ver L id ver=some L:=by simp [Mu.put]
theorem Mu.put_ext {m:Mu} {id ver:Nat} {L:Loc} (h:m id ver=none):MExt m (m.put id ver L):=by
  intro i v L' h';unfold Mu.put
  split
  . rename_i e; rw [e.1,e.2,h] at h'; cases h'
  . exact h'

inductive VRel (m:Mu):Value→Value→Prop
  | bool (b:Bool):VRel m (.bool b) (.bool b)
  | int (k:IntKind) (n:Int):VRel m (.int k n) (.int k n)
  | string (s:ByteArray):VRel m (.string s) (.string s)
  | ptrNil:VRel m (.pointer none) (.pointer none)
  | ptr {id off ver:Nat} {L:Loc} (h:m id ver=some L):VRel m (.pointer (some ⟨id,off,some ver⟩)) (.pointer (some ⟨L.blk,L.base+off,none⟩))
  | sliceNil (a:Option Addr):VRel m (.slice none 0 0) (.slice a 0 0)
  | slice {id off len ver cap:Nat} {L:Loc} (h:m id ver=some L) (hl:len≤cap) (hr:off+cap * L.esz≤L.room) (hm:cap≤maxLen) :
      VRel m (.slice (some ⟨id,off,none⟩) len ver) (.slice (some ⟨L.blk,L.base+off,none⟩) len cap)
  | sliceEnd {id off ver:Nat} {L:Loc} (h:m id ver=some L) (a:Option Addr):VRel m (.slice (some ⟨id,off,none⟩) 0 ver) (.slice a 0 0)
  | agg {xs ys:Array Value} (hs:xs.size=ys.size) (h:∀ (i:Nat) (x y:Value),xs[i]?=some x→ys[i]?=some y→VRel m x y):VRel m (.agg xs) (.agg ys)
  | tup {xs ys:Array Value} (hs:xs.size=ys.size) (h:∀ (i:Nat) (x y:Value),xs[i]?=some x→ys[i]?=some y→VRel m x y):VRel m (.tuple xs) (.tuple ys)
  | func {fn:Fn} {f1 g1 f2 g2:Array Value} (hs:f1.size=f2.size) (h:∀ (i:Nat) (x y:Value),f1[i]?=some x→f2[i]?=some y→VRel m x y)
      (hs':g1.size=g2.size) (h':∀ (i:Nat) (x y:Value),g1[i]?=some x→g2[i]?=some y→VRel m x y):VRel m (.func fn f1 g1) (.func fn f2 g2)
  | nilFunc:VRel m .nilFunc .nilFunc
  | nilIface:VRel m .nilIface .nilIface
  | iface {t:TypeId} {x y:Value} (h:VRel m x y):VRel m (.iface t x) (.iface t y)

theorem VRel.mono {m m':Mu} {v c:Value} (h:VRel m v c) (e:MExt m m'):VRel m' v c:=by
  induction h with
  | bool b=>exact .bool b
  | int k n=>exact .int k n
  | string s=>exact .string s
  | ptrNil=>exact .ptrNil
  | ptr h=>exact .ptr (e _ _ _ h)
  | sliceNil a=>exact .sliceNil a
  | slice h hl hr hm=>exact .slice (e _ _ _ h) hl hr hm
  | sliceEnd h a=>exact .sliceEnd (e _ _ _ h) a
  | agg hs _ ih=>exact .agg hs (fun i x y hx hy=>ih i x y hx hy)
  | tup hs _ ih=>exact .tup hs (fun i x y hx hy=>ih i x y hx hy)
  | func hs _ hs' _ ih ih'=>exact .func hs (fun i x y hx hy=>ih i x y hx hy) hs' (fun i x y hx hy=>ih' i x y hx hy)
  | nilFunc=>exact .nilFunc
  | nilIface=>exact .nilIface
  | iface _ ih=>exact .iface ih

theorem qCk {α:Type} {xs:Array α} {i:Nat} (h:i < xs.size):∃ x,xs[i]?=some x:=⟨_,Array.getElem?_eq_getElem h⟩
theorem qCi {α:Type} {xs:Array α} {i:Nat} {x:α} (h:xs[i]?=some x):i < xs.size:=(Array.getElem?_eq_some_iff.1 h).1

theorem VRel.undef (m:Mu):VRel m (.tuple #[]) (.tuple #[]):=.tup rfl fun i x y h=>by simp at h

theorem VRel.back {m m':Mu} {v c c':Value} (h:VRel m v c) (e:MExt m m') (h':VRel m' v c'):VRel m v c':=by
  induction h generalizing c' with
  | bool b=>cases h'; exact .bool b
  | int k n=>cases h'; exact .int k n
  | string s=>cases h'; exact .string s
  | ptrNil=>cases h'; exact .ptrNil
  | ptr h =>
    cases h' with
    | ptr k=>rw [e _ _ _ h] at k; cases k; exact .ptr h
  | sliceNil a=>cases h'; exact .sliceNil _
  | slice h hl hr hm =>
    cases h' with
    | slice k hl' hr' hm'=>rw [e _ _ _ h] at k; cases k; exact .slice h hl' hr' hm'
    | sliceEnd k a=>exact .sliceEnd h a
  | sliceEnd h a =>
    cases h' with
    | slice k hl' hr' hm'=>rw [e _ _ _ h] at k; cases k; exact .slice h hl' hr' hm'
    | sliceEnd k a=>exact .sliceEnd h a
  | agg hs h1 ih =>
    cases h' with
    | agg hs' k =>
      refine .agg hs' fun i x y hx hy=>?_
      obtain ⟨z,hz⟩:=qCk (hs ▸ qCi hx);exact ih i x z hx hz (k i x y hx hy)
  | tup hs h1 ih =>
    cases h' with
    | tup hs' k =>
      refine .tup hs' fun i x y hx hy=>?_
      obtain ⟨z,hz⟩:=qCk (hs ▸ qCi hx);exact ih i x z hx hz (k i x y hx hy)
  | func hs h1 hs2 h2 ih ih' =>
    cases h' with
    | func hs' k hs2' k' =>
      refine .func hs' (fun i x y hx hy=>?_) hs2' (fun i x y hx hy=>?_)
      . obtain ⟨z,hz⟩:=qCk (hs ▸ qCi hx)
        exact ih i x z hx hz (k i x y hx hy)
      . obtain ⟨z,hz⟩:=qCk (hs2 ▸ qCi hx)
        exact ih' i x z hx hz (k' i x y hx hy)
  | nilFunc=>cases h'; exact .nilFunc
  | nilIface=>cases h'; exact .nilIface
  | iface _ ih=>cases h' with | iface k=>exact .iface (ih k)

def cellLike:Value→Bool
  | .agg _=>false
  | .tuple _=>false
  | _=>true

theorem VRel.cellLike {m:Mu} {v c:Value} (h:VRel m v c) (hv:cellLike v=true):cellLike c=true:=by
  cases h<;>simp_all [Am.cellLike]

structure ARel0 (m:Mu) (H:Heap) (w:World):Prop where
  row:∀ (id:Nat) (r:Row),H[id]?=some (.row r)→∃ (L:Loc) (cs:Array Value) (T:TypeId) (fz:Nat×Nat),m id r.ver=some L ∧
    w.heap[L.blk]?=some (.cells cs T fz)∧L.esz=r.esz∧L.base+L.room≤cs.size∧r.cells.length≤L.room ∧
    (∀ (j:Nat) (v:Value),r.cells[j]?=some v→∃ c,cs[L.base+j]?=some c∧VRel m v c∧cellLike v=true)∧(r.rw=true→fz=(0,0))
  sep:∀ (id:Nat) (r:Row) (L:Loc) (id':Nat) (r':Row) (L':Loc),H[id]?=some (.row r)→m id r.ver=some L→r.rw=true →
    H[id']?=some (.row r')→m id' r'.ver=some L'→L.blk=L'.blk→id'=id
  fresh:∀ (id ver:Nat) (L:Loc),m id ver=some L→∃ r,H[id]?=some (.row r)∧ver≤r.ver
  lt:∀ (id ver:Nat) (L:Loc),m id ver=some L→L.blk < w.heap.size

def RW (m:Mu) (H:Heap) (b:Nat):Prop:=∃ (id:Nat) (r:Row) (L:Loc),H[id]?=some (.row r)∧r.rw=true∧m id r.ver=some L∧L.blk=b

structure Kept (m:Mu) (H:Heap) (w:World) (m':Mu) (H':Heap) (w':World):Prop where
  size:w.heap.size≤w'.heap.size
  os:w'.os=w.os
  tape:w'.tape=w.tape
  output:w'.output=w.output
  same:∀ b,b < w.heap.size→¬ RW m H b→w'.heap[b]?=w.heap[b]?
  rw:∀ b,RW m' H' b→RW m H b∨w.heap.size≤b
  ext:MExt m m'
  dom:∀ (id ver:Nat) (L:Loc),m' id ver=some L→(∃ (id0 ver0:Nat) (L0:Loc),m id0 ver0=some L0∧L0.blk=L.blk)∨w.heap.size≤L.blk

def tab64:List Int:=[0,1,56,2,57,49,28,3,61,58,42,50,38,29,17,4,62,47,59,36,45,43,51,22,53,39,33,30,24,18,12,5,63,55,48,27,60,41,37,16,46,35,44,21,52,32,23,11,54,26,40,15,34,20,31,10,25,14,19,9,13,8,7,6]
def gtab:Option (Nat×List Value):=some (0,tab64.map fun n:Int=>.int .u8 n)
def GlobW (w:World):Prop:=∀ (g:Nat) (vs:List Value),gtab=some (g,vs)→∃ cs T fz,w.heap[g]?=some (.cells cs T fz)∧cs.toList=vs
structure Glob (m:Mu) (H:Heap) (w:World):Prop where
  tab:GlobW w
  no:∀ (g:Nat) (vs:List Value),gtab=some (g,vs)→¬ RW m H g
theorem Glob.kept {m m':Mu} {H H':Heap} {w w':World} (h:Glob m H w) (k:Kept m H w m' H' w'):Glob m' H' w':=by
  refine ⟨fun g vs e=>?_,fun g vs e hr=>?_⟩
  . obtain ⟨cs,T,fz,h1,h2⟩:=h.tab g vs e
    exact ⟨cs,T,fz,by rw [k.same g (Array.getElem?_eq_some_iff.1 h1).1 (h.no g vs e)]; exact h1,h2⟩
  . obtain ⟨cs,T,fz,h1,h2⟩:=h.tab g vs e
    rcases k.rw g hr with h' | h'
    . exact h.no g vs e h'
    . have:=(Array.getElem?_eq_some_iff.1 h1).1; omega
structure ARel (m:Mu) (H:Heap) (w:World):Prop extends ARel0 m H w where
  glob:Glob m H w

theorem Kept.refl (m:Mu) (H:Heap) (w:World):Kept m H w m H w:=⟨Nat.le_refl _,rfl,rfl,rfl,fun _ _ _=>rfl,fun _ h=>.inl h,.refl m,fun id ver L h=>.inl ⟨id,ver,L,h,rfl⟩⟩

theorem Kept.trans {m m1 m2:Mu} {H H1 H2:Heap} {w w1 w2:World} (h:Kept m H w m1 H1 w1) (k:Kept m1 H1 w1 m2 H2 w2):Kept m H w m2 H2 w2:=by
  refine ⟨Nat.le_trans h.size k.size,k.os.trans h.os,k.tape.trans h.tape,k.output.trans h.output,fun b hb hn=>?_,fun b hb=>?_,h.ext.trans k.ext,fun id ver L hL=>?_⟩
  . rw [k.same b (Nat.lt_of_lt_of_le hb h.size) (fun hr=>(h.rw b hr).elim hn (by omega)),h.same b hb hn]
  . rcases k.rw b hb with h' | h'
    . exact h.rw b h'
    . exact .inr (Nat.le_trans h.size h')
  . rcases k.dom id ver L hL with ⟨i,v,L1,h1,h2⟩ | h1
    . rcases h.dom i v L1 h1 with ⟨i0,v0,L0,h3,h4⟩ | h3
      . exact .inl ⟨i0,v0,L0,h3,h4.trans h2⟩
      . exact .inr (by omega)
    . exact .inr (Nat.le_trans h.size h1)

theorem ARel.drew {m:Mu} {H:Heap} {w:World} (h:ARel m H w) (n:Nat):ARel m H { w with drawn:=n }:=⟨⟨h.row,h.sep,h.fresh,h.lt⟩,⟨h.glob.tab,h.glob.no⟩⟩
theorem Kept.drew (m:Mu) (H:Heap) (w:World) (n:Nat):Kept m H w m H { w with drawn:=n }:=⟨Nat.le_refl _,rfl,rfl,rfl,fun _ _ _=>rfl,fun _ h=>.inl h,.refl m,fun id ver L h=>.inl ⟨id,ver,L,h,rfl⟩⟩

theorem RW.of_hole {m:Mu} {H:Heap} {b:Nat} (h:RW m (H++[.hole]) b):RW m H b:=by
  obtain ⟨id,r,L,hr,h1,h2,h3⟩:=h;refine ⟨id,r,L,?_,h1,h2,h3⟩;rcases Nat.lt_or_ge id H.length with h' | h'
  . rwa [List.getElem?_append_left h'] at hr
  . rw [List.getElem?_append_right h'] at hr
    rcases Nat.eq_zero_or_pos (id - H.length) with h0 | h0
    . simp [h0] at hr
    . rw [List.getElem?_eq_none (by simp; omega)] at hr; cases hr
theorem ARel.hole {m:Mu} {H:Heap} {w:World} (h:ARel m H w):ARel m (H++[.hole]) w:=by
  have key:∀ (id:Nat) (r:Row),(H++[Ob.hole])[id]?=some (.row r)→H[id]?=some (.row r):=by
    intro id r hr;rcases Nat.lt_or_ge id H.length with h' | h'
    . rwa [List.getElem?_append_left h'] at hr
    . rw [List.getElem?_append_right h'] at hr
      rcases Nat.eq_zero_or_pos (id - H.length) with h0 | h0
      . simp [h0] at hr
      . rw [List.getElem?_eq_none (by simp; omega)] at hr; cases hr
  refine ⟨⟨fun id r hr=>h.row id r (key id r hr),fun id r L id' r' L' h1 h2 h3 h4 h5=>h.sep id r L id' r' L' (key _ _ h1) h2 h3 (key _ _ h4) h5,fun id ver L hm=>?_,h.lt⟩,⟨h.glob.tab,fun g vs e hr=>h.glob.no g vs e hr.of_hole⟩⟩
  obtain ⟨r,hr,hv⟩:=h.fresh id ver L hm;exact ⟨r,by rw [List.getElem?_append_left (List.getElem?_eq_some_iff.1 hr).1]; exact hr,hv⟩

theorem RW.hole {m:Mu} {H:Heap} {b:Nat} (h:RW m H b):RW m (H++[.hole]) b:=by
  obtain ⟨id,r,L,hr,h1,h2,h3⟩:=h;exact ⟨id,r,L,by rw [List.getElem?_append_left (List.getElem?_eq_some_iff.1 hr).1]; exact hr,h1,h2,h3⟩

inductive VRels (m:Mu):List Value→List Value→Prop
  | nil:VRels m [] []
  | cons {v c:Value} {vs cs:List Value} (h:VRel m v c) (t:VRels m vs cs):VRels m (v :: vs) (c :: cs)

theorem VRels.mono {m m':Mu} {vs cs:List Value} (h:VRels m vs cs) (e:MExt m m'):VRels m' vs cs:=by
  induction h with
  | nil=>exact .nil
  | cons h _ ih=>exact .cons (h.mono e) ih
theorem VRels.length {m:Mu} {vs cs:List Value} (h:VRels m vs cs):vs.length=cs.length:=by
  induction h with
  | nil=>rfl
  | cons _ _ ih=>simp [ih]
theorem VRels.get {m:Mu} {vs cs:List Value} (h:VRels m vs cs):∀ (i:Nat) (v:Value),vs[i]?=some v→∃ c,cs[i]?=some c∧VRel m v c:=by
  induction h with
  | nil=>intro i v hv; simp at hv
  | cons h _ ih =>
    intro i v hv;cases i with
    | zero=>simp at hv; subst hv; exact ⟨_,rfl,h⟩
    | succ i=>simpa using ih i v (by simpa using hv)
theorem VRels.of_get {m:Mu} {vs cs:List Value} (hl:vs.length=cs.length) (h:∀ (i:Nat) (v c:Value),vs[i]?=some v→cs[i]?=some c→VRel m v c):VRels m vs cs:=by
  induction vs generalizing cs with
  | nil=>cases cs with | nil=>exact .nil | cons c cs=>simp at hl
  | cons v vs ih =>
    cases cs with
    | nil=>simp at hl
    | cons c cs=>exact .cons (h 0 v c rfl rfl) (ih (by simpa using hl) (fun i v' c' hv hc=>h (i+1) v' c' (by simpa using hv) (by simpa using hc)))
theorem VRels.append {m:Mu} {vs cs vs' cs':List Value} (h:VRels m vs cs) (k:VRels m vs' cs'):VRels m (vs++vs') (cs++cs'):=by
  induction h with
  | nil=>exact k
  | cons h _ ih=>exact .cons h ih
theorem VRels.take {m:Mu} {vs cs:List Value} (h:VRels m vs cs) (n:Nat):VRels m (vs.take n) (cs.take n):=by
  induction h generalizing n with
  | nil=>simp; exact .nil
  | cons h _ ih=>cases n with | zero=>exact .nil | succ n=>exact .cons h (ih n)
theorem VRels.drop {m:Mu} {vs cs:List Value} (h:VRels m vs cs) (n:Nat):VRels m (vs.drop n) (cs.drop n):=by
  induction h generalizing n with
  | nil=>simp; exact .nil
  | cons h t ih=>cases n with | zero=>exact .cons h t | succ n=>exact ih n
theorem VRels.set {m:Mu} {vs cs:List Value} (h:VRels m vs cs) (n:Nat) {v c:Value} (hv:VRel m v c):VRels m (vs.set n v) (cs.set n c):=by
  induction h generalizing n with
  | nil=>exact .nil
  | cons h t ih=>cases n with | zero=>exact .cons hv t | succ n=>exact .cons h (ih n)
theorem VRel.agg' {m:Mu} {xs ys:Array Value} (h:VRels m xs.toList ys.toList):VRel m (.agg xs) (.agg ys):=by
  refine .agg (by simpa using h.length) fun i x y hx hy=>?_
  obtain ⟨c,hc,hv⟩:=h.get i x (by simpa using hx)
  have:c=y:=by simpa [hy] using hc.symm
  exact this ▸ hv
theorem VRel.agg_list {m:Mu} {xs:Array Value} {c:Value} (h:VRel m (.agg xs) c):∃ ys,c=.agg ys∧VRels m xs.toList ys.toList:=by
  cases h with
  | agg hs h=>exact ⟨_,rfl,.of_get (by simpa using hs) fun i x y hx hy=>h i x y (by simpa using hx) (by simpa using hy)⟩

theorem ARel.fill0 {m:Mu} {H:Heap} {w:World} (h:ARel m H w) {id:Nat} (hid:H[id]?=some .hole) {vs:List Value} {arr:Array Value}
    (hv:∀ (j:Nat) (v:Value),vs[j]?=some v→∃ c,arr[j]?=some c∧VRel m v c) (hl:vs.length≤arr.size) (hc:∀ v∈vs,cellLike v=true) (esz T:Nat) :
    ARel0 (m.put id 0 ⟨w.heap.size,0,arr.size,esz⟩) (H.set id (.row ⟨vs,esz,0,true⟩)) (w.alloc (.cells arr T)) ∧
    Kept m H w (m.put id 0 ⟨w.heap.size,0,arr.size,esz⟩) (H.set id (.row ⟨vs,esz,0,true⟩)) (w.alloc (.cells arr T)):=by
  have hlt:id < H.length:=(List.getElem?_eq_some_iff.1 hid).1;have hnone:∀ ver,m id ver=none:=by
    intro ver;cases hm:m id ver with
    | none=>rfl
    | some L=>obtain ⟨r,hr,_⟩:=h.fresh id ver L hm; rw [hid] at hr; cases hr
  have hext:MExt m (m.put id 0 ⟨w.heap.size,0,arr.size,esz⟩):=Mu.put_ext (hnone 0);have hother:∀ (i:Nat) (r:Row),i≠id→(H.set id (.row ⟨vs,esz,0,true⟩))[i]?=some (.row r)→H[i]?=some (.row r):=by
    intro i r hi hr
    rwa [List.getElem?_set_ne (fun e=>hi e.symm)] at hr
  have hself:(H.set id (.row ⟨vs,esz,0,true⟩))[id]?=some (.row ⟨vs,esz,0,true⟩):=by rw [List.getElem?_set_self hlt]
  have hmo:∀ (i ver:Nat),i≠id→m.put id 0 ⟨w.heap.size,0,arr.size,esz⟩ i ver=m i ver:=by
    intro i ver hi; unfold Mu.put; rw [if_neg (fun e=>hi e.1)]
  have hblk:∀ (i:Nat) (r:Row) (L:Loc),H[i]?=some (.row r)→m i r.ver=some L→L.blk < w.heap.size:=by
    intro i r L hr hm;obtain ⟨L',cs',T',fz,h1,h2,_⟩:=h.row i r hr;rw [hm] at h1; cases h1;exact (Array.getElem?_eq_some_iff.1 h2).1
  refine ⟨⟨fun i r hr=>?_,fun i r L i' r' L' h1 h2 h3 h4 h5 h6=>?_,fun i ver L hm=>?_,fun i ver L hm=>by
      unfold Mu.put at hm
      split at hm
      . cases hm; simp
      . have:=h.lt _ _ _ hm; simp; omega⟩,⟨by simp,rfl,rfl,rfl,fun b hb _=>?_,fun b hb=>?_,hext,fun i ver L hL=>?_⟩⟩
  . by_cases hi:i=id
    . subst hi
      rw [hself] at hr; cases hr;refine ⟨⟨w.heap.size,0,arr.size,esz⟩,arr,T,(0,0),Mu.put_same _ _ _ _,by show (w.heap.push _)[w.heap.size]?=_; simp,rfl,by simp,hl,fun j v hj=>?_,fun _=>rfl⟩
      obtain ⟨c,h1,h2⟩:=hv j v hj;exact ⟨c,by simpa using h1,h2.mono hext,hc v (List.mem_of_getElem? hj)⟩
    . obtain ⟨L,cs',T',fz,h1,h2,h3,h4,h5,h6,h7⟩:=h.row i r (hother i r hi hr)
      refine ⟨L,cs',T',fz,hext _ _ _ h1,?_,h3,h4,h5,fun j v hj=>?_,h7⟩
      . have:=(Array.getElem?_eq_some_iff.1 h2).1
        simp only [World.alloc,Array.getElem?_push];rw [if_neg (by omega)]; exact h2
      . obtain ⟨c,k1,k2,k3⟩:=h6 j v hj
        exact ⟨c,k1,k2.mono hext,k3⟩
  . by_cases hi:i=id
    . by_cases hi':i'=id
      . rw [hi,hi']
      . subst hi
        rw [hself] at h1; cases h1;rw [Mu.put_same] at h2; cases h2;rw [hmo i' _ hi'] at h5;have:=hblk i' r' L' (hother i' r' hi' h4) h5;simp at h6; omega
    . by_cases hi':i'=id
      . subst hi'
        rw [hself] at h4; cases h4;rw [Mu.put_same] at h5; cases h5;rw [hmo i _ hi] at h2;have:=hblk i r L (hother i r hi h1) h2;simp at h6; omega
      . rw [hmo i _ hi] at h2
        rw [hmo i' _ hi'] at h5;exact h.sep i r L i' r' L' (hother i r hi h1) h2 h3 (hother i' r' hi' h4) h5 h6
  . by_cases hi:i=id
    . subst hi
      unfold Mu.put at hm
      split at hm
      . rename_i e
        exact ⟨_,hself,by simp [e.2]⟩
      . rw [hnone] at hm; cases hm
    . rw [hmo i ver hi] at hm
      obtain ⟨r,hr,hle⟩:=h.fresh i ver L hm;exact ⟨r,by rw [List.getElem?_set_ne (fun e=>hi e.symm)]; exact hr,hle⟩
  . simp only [World.alloc,Array.getElem?_push]
    rw [if_neg (by omega)]
  . obtain ⟨i,r,L,h1,h2,h3,h4⟩:=hb
    by_cases hi:i=id
    . subst hi
      rw [hself] at h1; cases h1;rw [Mu.put_same] at h3; cases h3;exact .inr (by simp at h4; omega)
    . rw [hmo i _ hi] at h3
      exact .inl ⟨i,r,L,hother i r hi h1,h2,h3,h4⟩
  . unfold Mu.put at hL
    split at hL
    . cases hL; exact .inr (Nat.le_refl _)
    . exact .inl ⟨i,ver,L,hL,rfl⟩

theorem ARel.fill {m:Mu} {H:Heap} {w:World} (h:ARel m H w) {id:Nat} (hid:H[id]?=some .hole) {vs:List Value} {arr:Array Value}
    (hv:∀ (j:Nat) (v:Value),vs[j]?=some v→∃ c,arr[j]?=some c∧VRel m v c) (hl:vs.length≤arr.size) (hc:∀ v∈vs,cellLike v=true) (esz T:Nat) :
    ARel (m.put id 0 ⟨w.heap.size,0,arr.size,esz⟩) (H.set id (.row ⟨vs,esz,0,true⟩)) (w.alloc (.cells arr T)) ∧
    Kept m H w (m.put id 0 ⟨w.heap.size,0,arr.size,esz⟩) (H.set id (.row ⟨vs,esz,0,true⟩)) (w.alloc (.cells arr T)) :=
  have h0:=h.fill0 hid hv hl hc esz T
  ⟨⟨h0.1,h.glob.kept h0.2⟩,h0.2⟩

theorem ARel.pushG {m:Mu} {H:Heap} {w:World} (h:ARel m H w) {vs:List Value} {arr:Array Value}
    (hv:∀ (j:Nat) (v:Value),vs[j]?=some v→∃ c,arr[j]?=some c∧VRel m v c) (hl:vs.length≤arr.size) (hc:∀ v∈vs,cellLike v=true) (esz T:Nat) :
    ARel (m.put H.length 0 ⟨w.heap.size,0,arr.size,esz⟩) (H++[.row ⟨vs,esz,0,true⟩]) (w.alloc (.cells arr T)) ∧
    Kept m H w (m.put H.length 0 ⟨w.heap.size,0,arr.size,esz⟩) (H++[.row ⟨vs,esz,0,true⟩]) (w.alloc (.cells arr T)):=by
  have hid:(H++[Ob.hole])[H.length]?=some .hole:=by simp
  have e:(H++[Ob.hole]).set H.length (.row ⟨vs,esz,0,true⟩)=H++[.row ⟨vs,esz,0,true⟩]:=by simp
  obtain ⟨h1,h2⟩:=h.hole.fill hid hv hl hc esz T;rw [e] at h1 h2;exact ⟨h1,h2.size,h2.os,h2.tape,h2.output,fun b hb hn=>h2.same b hb (fun hr=>hn hr.of_hole),fun b hb=>(h2.rw b hb).imp RW.of_hole id,h2.ext,h2.dom⟩
theorem ARel.push {m:Mu} {H:Heap} {w:World} (h:ARel m H w) {vs cs:List Value} (hv:VRels m vs cs) (hc:∀ v∈vs,cellLike v=true) (esz T:Nat) :
    ARel (m.put H.length 0 ⟨w.heap.size,0,vs.length,esz⟩) (H++[.row ⟨vs,esz,0,true⟩]) (w.alloc (.cells cs.toArray T)) ∧
    Kept m H w (m.put H.length 0 ⟨w.heap.size,0,vs.length,esz⟩) (H++[.row ⟨vs,esz,0,true⟩]) (w.alloc (.cells cs.toArray T)):=by
  have:=h.pushG (arr:=cs.toArray) (fun j v hj=>by obtain ⟨c,k1,k2⟩:=hv.get j v hj; exact ⟨c,by simpa using k1,k2⟩) (by simp [hv.length]) hc esz T
  simpa [hv.length] using this

theorem ARel.adopt {m:Mu} {H:Heap} {w:World} (h:ARel m H w) {B:Nat} {arr:Array Value} {T:TypeId} (hB:w.heap[B]?=some (.cells arr T (0,0))) (hun:∀ (id ver:Nat) (L:Loc),m id ver=some L→L.blk≠B) (hg:∀ g vs,gtab=some (g,vs)→B≠g)
    {vs:List Value} (hv:∀ (j:Nat) (v:Value),vs[j]?=some v→∃ c,arr[j]?=some c∧VRel m v c) (hl:vs.length≤arr.size) (hc:∀ v∈vs,cellLike v=true) (esz:Nat) :
    ARel (m.put H.length 0 ⟨B,0,arr.size,esz⟩) (H++[.row ⟨vs,esz,0,true⟩]) w:=by
  have hnone:∀ ver,m H.length ver=none:=by
    intro ver;cases hm:m H.length ver with
    | none=>rfl
    | some L=>obtain ⟨r,hr,_⟩:=h.fresh _ ver L hm; simp at hr
  have hext:MExt m (m.put H.length 0 ⟨B,0,arr.size,esz⟩):=Mu.put_ext (hnone 0);have hself:(H++[Ob.row ⟨vs,esz,0,true⟩])[H.length]?=some (.row ⟨vs,esz,0,true⟩):=by simp
  have hother:∀ (i:Nat) (r:Row),i≠H.length→(H++[Ob.row ⟨vs,esz,0,true⟩])[i]?=some (.row r)→H[i]?=some (.row r):=by
    intro i r hi hr;rcases Nat.lt_or_ge i H.length with h' | h'
    . rwa [List.getElem?_append_left h'] at hr
    . rw [List.getElem?_append_right h',List.getElem?_eq_none (by simp; omega)] at hr; cases hr
  have hmo:∀ (i ver:Nat),i≠H.length→m.put H.length 0 ⟨B,0,arr.size,esz⟩ i ver=m i ver:=by
    intro i ver hi; unfold Mu.put; rw [if_neg (fun e=>hi e.1)]
  have hgl:Glob (m.put H.length 0 ⟨B,0,arr.size,esz⟩) (H++[.row ⟨vs,esz,0,true⟩]) w:=by
    refine ⟨h.glob.tab,fun g gs e=>?_⟩
    rintro ⟨i,r,L,h1,h2,h3,h4⟩
    by_cases hi:i=H.length
    . subst hi
      rw [hself] at h1; cases h1;rw [Mu.put_same] at h3; cases h3;exact hg g gs e h4
    . rw [hmo i _ hi] at h3
      exact h.glob.no g gs e ⟨i,r,L,hother i r hi h1,h2,h3,h4⟩
  refine ⟨⟨fun i r hr=>?_,fun i r L i' r' L' h1 h2 h3 h4 h5 h6=>?_,fun i ver L hm=>?_,fun i ver L hm=>by
      unfold Mu.put at hm
      split at hm
      . cases hm; exact (Array.getElem?_eq_some_iff.1 hB).1
      . exact h.lt _ _ _ hm⟩,hgl⟩
  . by_cases hi:i=H.length
    . subst hi
      rw [hself] at hr; cases hr;exact ⟨⟨B,0,arr.size,esz⟩,arr,T,(0,0),Mu.put_same _ _ _ _,hB,rfl,by simp,hl,fun j v hj=>by
        obtain ⟨c,k1,k2⟩:=hv j v hj;exact ⟨c,by simpa using k1,k2.mono hext,hc v (List.mem_of_getElem? hj)⟩,fun _=>rfl⟩
    . obtain ⟨L,cs',T',fz,h1,h2,h3,h4,h5,h6,h7⟩:=h.row i r (hother i r hi hr)
      exact ⟨L,cs',T',fz,hext _ _ _ h1,h2,h3,h4,h5,fun j v hj=>by obtain ⟨c,k1,k2,k3⟩:=h6 j v hj; exact ⟨c,k1,k2.mono hext,k3⟩,h7⟩
  . by_cases hi:i=H.length
    . by_cases hi':i'=H.length
      . rw [hi,hi']
      . subst hi
        rw [hself] at h1; cases h1;rw [Mu.put_same] at h2; cases h2;rw [hmo i' _ hi'] at h5;exact absurd h6.symm (hun _ _ _ h5)
    . by_cases hi':i'=H.length
      . subst hi'
        rw [hself] at h4; cases h4;rw [Mu.put_same] at h5; cases h5;rw [hmo i _ hi] at h2;exact absurd h6 (hun _ _ _ h2)
      . rw [hmo i _ hi] at h2
        rw [hmo i' _ hi'] at h5;exact h.sep i r L i' r' L' (hother i r hi h1) h2 h3 (hother i' r' hi' h4) h5 h6
  . by_cases hi:i=H.length
    . subst hi
      unfold Mu.put at hm
      split at hm
      . rename_i e
        exact ⟨_,hself,by simp [e.2]⟩
      . rw [hnone] at hm; cases hm
    . rw [hmo i ver hi] at hm
      obtain ⟨r,hr,hle⟩:=h.fresh i ver L hm;exact ⟨r,by rw [List.getElem?_append_left (List.getElem?_eq_some_iff.1 hr).1]; exact hr,hle⟩

theorem ARel.cell {m:Mu} {H:Heap} {w:World} (h:ARel m H w) {id:Nat} {r:Row} (hr:H[id]?=some (.row r)) {L:Loc} (hm:m id r.ver=some L) {j:Nat} {v:Value}
    (hj:r.cells[j]?=some v):∃ c,w.cell? ⟨L.blk,L.base+j,none⟩=some c∧VRel m v c∧cellLike v=true:=by
  obtain ⟨L',cs,T,fz,h1,h2,h3,h4,h5,h6,h7⟩:=h.row id r hr;rw [hm] at h1; cases h1;obtain ⟨c,k1,k2,k3⟩:=h6 j v hj;exact ⟨c,by simp [World.cell?,h2,k1],k2,k3⟩

theorem ARel.forget {m m':Mu} {H ext:Heap} {w w':World} (h:ARel m H w) (k:Kept m H w m' (H++ext) w') (h':ARel m' (H++ext) w'):ARel m H w'∧Kept m H w m H w':=by
  have up:∀ (id:Nat) (o:Ob),H[id]?=some o→(H++ext)[id]?=some o:=by
    intro id o ho; rw [List.getElem?_append_left (List.getElem?_eq_some_iff.1 ho).1]; exact ho
  have K:Kept m H w m H w':=⟨k.size,k.os,k.tape,k.output,k.same,fun _ hb=>.inl hb,.refl m,fun id ver L h=>.inl ⟨id,ver,L,h,rfl⟩⟩
  refine ⟨⟨⟨fun id r hr=>?_,h.sep,h.fresh,fun id ver L hm=>Nat.lt_of_lt_of_le (h.lt _ _ _ hm) k.size⟩,h.glob.kept K⟩,K⟩
  obtain ⟨L,cs,T,fz,h1,h2,h3,h4,h5,h6,h7⟩:=h.row id r hr;obtain ⟨L',cs',T',fz',k1,k2,k3,k4,k5,k6,k7⟩:=h'.row id r (up _ _ hr);rw [k.ext _ _ _ h1] at k1; cases k1;refine ⟨L,cs',T',fz',h1,k2,h3,k4,h5,fun j v hj=>?_,k7⟩
  obtain ⟨c,_,q2,q3⟩:=h6 j v hj;obtain ⟨c',q1',q2',_⟩:=k6 j v hj;exact ⟨c',q1',q2.back k.ext q2',q3⟩

theorem ARel.empty {w:World} (hg:GlobW w):ARel (fun _ _=>none) [] w:=⟨⟨fun id r h=>by simp at h,fun id r L id' r' L' h=>by simp at h,fun id ver L h=>(by cases h),fun id ver L h=>(by cases h)⟩,⟨hg,fun g vs e ⟨id,r,L,h,_⟩=>by simp at h⟩⟩
theorem ARel.aside {m m':Mu} {H H':Heap} {w w':World} (h:ARel m H w) (k:Kept (fun _ _=>none) [] w m' H' w'):ARel m H w'∧Kept m H w m H w':=by
  have hb:∀ b,b < w.heap.size→w'.heap[b]?=w.heap[b]?:=fun b hb=>k.same b hb (fun ⟨id,r,L,h1,_⟩=>by simp at h1)
  have K:Kept m H w m H w':=⟨k.size,k.os,k.tape,k.output,fun b hb' _=>hb b hb',fun _ h=>.inl h,.refl m,fun id ver L h=>.inl ⟨id,ver,L,h,rfl⟩⟩
  refine ⟨⟨⟨fun id r hr=>?_,h.sep,h.fresh,fun id ver L hm=>Nat.lt_of_lt_of_le (h.lt _ _ _ hm) k.size⟩,h.glob.kept K⟩,K⟩
  obtain ⟨L,cs,T,fz,h1,h2,h3⟩:=h.row id r hr;exact ⟨L,cs,T,fz,h1,by rw [hb _ (Array.getElem?_eq_some_iff.1 h2).1]; exact h2,h3⟩

theorem Kept.alloc {m0 m:Mu} {H0 H:Heap} {w0 w:World} (h:Kept m0 H0 w0 m H w) (o:Obj):Kept m0 H0 w0 m H (w.alloc o) :=
  ⟨Nat.le_trans h.size (by simp),h.os,h.tape,h.output,fun b hb hn=>by
    show (w.heap.push o)[b]?=_;have:=h.size;rw [Array.getElem?_push,if_neg (by omega)]; exact h.same b hb hn,h.rw,h.ext,h.dom⟩
theorem ARel.alloc {m:Mu} {H:Heap} {w:World} (h:ARel m H w) (o:Obj):ARel m H (w.alloc o):=by
  refine ⟨⟨fun id r hr=>?_,h.sep,h.fresh,fun id ver L hm=>by have:=h.lt _ _ _ hm; simp; omega⟩,h.glob.kept ((Kept.refl m H w).alloc o)⟩
  obtain ⟨L,cs,T,fz,h1,h2,h3⟩:=h.row id r hr;refine ⟨L,cs,T,fz,h1,?_,h3⟩;have:=(Array.getElem?_eq_some_iff.1 h2).1;show (w.heap.push o)[L.blk]?=_;rw [Array.getElem?_push,if_neg (by omega)]; exact h2
theorem Kept.adopt {m0 m:Mu} {H0 H:Heap} {w0 w:World} (h:Kept m0 H0 w0 m H w) (hA:ARel m H w) {B:Nat} (hB:w0.heap.size≤B) (vs:List Value) (n esz:Nat) :
    Kept m0 H0 w0 (m.put H.length 0 ⟨B,0,n,esz⟩) (H++[.row ⟨vs,esz,0,true⟩]) w:=by
  have hnone:m H.length 0=none:=by
    cases hm:m H.length 0 with
    | none=>rfl
    | some L=>obtain ⟨r,hr,_⟩:=hA.fresh _ _ L hm; simp at hr
  refine ⟨h.size,h.os,h.tape,h.output,h.same,fun b hb=>?_,h.ext.trans (Mu.put_ext hnone),fun id ver L hL=>?_⟩
  . obtain ⟨i,r,L,h1,h2,h3,h4⟩:=hb
    by_cases hi:i=H.length
    . subst hi
      have h1':r=⟨vs,esz,0,true⟩:=by simpa using h1.symm
      subst h1';rw [Mu.put_same] at h3; cases h3;exact .inr (by simp at h4; omega)
    . have h3':m i r.ver=some L:=by
        unfold Mu.put at h3; rw [if_neg (fun e=>hi e.1)] at h3; exact h3
      refine h.rw b ⟨i,r,L,?_,h2,h3',h4⟩;rcases Nat.lt_or_ge i H.length with h' | h'
      . rwa [List.getElem?_append_left h'] at h1
      . rw [List.getElem?_append_right h',List.getElem?_eq_none (by simp; omega)] at h1; cases h1
  . unfold Mu.put at hL
    split at hL
    . cases hL; exact .inr hB
    . exact h.dom _ _ _ hL

end Am
