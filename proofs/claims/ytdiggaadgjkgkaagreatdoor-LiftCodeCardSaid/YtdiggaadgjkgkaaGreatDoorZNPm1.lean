/- The pure machine, first part: what is not written any more stands in the values themselves, as lists; how its values and heap stand to the abstract machine's.
   No condition: plain lemmas. -/

import Derived.Test.YtdiggaadgjkgkaaGreatDoorZNAmRun
namespace Pm
set_option linter.unusedSimpArgs false
set_option linter.unusedVariables false
open Go Am

def lst (e n:Nat) (cs:List Value):Value:=.func (.yield 0) cs.toArray #[.int .i64 n,.int .i64 e]
def fptr (cs:List Value):Value:=.func (.yield 1) cs.toArray #[]

def qDx:Value→Option (Nat×Nat×List Value)
  | .func (.yield 0) cs g=>match g.toList with | [.int .i64 n,.int .i64 e]=>some (e.toNat,n.toNat,cs.toList) | _=>none
  | _=>none
def qEc:Value→Option (List Value)
  | .func (.yield 1) cs _=>some cs.toList
  | _=>none
@[simp] theorem qCx {e n:Nat} {cs:List Value}:qDx (lst e n cs)=some (e,n,cs):=by simp [qDx,lst]
@[simp] theorem qGe {cs:List Value}:qEc (fptr cs)=some cs:=by simp [qEc,fptr]
@[simp] theorem asLst_fptr {cs:List Value}:qDx (fptr cs)=none:=by simp [qDx,fptr]
@[simp] theorem asFptr_lst {e n:Nat} {cs:List Value}:qEc (lst e n cs)=none:=by simp [qEc,lst]

abbrev Map:=Nat→Option Nat
def Map.none:Map:=fun _=>Option.none

inductive R (W:Nat→Prop) (H:Heap):Map→Value→Value→Prop
  | bool {m:Map} (b:Bool):R W H m (.bool b) (.bool b)
  | int {m:Map} (k:IntKind) (n:Int):R W H m (.int k n) (.int k n)
  | string {m:Map} (s:ByteArray):R W H m (.string s) (.string s)
  | ptrNil {m:Map}:R W H m (.pointer Option.none) (.pointer Option.none)
  | sliceNil {m:Map}:R W H m (.slice Option.none 0 0) (.slice Option.none 0 0)
  | nilFunc {m:Map}:R W H m .nilFunc .nilFunc
  | nilIface {m:Map}:R W H m .nilIface .nilIface
  | ptr {m:Map} {id a off ver:Nat} (h:m id=some a):R W H m (.pointer (some ⟨id,off,some ver⟩)) (.pointer (some ⟨a,off,some ver⟩))
  | slice {m:Map} {id a off len ver:Nat} (h:m id=some a):R W H m (.slice (some ⟨id,off,Option.none⟩) len ver) (.slice (some ⟨a,off,Option.none⟩) len ver)
  | lstNil {m:Map} {e:Nat}:R W H m (lst e 0 []) (.slice Option.none 0 0)
  | lst {m:Map} {e n:Nat} {cs:List Value} {a off ver:Nat} {r:Row} (hr:H.row? a ver=some r) (hf:¬ W a) (he:r.esz=e) (hl:cs.length=n * e) (hb:off+n * e≤r.cells.length)
      (hc:∀ (j:Nat) (c v:Value),cs[j]?=some c→r.cells[off+j]?=some v→R W H Map.none c v):R W H m (lst e n cs) (.slice (some ⟨a,off,Option.none⟩) n ver)
  | fptr {m:Map} {cs:List Value} {a off ver:Nat} {r:Row} (hr:H.row? a ver=some r) (hf:¬ W a) (hb:0 < cs.length→off+cs.length≤r.cells.length)
      (hc:∀ (j:Nat) (c v:Value),cs[j]?=some c→r.cells[off+j]?=some v→R W H Map.none c v):R W H m (fptr cs) (.pointer (some ⟨a,off,some ver⟩))
  | agg {m:Map} {xs ys:Array Value} (hs:xs.size=ys.size) (h:∀ (i:Nat) (x y:Value),xs[i]?=some x→ys[i]?=some y→R W H m x y):R W H m (.agg xs) (.agg ys)
  | tup {m:Map} {xs ys:Array Value} (hs:xs.size=ys.size) (h:∀ (i:Nat) (x y:Value),xs[i]?=some x→ys[i]?=some y→R W H m x y):R W H m (.tuple xs) (.tuple ys)
  | func {m:Map} {f:FuncId} {f1 g1 f2 g2:Array Value} (hs:f1.size=f2.size) (h:∀ (i:Nat) (x y:Value),f1[i]?=some x→f2[i]?=some y→R W H m x y)
      (hs':g1.size=g2.size) (h':∀ (i:Nat) (x y:Value),g1[i]?=some x→g2[i]?=some y→R W H m x y):R W H m (.func (.func f) f1 g1) (.func (.func f) f2 g2)

structure Stp (W:Nat→Prop) (H:Heap) (W':Nat→Prop) (H':Heap):Prop where
  len:H.length≤H'.length
  same:∀ a,a < H.length→¬ W a→H'[a]?=H[a]?
  wr:∀ a,W' a→W a∨H.length≤a

theorem Stp.refl (W:Nat→Prop) (H:Heap):Stp W H W H:=⟨Nat.le_refl _,fun _ _ _=>rfl,fun _ h=>.inl h⟩
theorem Stp.trans {W W1 W2:Nat→Prop} {H H1 H2:Heap} (h:Stp W H W1 H1) (k:Stp W1 H1 W2 H2):Stp W H W2 H2 :=
  ⟨Nat.le_trans h.len k.len,fun a ha hw=>by rw [k.same a (Nat.lt_of_lt_of_le ha h.len) (fun x=>(h.wr a x).elim hw (by omega)),h.same a ha hw],
   fun a ha=>(k.wr a ha).elim (h.wr a) fun x=>.inr (Nat.le_trans h.len x)⟩
theorem Stp.less {W W':Nat→Prop} {H:Heap} (h:∀ a,W' a→W a):Stp W H W' H:=⟨Nat.le_refl _,fun _ _ _=>rfl,fun a x=>.inl (h a x)⟩

def MLe (m m':Map):Prop:=∀ id a,m id=some a→m' id=some a
theorem MLe.refl (m:Map):MLe m m:=fun _ _ h=>h
theorem MLe.trans {a b c:Map} (h:MLe a b) (k:MLe b c):MLe a c:=fun _ _ x=>k _ _ (h _ _ x)
theorem MLe.none (m:Map):MLe Map.none m:=fun _ _ h=>by cases h

theorem row?_lt {H:Heap} {a ver:Nat} {r:Row} (h:H.row? a ver=some r):a < H.length:=(List.getElem?_eq_some_iff.1 (Heap.row?_some h).1).1
theorem row?_same {H H':Heap} {a ver:Nat} (h:H'[a]?=H[a]?):H'.row? a ver=H.row? a ver:=by simp only [Heap.row?,h]

section
variable {W W' : Nat → Prop} {H H' : Heap} {m m' : Map}
theorem R.mono {p v:Value} (h:R W H m p v) (s:Stp W H W' H') (e:MLe m m'):R W' H' m' p v:=by
  induction h generalizing m' with
  | bool b=>exact .bool b
  | int k n=>exact .int k n
  | string s=>exact .string s
  | ptrNil=>exact .ptrNil
  | sliceNil=>exact .sliceNil
  | nilFunc=>exact .nilFunc
  | nilIface=>exact .nilIface
  | ptr h=>exact .ptr (e _ _ h)
  | slice h=>exact .slice (e _ _ h)
  | lstNil=>exact .lstNil
  | lst hr hf he hl hb hc ih =>
    have hlt:=row?_lt hr;exact .lst (by rw [row?_same (s.same _ hlt hf)]; exact hr) (fun x=>(s.wr _ x).elim hf (by omega)) he hl hb fun j c v h1 h2=>ih j c v h1 h2 (.refl _)
  | fptr hr hf hb hc ih =>
    have hlt:=row?_lt hr;exact .fptr (by rw [row?_same (s.same _ hlt hf)]; exact hr) (fun x=>(s.wr _ x).elim hf (by omega)) hb fun j c v h1 h2=>ih j c v h1 h2 (.refl _)
  | agg hs _ ih=>exact .agg hs fun i x y hx hy=>ih i x y hx hy e
  | tup hs _ ih=>exact .tup hs fun i x y hx hy=>ih i x y hx hy e
  | func hs _ hs' _ ih ih'=>exact .func hs (fun i x y hx hy=>ih i x y hx hy e) hs' (fun i x y hx hy=>ih' i x y hx hy e)

theorem R.undef:R W H m (.tuple #[]) (.tuple #[]):=.tup rfl fun i x y h=>by simp at h

theorem R.cellLike {p v:Value} (h:R W H m p v):cellLike v=cellLike p:=by cases h<;>rfl

theorem R.both {m0:Map} {W0:Nat→Prop} {H0:Heap} {p v0 v:Value} (h:R W0 H0 m0 p v0) (h':R W H m p v) (e:∀ id a,m0 id=some a→m' id=m id):R W H m' p v:=by
  induction h' generalizing v0 with
  | bool b=>exact .bool b
  | int k n=>exact .int k n
  | string s=>exact .string s
  | ptrNil=>exact .ptrNil
  | sliceNil=>exact .sliceNil
  | nilFunc=>exact .nilFunc
  | nilIface=>exact .nilIface
  | ptr h1=>cases h with | ptr h2=>exact .ptr (by rw [e _ _ h2]; exact h1)
  | slice h1=>cases h with | slice h2=>exact .slice (by rw [e _ _ h2]; exact h1)
  | lstNil=>exact .lstNil
  | lst hr hf he hl hb hc ih=>exact .lst hr hf he hl hb hc
  | fptr hr hf hb hc ih=>exact .fptr hr hf hb hc
  | agg hs h1 ih =>
    cases h with
    | agg hs' h2 =>
      refine .agg hs fun i x y hx hy=>?_
      obtain ⟨z,hz⟩:=qCk (hs' ▸ qCi hx);exact ih i x y hx hy (h2 i x z hx hz) e
  | tup hs h1 ih =>
    cases h with
    | tup hs' h2 =>
      refine .tup hs fun i x y hx hy=>?_
      obtain ⟨z,hz⟩:=qCk (hs' ▸ qCi hx);exact ih i x y hx hy (h2 i x z hx hz) e
  | func hs h1 hs1 h2 ih ih' =>
    cases h with
    | func ks k1 ks1 k2 =>
      refine .func hs (fun i x y hx hy=>?_) hs1 (fun i x y hx hy=>?_)
      . obtain ⟨z,hz⟩:=qCk (ks ▸ qCi hx)
        exact ih i x y hx hy (k1 i x z hx hz) e
      . obtain ⟨z,hz⟩:=qCk (ks1 ▸ qCi hx)
        exact ih' i x y hx hy (k2 i x z hx hz) e
end

inductive Rs (W:Nat→Prop) (H:Heap) (m:Map):List Value→List Value→Prop
  | nil:Rs W H m [] []
  | cons {p v:Value} {ps vs:List Value} (h:R W H m p v) (t:Rs W H m ps vs):Rs W H m (p :: ps) (v :: vs)
section
variable {W W' : Nat → Prop} {H H' : Heap} {m m' : Map}
theorem Rs.mono {ps vs:List Value} (h:Rs W H m ps vs) (s:Stp W H W' H') (e:MLe m m'):Rs W' H' m' ps vs:=by
  induction h with
  | nil=>exact .nil
  | cons h _ ih=>exact .cons (h.mono s e) ih
theorem Rs.length {ps vs:List Value} (h:Rs W H m ps vs):ps.length=vs.length:=by
  induction h with
  | nil=>rfl
  | cons _ _ ih=>simp [ih]
theorem Rs.get {ps vs:List Value} (h:Rs W H m ps vs):∀ (i:Nat) (p v:Value),ps[i]?=some p→vs[i]?=some v→R W H m p v:=by
  induction h with
  | nil=>intro i p v hp; simp at hp
  | cons h _ ih =>
    intro i p v hp hv;cases i with
    | zero=>simp at hp hv; subst hp; subst hv; exact h
    | succ i=>exact ih i p v (by simpa using hp) (by simpa using hv)
theorem Rs.of_get {ps vs:List Value} (hl:ps.length=vs.length) (h:∀ (i:Nat) (p v:Value),ps[i]?=some p→vs[i]?=some v→R W H m p v):Rs W H m ps vs:=by
  induction ps generalizing vs with
  | nil=>cases vs with | nil=>exact .nil | cons c cs=>simp at hl
  | cons p ps ih =>
    cases vs with
    | nil=>simp at hl
    | cons v vs=>exact .cons (h 0 p v rfl rfl) (ih (by simpa using hl) (fun i p' v' hp hv=>h (i+1) p' v' (by simpa using hp) (by simpa using hv)))
theorem Rs.append {ps vs ps' vs':List Value} (h:Rs W H m ps vs) (k:Rs W H m ps' vs'):Rs W H m (ps++ps') (vs++vs'):=by
  induction h with
  | nil=>exact k
  | cons h _ ih=>exact .cons h ih
theorem Rs.take {ps vs:List Value} (h:Rs W H m ps vs) (n:Nat):Rs W H m (ps.take n) (vs.take n):=by
  induction h generalizing n with
  | nil=>simp; exact .nil
  | cons h _ ih=>cases n with | zero=>exact .nil | succ n=>exact .cons h (ih n)
theorem Rs.drop {ps vs:List Value} (h:Rs W H m ps vs) (n:Nat):Rs W H m (ps.drop n) (vs.drop n):=by
  induction h generalizing n with
  | nil=>simp; exact .nil
  | cons h t ih=>cases n with | zero=>exact .cons h t | succ n=>exact ih n
theorem Rs.set {ps vs:List Value} (h:Rs W H m ps vs) (n:Nat) {p v:Value} (hv:R W H m p v):Rs W H m (ps.set n p) (vs.set n v):=by
  induction h generalizing n with
  | nil=>exact .nil
  | cons h t ih=>cases n with | zero=>exact .cons hv t | succ n=>exact .cons h (ih n)
theorem Rs.setAll {l l' vs vs':List Value} (h:Rs W H m l l') (k:Rs W H m vs vs') (off:Nat):Rs W H m (setAll l off vs) (setAll l' off vs'):=by
  induction k generalizing l l' off with
  | nil=>exact h
  | cons hv _ ih=>exact ih (h.set off hv) (off+1)
theorem Rs.cellLike {ps vs:List Value} (h:Rs W H m ps vs):vs.all cellLike=ps.all cellLike:=by
  induction h with
  | nil=>rfl
  | cons h _ ih=>simp only [List.all_cons,ih,h.cellLike]
theorem R.agg' {xs ys:Array Value} (h:Rs W H m xs.toList ys.toList):R W H m (.agg xs) (.agg ys) :=
  .agg (by simpa using h.length) fun i x y hx hy=>h.get i x y (by simpa using hx) (by simpa using hy)
theorem R.agg_list {xs:Array Value} {v:Value} (h:R W H m (.agg xs) v):∃ ys,v=.agg ys∧Rs W H m xs.toList ys.toList:=by
  cases h with
  | agg hs h=>exact ⟨_,rfl,.of_get (by simpa using hs) fun i x y hx hy=>h i x y (by simpa using hx) (by simpa using hy)⟩
theorem R.tup_list {xs:Array Value} {v:Value} (h:R W H m (.tuple xs) v):∃ ys,v=.tuple ys∧Rs W H m xs.toList ys.toList:=by
  cases h with
  | tup hs h=>exact ⟨_,rfl,.of_get (by simpa using hs) fun i x y hx hy=>h i x y (by simpa using hx) (by simpa using hy)⟩
theorem plainC_R {v:Value} (h:qDe v=true):R W H m v v:=by
  unfold qDe at h
  split at h<;>first | exact .bool _ | exact .int _ _ | exact .string _ | exact .ptrNil | exact .sliceNil | exact .nilFunc | exact .nilIface | cases h
theorem qGt:∀ {vs:List Value},vs.all qDe=true→Rs W H m vs vs
  | [],_=>.nil
  | v :: vs,h=>by
    simp only [List.all_cons,Bool.and_eq_true] at h;exact .cons (plainC_R h.1) (qGt h.2)
theorem qOo {v:Value} (h:qEt v=true):R W H m v v:=by
  unfold qEt at h
  split at h
  . exact .agg' (qGt h)
  . rename_i cs
    have:cs=#[]:=by simpa using h
    subst this; exact .undef
  . exact plainC_R h
theorem qSv {z c:List Value} (h:Rs W H m z c):∀ n,Rs W H m (rep n z) (rep n c)
  | 0=>.nil
  | n+1=>by rw [qIs,qIs]; exact (qSv h n).append h
end

def Wr (m:Map) (h:Heap):Nat→Prop:=fun a=>∃ id r,h[id]?=some (.row r)∧r.rw=true∧m id=some a

structure PRel (m:Map) (h:Heap) (H:Heap):Prop where
  row:∀ (id:Nat) (r:Row),h[id]?=some (.row r)→∃ a r',m id=some a∧H[a]?=some (.row r')∧r'.esz=r.esz∧r'.ver=r.ver∧(r.rw=true→r'.rw=true)∧Rs (Wr m h) H m r.cells r'.cells
  inj:∀ id id' a,m id=some a→m id'=some a→id=id'
  dom:∀ id a,m id=some a→id < h.length∧a < H.length

theorem PRel.empty (H:Heap):PRel Map.none [] H:=⟨fun id r h=>by simp at h,fun _ _ _ h=>(by cases h),fun _ _ h=>(by cases h)⟩

def FR (W:Nat→Prop) (H:Heap) (m:Map) (fr afr:Fr):Prop:=∀ t,R W H m (fr t) (afr t)

section
variable {W W' : Nat → Prop} {H H' h h' : Heap} {m m' : Map} {fr afr : Fr}
theorem FR.mono (k:FR W H m fr afr) (s:Stp W H W' H') (e:MLe m m'):FR W' H' m' fr afr:=fun t=>(k t).mono s e
theorem FR.ev (k:FR W H m fr afr) {x:Operand} (hx:okO x=true):R W H m (ev fr x) (ev afr x):=by
  cases x with
  | tmp t=>exact k t
  | const v=>exact qOo hx
  | global g=>simp [okO] at hx
  | func f=>exact .func rfl (fun i x y h=>by simp at h) rfl (fun i x y h=>by simp at h)
theorem FR.upd (k:FR W H m fr afr) (d:Option Nat) {p v:Value} (hv:R W H m p v):FR W H m (updO fr d p) (updO afr d v):=by
  intro t;cases d with
  | none=>exact k t
  | some d =>
    simp only [updO,Am.upd]
    split
    . exact hv
    . exact k t
theorem FR.map (k:FR W H m fr afr):∀ {xs:List Operand},okL xs=true→Rs W H m (xs.map (Am.ev fr)) (xs.map (Am.ev afr))
  | [],_=>.nil
  | x :: xs,hx=>by
    simp only [okL,List.all_cons,Bool.and_eq_true] at hx;exact .cons (k.ev hx.1) (FR.map k (by simpa [okL] using hx.2))

theorem PRel.row? (k:PRel m h H) {id ver:Nat} {r:Row} (hr:h.row? id ver=some r):∃ a r',m id=some a∧H.row? a ver=some r'∧r'.esz=r.esz∧r'.ver=r.ver∧(r.rw=true→r'.rw=true)∧Rs (Wr m h) H m r.cells r'.cells:=by
  obtain ⟨h1,h2⟩:=Heap.row?_some hr;obtain ⟨a,r',k1,k2,k3,k4,k5,k6⟩:=k.row id r h1;exact ⟨a,r',k1,by simp [Heap.row?,k2,k4,h2],k3,k4,k5,k6⟩
end
end Pm
/- The pure machine, second part: its operations, and that the abstract machine's do the same.
   No condition: plain lemmas. -/
namespace Pm
set_option linter.unusedSimpArgs false
set_option linter.unusedVariables false
open Go Am

/-! ### Quiet operations -/
def pLd (h:Heap) (x:Value):Option Value :=
  match qEc x with
  | some cs=>cs[0]?
  | none=>ldV h x
def pLdA (h:Heap) (n:Nat) (x:Value):Option Value :=
  match qEc x with
  | some cs=>if n≤cs.length∧0 < n then some (.agg (cs.take n).toArray) else none
  | none=>ldA h n x
def pCut (h:Heap) (e:Nat) (x:Value) (lo hi:Option Value):Option Value :=
  match qDx x with
  | some (e',n,cs)=>match loV lo,hiV n hi with
    | some l,some k=>if e'=e∧l≤k then some (lst e (k - l) ((cs.drop (l * e)).take ((k - l) * e))) else none
    | _,_=>none
  | none=>cutV h e x lo hi
def qHq (off:Nat) (x:Value):Option Value :=
  match qEc x with
  | some cs=>some (fptr (cs.drop off))
  | none=>qIe off x
def qGa (e:Nat) (x i:Value):Option Value :=
  match qDx x with
  | some (e',n,cs)=>match i with
    | .int _ i=>if e'=e∧0≤i∧i < n then some (fptr ((cs.drop (i.toNat * e)).take e)) else none
    | _=>none
  | none=>qGf e x i
def qMs (len e:Nat) (x i:Value):Option Value :=
  match qEc x with
  | some cs=>match i with
    | .int _ i=>if 0≤i∧i < len then some (fptr (cs.drop (i.toNat * e))) else none
    | _=>none
  | none=>qLe len e x i
def pLen (x:Value):Option Value :=
  match qDx x with
  | some (_,n,_)=>some (.int .i64 n)
  | none=>lenV x
def qKb (x:Value):Option Value :=
  match qDx x with
  | some _=>some (.slice none 0 0)
  | none=>qNz x
def pPtr (x:Value):Option Value :=
  match qEc x with
  | some cs=>some (fptr cs)
  | none=>ptrV x
def pFn (f:Fn) (cs:List Value):Option Value :=
  match f with
  | .func f=>some (.func (.func f) #[] cs.toArray)
  | _=>none

def pMfn (f:Fn) (cs:List Value):Option Value :=
  match f with
  | .func f=>some (.func (.func f) cs.toArray #[])
  | _=>none
def pqop:QOp→Fr→Heap→Option Value
  | .load x,fr,h=>pLd h (ev fr x)
  | .loadA n x,fr,h=>pLdA h n (ev fr x)
  | .cut e x lo hi,fr,h=>pCut h e (ev fr x) (lo.map (ev fr)) (hi.map (ev fr))
  | .fieldA off x,fr,_=>qHq off (ev fr x)
  | .idxA e x i,fr,_=>qGa e (ev fr x) (ev fr i)
  | .idxP l e x i,fr,_=>qMs l e (ev fr x) (ev fr i)
  | .len x,fr,_=>pLen (ev fr x)
  | .none3 x,fr,_=>qKb (ev fr x)
  | .ptrCk x,fr,_=>pPtr (ev fr x)
  | .fn f cs,fr,_=>pFn f (cs.map (ev fr))
  | .mfn f cs,fr,_=>pMfn f (cs.map (ev fr))
  | o,fr,h=>qop o fr h

def okQ:QOp→Bool
  | .val x | .load x | .loadA _ x | .not x | .neg x | .conv _ x | .fieldA _ x | .part _ _ x | .ext x _ | .len x | .lenS x | .none3 x | .ptrCk x=>okO x
  | .pick a b c=>okO a && okO b && okO c
  | .build z ps=>z.all qDe && okL (ps.map (·.2.2))
  | .bin _ x y | .eqB _ x y | .idxA _ x y | .idxP _ _ x y | .idx _ _ _ x y | .idxS x y | .eqS _ x y | .eqA _ _ x y=>okO x && okO y
  | .fn _ cs=>okL cs
  | .mfn _ cs=>okL cs
  | .cut _ x lo hi=>okO x && qMt lo && qMt hi
  | .mm _ x ys=>okO x && okL ys

section
variable {W : Nat → Prop} {H : Heap} {m : Map}
theorem qJh {b:Bool} {v:Value} (h:R W H m (.bool b) v):v=.bool b:=by cases h; rfl
theorem qFo {k:IntKind} {n:Int} {v:Value} (h:R W H m (.int k n) v):v=.int k n:=by cases h; rfl
theorem qHh {s:ByteArray} {v:Value} (h:R W H m (.string s) v):v=.string s:=by cases h; rfl

theorem qNi {p v:Value} {ps:List Value} (h:R W H m p v) (hp:cellsOf p=some ps):∃ vs,cellsOf v=some vs∧Rs W H m ps vs:=by
  have h0:=h;cases h with
  | agg hs hh =>
    obtain ⟨_,e,hr⟩:=h0.agg_list;cases e;simp only [cellsOf] at hp ⊢
    split at hp
    . rename_i hc
      cases hp;exact ⟨_,if_pos (by rw [hr.cellLike]; exact hc),hr⟩
    . cases hp
  | tup=>simp [cellsOf] at hp
  | _ =>
    simp only [cellsOf,lst,fptr,Option.some.injEq] at hp;subst hp;exact ⟨_,rfl,.cons h0 .nil⟩

theorem fillL_R {ps:List (Nat×Nat×Value)}:∀ {qs:List (Nat×Nat×Value)} {l l' r:List Value},Rs W H m l l'→ps.length=qs.length →
    (∀ (j o n o' n':Nat) (p v:Value),ps[j]?=some (o,n,p)→qs[j]?=some (o',n',v)→o'=o∧n'=n∧R W H m p v)→qEa l ps=some r→∃ r',qEa l' qs=some r'∧Rs W H m r r':=by
  induction ps with
  | nil =>
    intro qs l l' r hl hn _ h;cases qs with
    | nil=>cases h; exact ⟨_,rfl,hl⟩
    | cons q qs=>simp at hn
  | cons p ps ih =>
    intro qs l l' r hl hn hp h;cases qs with
    | nil=>simp at hn
    | cons q qs =>
      obtain ⟨o,n,p⟩:=p;obtain ⟨o',n',v⟩:=q;obtain ⟨rfl,rfl,hr⟩:=hp 0 o n o' n' p v rfl rfl;simp only [qEa] at h ⊢
      split at h
      . rename_i cs hcs
        split at h
        . rename_i hb
          obtain ⟨vs,k1,k2⟩:=qNi hr hcs;obtain ⟨r',k3,k4⟩:=ih (hl.setAll k2 o') (by simpa using hn) (fun j a b c d p v q1 q2=>hp (j+1) a b c d p v (by simpa using q1) (by simpa using q2)) h
          refine ⟨r',?_,k4⟩;simp only [k1];rw [if_pos ⟨by rw [← k2.length]; exact hb.1,by rw [← hl.length]; exact hb.2⟩]
          exact k3
        . cases h
      . cases h

theorem fill_ops {fr afr:Fr} (hF:FR W H m fr afr) {z r:List Value} {ps:List (Nat×Nat×Operand)} (hz:z.all qDe=true) (hps:okL (ps.map (·.2.2))=true) (h:qEa z (ps.map fun p=>(p.1,p.2.1,ev fr p.2.2))=some r) :
    ∃ r',qEa z (ps.map fun p=>(p.1,p.2.1,ev afr p.2.2))=some r'∧Rs W H m r r':=by
  refine fillL_R (qGt hz) (by simp) (fun j o n o' n' p v h1 h2=>?_) h
  rw [List.getElem?_map] at h1 h2;obtain ⟨q,hq,e1⟩:=Option.map_eq_some_iff.1 h1;rw [hq] at h2;cases e1;cases h2;refine ⟨rfl,rfl,hF.ev ?_⟩;have:=List.all_eq_true.1 hps q.2.2 (List.mem_map.2 ⟨q,List.mem_of_getElem? hq,rfl⟩);exact this

theorem pickV_R {a b c a' b' c' p:Value} (ha:R W H m a a') (hb:R W H m b b') (hc:R W H m c c') (h:qOp a b c=some p):∃ v,qOp a' b' c'=some v∧R W H m p v:=by
  unfold qOp at h
  split at h
  . rename_i t
    cases qJh hc;cases h;refine ⟨_,rfl,?_⟩;cases t
    . exact hb
    . exact ha
  . cases h
theorem binV_R {op:BinOp} {x y x' y' p:Value} (hx:R W H m x x') (hy:R W H m y y') (h:binV op x y=some p):∃ v,binV op x' y'=some v∧R W H m p v:=by
  have h0:=h;unfold binV at h
  split at h
  . rename_i k a k' b
    cases qFo hx;cases qFo hy;refine ⟨p,h0,?_⟩
    split at h
    . unfold shI at h
      split at h
      . cases h
      . cases op<;>simp at h<;>subst h<;>exact .int _ _
    . split at h
      . cases op<;>simp [binI] at h
        all_goals first
          | (subst h; first | exact .int _ _ | exact .bool _)
          | (obtain ⟨_,h⟩:=h; subst h; exact .int _ _)
      . cases h
  . cases h
theorem eqBV_R {g:Bool} {x y x' y' p:Value} (hx:R W H m x x') (hy:R W H m y y') (h:eqBV g x y=some p):∃ v,eqBV g x' y'=some v∧R W H m p v:=by
  unfold eqBV at h
  split at h
  . cases qJh hx; cases qJh hy; cases h; exact ⟨_,rfl,.bool _⟩
  . cases h
theorem eqSV_R {g:Bool} {x y x' y' p:Value} (hx:R W H m x x') (hy:R W H m y y') (h:eqSV g x y=some p):∃ v,eqSV g x' y'=some v∧R W H m p v:=by
  unfold eqSV at h
  split at h
  . cases qHh hx; cases qHh hy; cases h; exact ⟨_,rfl,.bool _⟩
  . cases h
theorem notV_R {x x' p:Value} (hx:R W H m x x') (h:notV x=some p):∃ v,notV x'=some v∧R W H m p v:=by
  unfold notV at h
  split at h
  . cases qJh hx; cases h; exact ⟨_,rfl,.bool _⟩
  . cases h
theorem negV_R {x x' p:Value} (hx:R W H m x x') (h:negV x=some p):∃ v,negV x'=some v∧R W H m p v:=by
  unfold negV at h
  split at h
  . cases qFo hx; cases h; exact ⟨_,rfl,.int _ _⟩
  . cases h
theorem convV_R {k:IntKind} {x x' p:Value} (hx:R W H m x x') (h:qPl k x=some p):∃ v,qPl k x'=some v∧R W H m p v:=by
  unfold qPl at h
  split at h
  . cases qFo hx; cases h; exact ⟨_,rfl,.int _ _⟩
  . cases h
theorem lenSV_R {x x' p:Value} (hx:R W H m x x') (h:qQv x=some p):∃ v,qQv x'=some v∧R W H m p v:=by
  unfold qQv at h
  split at h
  . cases qHh hx; cases h; exact ⟨_,rfl,.int _ _⟩
  . cases h
theorem idxSV_R {x y x' y' p:Value} (hx:R W H m x x') (hy:R W H m y y') (h:qQw x y=some p):∃ v,qQw x' y'=some v∧R W H m p v:=by
  have h0:=h;unfold qQw at h
  split at h
  . cases qHh hx; cases qFo hy
    refine ⟨p,h0,?_⟩
    split at h
    . obtain ⟨b,_,e⟩:=Option.map_eq_some_iff.1 h
      subst e; exact .int _ _
    . cases h
  . cases h
theorem partV_R {n:Option Nat} {off:Nat} {x x' p:Value} (hx:R W H m x x') (h:qKa n off x=some p):∃ v,qKa n off x'=some v∧R W H m p v:=by
  unfold qKa at h
  split at h
  . rename_i cs
    obtain ⟨ys,rfl,hr⟩:=hx.agg_list;have hs:cs.size=ys.size:=by simpa using hr.length
    cases n with
    | none =>
      simp only at h;have hlt:=qCi h;obtain ⟨v,hv⟩:=qCk (xs:=ys) (i:=off) (by omega)
      exact ⟨v,hv,hr.get off p v (by simpa using h) (by simpa using hv)⟩
    | some n =>
      simp only at h
      split at h
      . rename_i hb
        cases h;refine ⟨_,by simp only [qKa]; rw [if_pos (by omega)],.agg' ?_⟩
        simpa using (hr.drop off).take n
      . cases h
  . cases h
theorem idxV_R {n:Option Nat} {len e:Nat} {x y x' y' p:Value} (hx:R W H m x x') (hy:R W H m y y') (h:idxV n len e x y=some p):∃ v,idxV n len e x' y'=some v∧R W H m p v:=by
  unfold idxV at h
  split at h
  . rename_i i
    cases qFo hy
    split at h
    . rename_i hb
      obtain ⟨v,k1,k2⟩:=partV_R hx h;exact ⟨v,by simp only [idxV]; rw [if_pos hb]; exact k1,k2⟩
    . cases h
  . cases h
theorem extV_R {i:Nat} {x x' p:Value} (hx:R W H m x x') (h:extV i x=some p):∃ v,extV i x'=some v∧R W H m p v:=by
  unfold extV at h
  split at h
  . rename_i vs
    obtain ⟨ys,rfl,hr⟩:=hx.tup_list;have hs:vs.size=ys.size:=by simpa using hr.length
    have hlt:=qCi h;obtain ⟨v,hv⟩:=qCk (xs:=ys) (i:=i) (by omega)
    exact ⟨v,hv,hr.get i p v (by simpa using h) (by simpa using hv)⟩
  . cases h
theorem eqC_R {k:Nat} {x y x' y':Value} {b:Bool} (h:eqC k x y=some b) (hx:R W H m x x') (hy:R W H m y y'):x'=x∧y'=y:=by
  unfold eqC at h
  split at h
  . exact ⟨qJh hx,qJh hy⟩
  . exact ⟨qFo hx,qFo hy⟩
  . exact ⟨qHh hx,qHh hy⟩
  . cases h
theorem eqCs_R:∀ {ks:List Nat} {xs ys xs' ys':List Value} {b:Bool},eqCs ks xs ys=some b→Rs W H m xs xs'→Rs W H m ys ys'→eqCs ks xs' ys'=some b
  | [],[],[],_,_,_,h,hx,hy=>by cases hx; cases hy; exact h
  | [],[],_ :: _,_,_,_,h,_,_=>by cases h
  | [],_ :: _,_,_,_,_,h,_,_=>by cases h
  | _ :: _,[],_,_,_,_,h,_,_=>by cases h
  | _ :: _,_ :: _,[],_,_,_,h,_,_=>by cases h
  | k :: ks,x :: xs,y :: ys,_,_,b,h,hx,hy=>by
    cases hx with
    | cons hx hxs =>
      cases hy with
      | cons hy hys =>
        simp only [eqCs] at h ⊢;cases e:eqC k x y with
        | none=>rw [e] at h; cases h
        | some t =>
          obtain ⟨rfl,rfl⟩:=eqC_R e hx hy;rw [e] at h ⊢;cases t with
          | true=>exact eqCs_R h hxs hys
          | false=>exact h
theorem eqAV_R {ks:List Nat} {g:Bool} {x y x' y' p:Value} (hx:R W H m x x') (hy:R W H m y y') (h:eqAV ks g x y=some p):∃ v,eqAV ks g x' y'=some v∧R W H m p v:=by
  unfold eqAV at h
  split at h
  . rename_i xs ys
    obtain ⟨xs',rfl,h1⟩:=hx.agg_list;obtain ⟨ys',rfl,h2⟩:=hy.agg_list;obtain ⟨b,hb,e⟩:=Option.map_eq_some_iff.1 h;subst e;exact ⟨_,by simp only [eqAV,eqCs_R hb h1 h2,Option.map_some],.bool _⟩
  . cases h
theorem mmV_R {mx:Bool}:∀ {ys ys':List Value} {x x' p:Value},R W H m x x'→Rs W H m ys ys'→mmV mx x ys=some p→∃ v,mmV mx x' ys'=some v∧R W H m p v
  | [],_,x,x',p,hx,hy,h=>by cases hy; simp only [mmV,Option.some.injEq] at h ⊢; subst h; exact ⟨_,rfl,hx⟩
  | y :: ys,_,x,x',p,hx,hy,h=>by
    cases hy with
    | cons h1 h2 =>
      unfold mmV at h
      split at h
      . rename_i e; cases e
      . rename_i e; cases e; cases qFo hx; cases qFo h1; simp only [mmV]; exact mmV_R (.int _ _) h2 h
      . cases h

theorem qTw {fr afr:Fr} (hF:FR W H m fr afr) {o:Option Operand} (ho:qMt o=true) {l:Nat} (h:loV (o.map (ev fr))=some l):loV (o.map (ev afr))=some l:=by
  cases o with
  | none=>exact h
  | some x =>
    simp only [Option.map_some] at h ⊢;have hr:=hF.ev (x:=x) ho
    generalize ev fr x=p at *
    cases p<;>simp [loV] at h;rw [qFo hr]; simpa [loV] using h
theorem qTx {fr afr:Fr} (hF:FR W H m fr afr) {o:Option Operand} (ho:qMt o=true) {n l:Nat} (h:hiV n (o.map (ev fr))=some l):hiV n (o.map (ev afr))=some l:=by
  cases o with
  | none=>exact h
  | some x =>
    simp only [Option.map_some] at h ⊢;have hr:=hF.ev (x:=x) ho
    generalize ev fr x=p at *
    cases p<;>simp [hiV] at h;rw [qFo hr]; simpa [hiV] using h
theorem qSb {n l:Nat} {o:Option Value} (h:hiV n o=some l):l≤n:=by
  unfold hiV at h
  split at h
  . cases h; exact Nat.le_refl _
  . split at h
    . cases h; omega
    . cases h
  . cases h
end

section
variable {h H : Heap} {m : Map}
theorem cell_R (hP:PRel m h H) {id off ver:Nat} {c:Value} (hc:h.cell? id off ver=some c):∃ a v,m id=some a∧H.cell? a off ver=some v∧R (Wr m h) H m c v:=by
  unfold Heap.cell? at hc
  split at hc
  . rename_i r hr
    obtain ⟨a,r',k1,k2,k3,k4,k5,k6⟩:=hP.row? hr;have hlt:=(List.getElem?_eq_some_iff.1 hc).1;obtain ⟨v,hv⟩:∃ v,r'.cells[off]?=some v:=⟨_,List.getElem?_eq_getElem (by rw [← k6.length]; exact hlt)⟩
    exact ⟨a,v,k1,by simp only [Heap.cell?,k2,hv],k6.get _ _ _ hc hv⟩
  . cases hc
theorem cells_R (hP:PRel m h H) {id off ver n:Nat} {cs:List Value} (hc:h.cells? id off ver n=some cs):∃ a vs,m id=some a∧H.cells? a off ver n=some vs∧Rs (Wr m h) H m cs vs:=by
  unfold Heap.cells? at hc
  split at hc
  . rename_i r hr
    obtain ⟨a,r',k1,k2,k3,k4,k5,k6⟩:=hP.row? hr
    split at hc
    . rename_i hb
      cases hc;exact ⟨a,_,k1,by simp only [Heap.cells?,k2]; rw [if_pos (by rw [← k6.length]; exact hb)],(k6.drop off).take n⟩
    . cases hc
  . cases hc

theorem pLd_R (hP:PRel m h H) {x x' p:Value} (hx:R (Wr m h) H m x x') (hp:pLd h x=some p):∃ v,ldV H x'=some v∧R (Wr m h) H m p v:=by
  cases hx with
  | fptr hr hf hb hc =>
    simp only [pLd,qGe] at hp;have hlt:=(List.getElem?_eq_some_iff.1 hp).1;rename_i cs a off ver r;have hb:=hb (by omega)
    obtain ⟨v,hv⟩:∃ v,r.cells[off+0]?=some v:=⟨_,List.getElem?_eq_getElem (by omega)⟩
    exact ⟨v,by simp only [ldV,Heap.cell?,hr]; exact hv,(hc 0 p v hp hv).mono (.refl _ _) (.none m)⟩
  | ptr hm =>
    simp only [pLd,qEc,ldV] at hp;obtain ⟨a,v,k1,k2,k3⟩:=cell_R hP hp;rw [hm] at k1; cases k1;exact ⟨v,k2,k3⟩
  | lst=>simp [pLd,ldV,lst] at hp; cases hp
  | lstNil=>simp [pLd,ldV,lst] at hp; cases hp
  | _=>simp [pLd,qEc,ldV] at hp
theorem pLdA_R (hP:PRel m h H) {n:Nat} {x x' p:Value} (hx:R (Wr m h) H m x x') (hp:pLdA h n x=some p):∃ v,ldA H n x'=some v∧R (Wr m h) H m p v:=by
  cases hx with
  | fptr hr hf hb hc =>
    simp only [pLdA,qGe] at hp;rename_i cs a off ver r
    split at hp
    . rename_i hn
      cases hp;have hb:=hb (by omega)
      refine ⟨_,by simp only [ldA,Heap.cells?,hr]; rw [if_pos (by omega)]; rfl,.agg' (.of_get ?_ fun i p v h1 h2=>?_)⟩
      . simp; omega
      . simp only [List.getElem?_take,List.getElem?_drop] at h1 h2
        split at h1
        . rename_i hi; rw [if_pos hi] at h2; exact (hc i p v h1 h2).mono (.refl _ _) (.none m)
        . cases h1
    . cases hp
  | ptr hm =>
    simp only [pLdA,qEc,ldA] at hp;obtain ⟨cs,hcs,e⟩:=Option.map_eq_some_iff.1 hp;subst e;obtain ⟨a,vs,k1,k2,k3⟩:=cells_R hP hcs;rw [hm] at k1; cases k1;exact ⟨.agg vs.toArray,by simp only [ldA,k2,Option.map_some],.agg' (by simpa using k3)⟩
  | lst=>simp [pLdA,ldA,lst] at hp; cases hp
  | lstNil=>simp [pLdA,ldA,lst] at hp; cases hp
  | _=>simp [pLdA,qEc,ldA] at hp
theorem pField_R {W:Nat→Prop} {off:Nat} {x x' p:Value} (hx:R W H m x x') (hp:qHq off x=some p):∃ v,qIe off x'=some v∧R W H m p v:=by
  cases hx with
  | fptr hr hf hb hc =>
    simp only [qHq,qGe,Option.some.injEq] at hp;subst hp;rename_i cs a o ver r;exact ⟨_,rfl,.fptr hr hf (fun h0=>by simp at h0 ⊢; have:=hb (by omega); omega) fun j c v h1 h2=>hc (off+j) c v (by simpa [List.getElem?_drop] using h1) (by rw [← Nat.add_assoc]; exact h2)⟩
  | ptr hm =>
    simp only [qHq,qEc,qIe,Option.some.injEq] at hp;subst hp;exact ⟨_,rfl,.ptr hm⟩
  | lst=>simp [qHq,qIe,lst] at hp; cases hp
  | lstNil=>simp [qHq,qIe,lst] at hp; cases hp
  | _=>simp [qHq,qEc,qIe] at hp
theorem pIdxP_R {W:Nat→Prop} {len e:Nat} {x y x' y' p:Value} (hx:R W H m x x') (hy:R W H m y y') (hp:qMs len e x y=some p):∃ v,qLe len e x' y'=some v∧R W H m p v:=by
  cases hx with
  | fptr hr hf hb hc =>
    simp only [qMs,qGe] at hp
    split at hp
    . rename_i i
      cases qFo hy
      split at hp
      . rename_i hi
        cases hp;rename_i cs a o ver r _;exact ⟨_,by simp only [qLe]; rw [if_pos hi],.fptr hr hf (fun h0=>by simp at h0 ⊢; have:=hb (by omega); omega) fun j c v h1 h2=>hc (i.toNat * e+j) c v (by simpa [List.getElem?_drop] using h1) (by rw [← Nat.add_assoc]; exact h2)⟩
      . cases hp
    . cases hp
  | ptr hm =>
    simp only [qMs,qEc] at hp;unfold qLe at hp
    split at hp
    . rename_i e1
      cases e1;cases qFo hy
      split at hp
      . rename_i hi; cases hp; exact ⟨_,by simp only [qLe]; rw [if_pos hi],.ptr hm⟩
      . cases hp
    . cases hp
  | lst=>simp [qMs,qLe,lst] at hp; cases hp
  | lstNil=>simp [qMs,qLe,lst] at hp; cases hp
  | _=>simp [qMs,qEc,qLe] at hp
theorem pIdxA_R {W:Nat→Prop} {e:Nat} {x y x' y' p:Value} (hx:R W H m x x') (hy:R W H m y y') (hp:qGa e x y=some p):∃ v,qGf e x' y'=some v∧R W H m p v:=by
  cases hx with
  | @lst m e' n cs a o ver r hr hf he hl hb hc =>
    simp only [qGa,qCx] at hp
    split at hp
    . rename_i i
      cases qFo hy
      split at hp
      . rename_i hi
        obtain ⟨he',h1,h2⟩:=hi;subst he';subst he;cases hp;refine ⟨_,by simp only [qGf]; rw [if_pos ⟨h1,h2⟩],.fptr hr hf (fun h0=>?_) fun j c v q1 q2=>?_⟩
        . have hm:(i.toNat+1) * r.esz≤n * r.esz:=Nat.mul_le_mul_right _ (by omega)
          rw [Nat.succ_mul] at hm;simp only [List.length_take,List.length_drop];omega
        . rw [List.getElem?_take] at q1
          split at q1
          . rw [List.getElem?_drop] at q1
            exact hc _ c v q1 (by rw [← Nat.add_assoc]; exact q2)
          . cases q1
      . cases hp
    . cases hp
  | lstNil =>
    simp only [qGa,qCx] at hp
    split at hp
    . split at hp
      . omega
      . cases hp
    . cases hp
  | slice hm =>
    simp only [qGa,qDx] at hp;unfold qGf at hp
    split at hp
    . rename_i e1
      cases e1;cases qFo hy
      split at hp
      . rename_i hi; cases hp; exact ⟨_,by simp only [qGf]; rw [if_pos hi],.ptr hm⟩
      . cases hp
    . cases hp
  | fptr=>simp [qGa,qGf,fptr] at hp; cases hp
  | _=>simp [qGa,qDx,qGf] at hp
theorem pLen_R {W:Nat→Prop} {x x' p:Value} (hx:R W H m x x') (hp:pLen x=some p):∃ v,lenV x'=some v∧R W H m p v:=by
  cases hx with
  | lst=>simp only [pLen,qCx,Option.some.injEq] at hp; subst hp; exact ⟨_,rfl,.int _ _⟩
  | lstNil=>simp only [pLen,qCx,Option.some.injEq] at hp; subst hp; exact ⟨_,rfl,.int _ _⟩
  | slice=>simp only [pLen,qDx,lenV,Option.some.injEq] at hp; subst hp; exact ⟨_,rfl,.int _ _⟩
  | sliceNil=>simp only [pLen,qDx,lenV,Option.some.injEq] at hp; subst hp; exact ⟨_,rfl,.int _ _⟩
  | fptr=>simp [pLen,lenV,fptr] at hp; cases hp
  | _=>simp [pLen,qDx,lenV] at hp
theorem pNone_R {W:Nat→Prop} {x x' p:Value} (hx:R W H m x x') (hp:qKb x=some p):∃ v,qNz x'=some v∧R W H m p v:=by
  cases hx with
  | lst=>simp only [qKb,qCx,Option.some.injEq] at hp; subst hp; exact ⟨_,rfl,.sliceNil⟩
  | lstNil=>simp only [qKb,qCx,Option.some.injEq] at hp; subst hp; exact ⟨_,rfl,.sliceNil⟩
  | slice=>simp only [qKb,qDx,qNz,Option.some.injEq] at hp; subst hp; exact ⟨_,rfl,.sliceNil⟩
  | sliceNil=>simp only [qKb,qDx,qNz,Option.some.injEq] at hp; subst hp; exact ⟨_,rfl,.sliceNil⟩
  | fptr=>simp [qKb,qNz,fptr] at hp; cases hp
  | _=>simp [qKb,qDx,qNz] at hp
theorem pPtr_R {W:Nat→Prop} {x x' p:Value} (hx:R W H m x x') (hp:pPtr x=some p):∃ v,ptrV x'=some v∧R W H m p v:=by
  cases hx with
  | fptr hr hf hb hc=>simp only [pPtr,qGe,Option.some.injEq] at hp; subst hp; exact ⟨_,rfl,.fptr hr hf hb hc⟩
  | ptr hm=>simp only [pPtr,qEc,ptrV,Option.some.injEq] at hp; subst hp; exact ⟨_,rfl,.ptr hm⟩
  | lst=>simp [pPtr,ptrV,lst] at hp; cases hp
  | lstNil=>simp [pPtr,ptrV,lst] at hp; cases hp
  | _=>simp [pPtr,qEc,ptrV] at hp
theorem pCut_R (hP:PRel m h H) {e:Nat} {x x' p:Value} {fr afr:Fr} (hF:FR (Wr m h) H m fr afr) {lo hi:Option Operand} (hlo:qMt lo=true) (hhi:qMt hi=true) (hx:R (Wr m h) H m x x')
    (hp:pCut h e x (lo.map (ev fr)) (hi.map (ev fr))=some p):∃ v,cutV H e x' (lo.map (ev afr)) (hi.map (ev afr))=some v∧R (Wr m h) H m p v:=by
  cases hx with
  | @lst m e' n cs a o ver r hr hf he hl hb hc =>
    simp only [pCut,qCx] at hp
    split at hp
    . rename_i l k h1 h2
      split at hp
      . rename_i hi
        obtain ⟨he',hlk⟩:=hi;subst he';cases hp;have hkn:=qSb h2;refine ⟨_,by simp only [cutV,hr,qTw hF hlo h1,qTx hF hhi h2]; rw [if_pos ⟨he,hlk⟩],.lst hr hf he ?_ ?_ fun j c v q1 q2=>?_⟩
        . have h3:k * e'≤n * e':=Nat.mul_le_mul_right _ hkn
          have h4:(k - l) * e'=k * e' - l * e':=Nat.sub_mul ..;simp only [List.length_take,List.length_drop]; omega
        . have h3:k * e'≤n * e':=Nat.mul_le_mul_right _ hkn
          have h4:(k - l) * e'=k * e' - l * e':=Nat.sub_mul ..;have h5:l * e'≤k * e':=Nat.mul_le_mul_right _ hlk;omega
        . rw [List.getElem?_take] at q1
          split at q1
          . rw [List.getElem?_drop] at q1
            exact hc _ c v q1 (by rw [← Nat.add_assoc]; exact q2)
          . cases q1
      . cases hp
    . cases hp
  | lstNil =>
    simp only [pCut,qCx] at hp
    split at hp
    . rename_i l k h1 h2
      have hkn:=qSb h2
      split at hp
      . rename_i hi
        cases hp;refine ⟨_,by simp only [cutV,qTw hF hlo h1,qTx hF hhi h2]; rw [if_pos hi.2],?_⟩
        have:k - l=0:=by omega
        rw [this]; simp; exact .lstNil
      . cases hp
    . cases hp
  | slice hm =>
    simp only [pCut,qDx,cutV] at hp ⊢
    split at hp
    . rename_i r l k hr h1 h2
      split at hp
      . rename_i hc
        cases hp;obtain ⟨a,r',k1,k2,k3,k4,k5,k6⟩:=hP.row? hr;rw [hm] at k1; cases k1;exact ⟨_,by simp only [k2,qTw hF hlo h1,qTx hF hhi h2]; rw [if_pos ⟨k3.trans hc.1,hc.2⟩],.slice hm⟩
      . cases hp
    . cases hp
  | sliceNil =>
    simp only [pCut,qDx,cutV] at hp ⊢
    split at hp
    . rename_i l k h1 h2
      split at hp
      . rename_i hc
        cases hp;exact ⟨_,by simp only [qTw hF hlo h1,qTx hF hhi h2]; rw [if_pos hc],.sliceNil⟩
      . cases hp
    . cases hp
  | fptr=>simp [pCut,cutV,fptr] at hp; cases hp
  | _=>simp [pCut,qDx,cutV] at hp
theorem pFn_R {W:Nat→Prop} {f:Fn} {cs cs':List Value} {p:Value} (hc:Rs W H m cs cs') (hp:pFn f cs=some p):∃ v,some (Value.func f #[] cs'.toArray)=some v∧R W H m p v:=by
  unfold pFn at hp
  split at hp
  . cases hp
    exact ⟨_,rfl,.func rfl (fun i x y h=>by simp at h) (by simpa using hc.length) fun i x y h1 h2=>hc.get i x y (by simpa using h1) (by simpa using h2)⟩
  . cases hp
theorem pMfn_R {W:Nat→Prop} {f:Fn} {cs cs':List Value} {p:Value} (hc:Rs W H m cs cs') (hp:pMfn f cs=some p):∃ v,some (Value.func f cs'.toArray #[])=some v∧R W H m p v:=by
  unfold pMfn at hp
  split at hp
  . cases hp
    exact ⟨_,rfl,.func (by simpa using hc.length) (fun i x y h1 h2=>hc.get i x y (by simpa using h1) (by simpa using h2)) rfl fun i x y h=>by simp at h⟩
  . cases hp

theorem qLy (hP:PRel m h H) {fr afr:Fr} (hF:FR (Wr m h) H m fr afr) {o:QOp} (ho:okQ o=true) {p:Value} (hp:pqop o fr h=some p):∃ v,qop o afr H=some v∧R (Wr m h) H m p v:=by
  cases o with
  | val x=>cases hp; exact ⟨_,rfl,hF.ev ho⟩
  | pick c a b=>simp only [okQ,Bool.and_eq_true] at ho; exact pickV_R (hF.ev ho.1.2) (hF.ev ho.2) (hF.ev ho.1.1) hp
  | build z ps =>
    simp only [okQ,Bool.and_eq_true] at ho;obtain ⟨r,hr,e⟩:=Option.map_eq_some_iff.1 hp;subst e;obtain ⟨r',k1,k2⟩:=fill_ops hF ho.1 ho.2 hr;exact ⟨.agg r'.toArray,by simp only [qop,k1,Option.map_some],.agg' (by simpa using k2)⟩
  | load x=>exact pLd_R hP (hF.ev ho) hp
  | loadA n x=>exact pLdA_R hP (hF.ev ho) hp
  | bin op x y=>simp only [okQ,Bool.and_eq_true] at ho; exact binV_R (hF.ev ho.1) (hF.ev ho.2) hp
  | eqB g x y=>simp only [okQ,Bool.and_eq_true] at ho; exact eqBV_R (hF.ev ho.1) (hF.ev ho.2) hp
  | not x=>exact notV_R (hF.ev ho) hp
  | neg x=>exact negV_R (hF.ev ho) hp
  | conv k x=>exact convV_R (hF.ev ho) hp
  | fn f cs=>exact pFn_R (hF.map ho) hp
  | mfn f cs=>exact pMfn_R (hF.map ho) hp
  | cut e x lo hi=>simp only [okQ,Bool.and_eq_true] at ho; exact pCut_R hP hF ho.1.2 ho.2 (hF.ev ho.1.1) hp
  | fieldA off x=>exact pField_R (hF.ev ho) hp
  | part n off x=>exact partV_R (hF.ev ho) hp
  | idxA e x i=>simp only [okQ,Bool.and_eq_true] at ho; exact pIdxA_R (hF.ev ho.1) (hF.ev ho.2) hp
  | idxP l e x i=>simp only [okQ,Bool.and_eq_true] at ho; exact pIdxP_R (hF.ev ho.1) (hF.ev ho.2) hp
  | idx n l e x i=>simp only [okQ,Bool.and_eq_true] at ho; exact idxV_R (hF.ev ho.1) (hF.ev ho.2) hp
  | ext x i=>exact extV_R (hF.ev ho) hp
  | len x=>exact pLen_R (hF.ev ho) hp
  | lenS x=>exact lenSV_R (hF.ev ho) hp
  | none3 x=>exact pNone_R (hF.ev ho) hp
  | idxS x i=>simp only [okQ,Bool.and_eq_true] at ho; exact idxSV_R (hF.ev ho.1) (hF.ev ho.2) hp
  | ptrCk x=>exact pPtr_R (hF.ev ho) hp
  | eqS g x y=>simp only [okQ,Bool.and_eq_true] at ho; exact eqSV_R (hF.ev ho.1) (hF.ev ho.2) hp
  | eqA ks g x y=>simp only [okQ,Bool.and_eq_true] at ho; exact eqAV_R (hF.ev ho.1) (hF.ev ho.2) hp
  | mm mx x ys=>simp only [okQ,Bool.and_eq_true] at ho; exact mmV_R (hF.ev ho.1) (hF.map ho.2) hp
end
end Pm
/- The pure machine, third part: operations that make rows or write into them, and that the abstract machine's do the same.
   No condition: plain lemmas. -/
namespace Pm
set_option linter.unusedSimpArgs false
set_option linter.unusedVariables false
open Go Am

def qCv (h:Heap) (e:Nat) (x:Value):Option (Nat×List Value) :=
  match qDx x with
  | some (e',n,cs)=>if e'=e then some (n,cs) else none
  | none=>qDz h e x
def qJg (h:Heap) (e:Nat) (s:Value) (n:Nat) (new:List Value):Option (Value×Heap) :=
  match s with
  | .slice none 0 0=>if n=0 then some (.slice none 0 0,h) else if n≤lim then some (.slice (some ⟨h.length,0,none⟩) n 0,Am.newRow h new e) else none
  | .slice (some ⟨id,off,none⟩) len ver =>
    match h.row? id ver with
    | some r =>
      if r.rw=true∧r.esz=e∧off+len * e≤r.cells.length∧len+n≤lim then
        some (.slice (some ⟨id,0,none⟩) (len+n) (ver+1),h.set id (.row ⟨(r.cells.drop off).take (len * e)++new,e,ver+1,true⟩))
      else none
    | none=>none
  | _=>none
def pApp (h:Heap) (e:Nat) (s x:Value):Option (Value×Heap) :=
  match qCv h e x with
  | some (n,new)=>qJg h e s n new
  | none=>none
def qRg (h:Heap) (e:Nat) (d:Value) (n:Nat) (cs:List Value):Option (Value×Heap) :=
  match d with
  | .slice none 0 0=>some (.int .i64 0,h)
  | .slice (some ⟨id,off,none⟩) len ver =>
    if min n len=0 then some (.int .i64 0,h) else
    match h.row? id ver with
    | some r=>if r.rw=true∧off+min n len * e≤r.cells.length∧min n len * e≤cs.length then
        some (.int .i64 (min n len:Nat),h.set id (.row { r with cells:=setAll r.cells off (cs.take (min n len * e)) })) else none
    | none=>none
  | _=>none
def qUc (h:Heap) (e:Nat) (d s:Value):Option (Value×Heap) :=
  match qCv h e s with
  | some (n,cs)=>qRg h e d n cs
  | none=>none
theorem appV_more {H:Heap} {e:Nat} {s x:Value} {n:Nat} {new:List Value} (h:qDz H e x=some (n,new)):appV H e s x=qJg H e s n new:=by
  simp only [appV,h,qJg]; rfl
theorem copyV_over {H:Heap} {e:Nat} {d s:Value} {n:Nat} {cs:List Value} (h:qDz H e s=some (n,cs)):qSm H e d s=qRg H e d n cs:=by
  unfold qSm qRg;rw [h];cases d with
  | slice a len cap =>
    cases a with
    | none=>cases len<;>cases cap<;>rfl
    | some a=>obtain ⟨b,o,s⟩:=a; cases s<;>rfl
  | _=>rfl

def peop:EOp→Fr→Heap→Option (Value×Heap)
  | .app e s x,fr,h=>pApp h e (ev fr s) (ev fr x)
  | .copy e d s,fr,h=>qUc h e (ev fr d) (ev fr s)
  | o,fr,h=>eop o fr h

def okE:EOp→Bool
  | .new z _=>z.all qDe
  | .box _ _ x=>okO x
  | .lit z _ _ ps=>z.all qDe && okL (ps.map (·.2.2))
  | .make z _ l c=>z.all qDe && okO l && okO c
  | .store _ a x=>okO a && okO x
  | .app _ s x=>okO s && okO x
  | .clear z x=>z.all qDe && okO x
  | .copy _ d s=>okO d && okO s

section
variable {h H : Heap} {m : Map}

def Map.put (m:Map) (id a:Nat):Map:=fun i=>if i=id then some a else m i

theorem PRel.push (hP:PRel m h H) {vs vs':List Value} (hr:Rs (Wr m h) H m vs vs') (e:Nat) :
    PRel (m.put h.length H.length) (Am.newRow h vs e) (Am.newRow H vs' e)∧MLe m (m.put h.length H.length)∧Stp (Wr m h) H (Wr (m.put h.length H.length) (Am.newRow h vs e)) (Am.newRow H vs' e)∧(m.put h.length H.length) h.length=some H.length:=by
  have hle:MLe m (m.put h.length H.length):=by
    intro id a ha;have:=(hP.dom id a ha).1;unfold Map.put; rw [if_neg (by omega)]; exact ha
  have hw:∀ a,Wr (m.put h.length H.length) (Am.newRow h vs e) a→Wr m h a∨a=H.length:=by
    rintro a ⟨id,r,h1,h2,h3⟩
    by_cases hi:id=h.length
    . subst hi; simp [Map.put] at h3; exact .inr h3.symm
    . unfold Map.put at h3; rw [if_neg hi] at h3
      have:=(hP.dom id a h3).1;unfold Am.newRow at h1;rw [List.getElem?_append_left (by omega)] at h1
      exact .inl ⟨id,r,h1,h2,h3⟩
  have hs:Stp (Wr m h) H (Wr (m.put h.length H.length) (Am.newRow h vs e)) (Am.newRow H vs' e) :=
    ⟨by simp [Am.newRow],fun a ha _=>by unfold Am.newRow; rw [List.getElem?_append_left ha],fun a ha=>(hw a ha).imp (fun x=>x) (fun x=>by omega)⟩
  refine ⟨⟨fun id r hid=>?_,fun id id' a h1 h2=>?_,fun id a ha=>?_⟩,hle,hs,by simp [Map.put]⟩
  . by_cases hi:id < h.length
    . unfold Am.newRow at hid
      rw [List.getElem?_append_left hi] at hid;obtain ⟨a,r',k1,k2,k3,k4,k5,k6⟩:=hP.row id r hid;exact ⟨a,r',hle _ _ k1,by unfold Am.newRow; rw [List.getElem?_append_left (hP.dom _ _ k1).2]; exact k2,k3,k4,k5,k6.mono hs hle⟩
    . unfold Am.newRow at hid
      rw [List.getElem?_append_right (by omega)] at hid
      have hi':id - h.length < 1:=by simpa using (List.getElem?_eq_some_iff.1 hid).1
      have hi'':id=h.length:=by omega
      subst hi'';simp at hid;subst hid;exact ⟨H.length,⟨vs',e,0,true⟩,by simp [Map.put],by unfold Am.newRow; rw [List.getElem?_append_right (Nat.le_refl _)]; simp,rfl,rfl,fun _=>rfl,hr.mono hs hle⟩
  . unfold Map.put at h1 h2
    split at h1
    . rename_i e1
      split at h2
      . rename_i e2; omega
      . cases h1; have:=(hP.dom _ _ h2).2; omega
    . split at h2
      . cases h2; have:=(hP.dom _ _ h1).2; omega
      . exact hP.inj _ _ _ h1 h2
  . unfold Map.put at ha
    split at ha
    . cases ha; subst_vars; simp [Am.newRow]
    . have:=hP.dom _ _ ha; simp [Am.newRow]; omega

theorem PRel.turn (hP:PRel m h H) {id a:Nat} {r r1 r':Row} (hr:h[id]?=some (.row r)) (hrw:r.rw=true) (hm:m id=some a) (hc:Rs (Wr m h) H m r1.cells r'.cells) (he:r'.esz=r1.esz) (hv:r'.ver=r1.ver) (hw:r1.rw=true→r'.rw=true) :
    PRel m (h.set id (.row r1)) (H.set a (.row r'))∧Stp (Wr m h) H (Wr m (h.set id (.row r1))) (H.set a (.row r')):=by
  have hil:id < h.length:=(List.getElem?_eq_some_iff.1 hr).1;have hal:a < H.length:=(hP.dom _ _ hm).2;have hwr:Wr m h a:=⟨id,r,hr,hrw,hm⟩;have hsub:∀ b,Wr m (h.set id (.row r1)) b→Wr m h b:=by
    rintro b ⟨i,q,h1,h2,h3⟩
    by_cases hi:i=id
    . subst hi; rw [hm] at h3; cases h3; exact hwr
    . rw [List.getElem?_set_ne (fun x=>hi x.symm)] at h1; exact ⟨i,q,h1,h2,h3⟩
  have hs:Stp (Wr m h) H (Wr m (h.set id (.row r1))) (H.set a (.row r')) :=
    ⟨by simp,fun b hb hn=>by rw [List.getElem?_set_ne (fun x=>hn (by rw [← x]; exact hwr))],fun b hb=>.inl (hsub b hb)⟩
  refine ⟨⟨fun i q hq=>?_,hP.inj,fun i b hb=>by simpa using hP.dom i b hb⟩,hs⟩
  by_cases hi:i=id
  . subst hi
    rw [List.getElem?_set_self hil] at hq; cases hq;exact ⟨a,r',hm,List.getElem?_set_self hal,he,hv,hw,hc.mono hs (.refl m)⟩
  . rw [List.getElem?_set_ne (fun x=>hi x.symm)] at hq
    obtain ⟨b,q',k1,k2,k3,k4,k5,k6⟩:=hP.row i q hq;refine ⟨b,q',k1,?_,k3,k4,k5,k6.mono hs (.refl m)⟩;rw [List.getElem?_set_ne (fun x=>hi (hP.inj i id b k1 (by rw [← x]; exact hm)))]; exact k2

def Both (m:Map) (h H:Heap) (p:Value) (h':Heap) (o:Option (Value×Heap)):Prop :=
  ∃ v H' m',o=some (v,H')∧MLe m m'∧Stp (Wr m h) H (Wr m' h') H'∧R (Wr m' h') H' m' p v∧PRel m' h' H'

theorem qIj (hP:PRel m h H) {vs vs':List Value} (hr:Rs (Wr m h) H m vs vs') {e:Nat} {mk:Nat→Value} (hk:∀ (W:Nat→Prop) (K:Heap) (m':Map) (i j:Nat),m' i=some j→R W K m' (mk i) (mk j)) :
    Both m h H (mk h.length) (Am.newRow h vs e) (some (mk H.length,Am.newRow H vs' e)):=by
  obtain ⟨k1,k2,k3,k4⟩:=hP.push hr e;exact ⟨_,_,_,rfl,k2,k3,hk _ _ _ _ _ k4,k1⟩

theorem pElems_R (hP:PRel m h H) {e:Nat} {x x':Value} (hx:R (Wr m h) H m x x') {n:Nat} {cs:List Value} (hp:qCv h e x=some (n,cs)):∃ cs',qDz H e x'=some (n,cs')∧Rs (Wr m h) H m cs cs':=by
  cases hx with
  | @lst m e' n' cs0 a o ver r hr hf he hl hb hc =>
    simp only [qCv,qCx] at hp
    split at hp
    . rename_i he'
      subst he';cases hp;refine ⟨_,by simp only [qDz,Heap.cells?,hr]; rw [if_pos hb]; rfl,.of_get ?_ fun i p v h1 h2=>?_⟩
      . simp; omega
      . simp only [List.getElem?_take,List.getElem?_drop] at h2
        split at h2
        . exact (hc i p v h1 h2).mono (.refl _ _) (.none m)
        . cases h2
    . cases hp
  | lstNil =>
    simp only [qCv,qCx] at hp
    split at hp
    . cases hp; exact ⟨[],rfl,.nil⟩
    . cases hp
  | sliceNil=>simp only [qCv,qDx,qDz] at hp; cases hp; exact ⟨[],rfl,.nil⟩
  | slice hm =>
    simp only [qCv,qDx,qDz] at hp;obtain ⟨l,hl,e1⟩:=Option.map_eq_some_iff.1 hp;cases e1;obtain ⟨a,vs,k1,k2,k3⟩:=cells_R hP hl;rw [hm] at k1; cases k1;exact ⟨vs,by simp only [qDz,k2,Option.map_some],k3⟩
  | fptr=>simp [qCv,qDz,fptr] at hp; cases hp
  | _=>simp [qCv,qDx,qDz] at hp

theorem pMore_R (hP:PRel m h H) {e n:Nat} {s s':Value} {new new':List Value} (hs:R (Wr m h) H m s s') (hn:Rs (Wr m h) H m new new') {p:Value} {h':Heap} (hp:qJg h e s n new=some (p,h')):Both m h H p h' (qJg H e s' n new'):=by
  unfold qJg at hp
  split at hp
  . cases hs with
    | sliceNil =>
      simp only [qJg]
      split at hp
      . rename_i h0
        rw [if_pos h0]; cases hp;exact ⟨_,H,m,rfl,.refl m,.refl _ _,.sliceNil,hP⟩
      . rename_i h0
        rw [if_neg h0]
        split at hp
        . rename_i h1
          rw [if_pos h1]; cases hp;exact qIj hP hn (mk:=fun i=>.slice (some ⟨i,0,none⟩) n 0) fun W K m' i j hm=>.slice hm
        . cases hp
  . rename_i id off len ver
    cases hs with
    | slice hm =>
      simp only [qJg]
      split at hp
      . rename_i r hr
        obtain ⟨a,r',k1,k2,k3,k4,k5,k6⟩:=hP.row? hr;rw [hm] at k1; cases k1
        split at hp
        . rename_i hc
          obtain ⟨c1,c2,c3,c4⟩:=hc;cases hp;simp only [k2];rw [if_pos ⟨k5 c1,by rw [k3]; exact c2,by rw [← k6.length]; exact c3,c4⟩]
          obtain ⟨q1,q2⟩:=hP.turn (Heap.row?_some hr).1 c1 hm (r1:=⟨(r.cells.drop off).take (len * e)++new,e,ver+1,true⟩) (r':=⟨(r'.cells.drop off).take (len * e)++new',e,ver+1,true⟩) (((k6.drop off).take _).append hn) rfl rfl fun _=>rfl
          exact ⟨_,_,m,rfl,.refl m,q2,.slice hm,q1⟩
        . cases hp
      . cases hp
  . cases hp

theorem pOver_R (hP:PRel m h H) {e n:Nat} {s s':Value} {new new':List Value} (hs:R (Wr m h) H m s s') (hn:Rs (Wr m h) H m new new') {p:Value} {h':Heap} (hp:qRg h e s n new=some (p,h')):Both m h H p h' (qRg H e s' n new'):=by
  unfold qRg at hp
  split at hp
  . cases hs with
    | sliceNil=>cases hp; exact ⟨_,H,m,rfl,.refl m,.refl _ _,.int _ _,hP⟩
  . rename_i id off len ver
    cases hs with
    | slice hm =>
      simp only [qRg]
      split at hp
      . rename_i h0
        rw [if_pos h0]; cases hp;exact ⟨_,H,m,rfl,.refl m,.refl _ _,.int _ _,hP⟩
      . rename_i h0
        rw [if_neg h0]
        split at hp
        . rename_i r hr
          obtain ⟨a,r',k1,k2,k3,k4,k5,k6⟩:=hP.row? hr;rw [hm] at k1; cases k1
          split at hp
          . rename_i hc
            obtain ⟨c1,c2,c3⟩:=hc;cases hp;simp only [k2];rw [if_pos ⟨k5 c1,by rw [← k6.length]; exact c2,by rw [← hn.length]; exact c3⟩]
            obtain ⟨q1,q2⟩:=hP.turn (Heap.row?_some hr).1 c1 hm (r1:={ r with cells:=setAll r.cells off (new.take (min n len * e)) }) (r':={ r' with cells:=setAll r'.cells off (new'.take (min n len * e)) }) (k6.setAll (hn.take _) off) k3 k4 k5;exact ⟨_,_,m,rfl,.refl m,q2,.int _ _,q1⟩
          . cases hp
        . cases hp
  . cases hp

theorem pe_sound (hP:PRel m h H) {fr afr:Fr} (hF:FR (Wr m h) H m fr afr) {o:EOp} (ho:okE o=true) {p:Value} {h':Heap} (hp:peop o fr h=some (p,h')):Both m h H p h' (eop o afr H):=by
  cases o with
  | new z e =>
    cases hp;exact qIj hP (qGt ho) (mk:=fun i=>.pointer (some ⟨i,0,some 0⟩)) fun W K m' i j hm=>.ptr hm
  | box n e x =>
    simp only [peop,eop] at hp ⊢
    split at hp
    . rename_i vs hvs
      obtain ⟨vs',k1,k2⟩:=qNi (hF.ev ho) hvs
      split at hp
      . rename_i hn
        cases hp;simp only [k1];rw [if_pos (by rw [← k2.length]; exact hn)]
        exact qIj hP k2 (mk:=fun i=>.pointer (some ⟨i,0,some 0⟩)) fun W K m' i j hm=>.ptr hm
      . cases hp
    . cases hp
  | lit z e len ps =>
    simp only [okE,Bool.and_eq_true] at ho;simp only [peop,eop] at hp ⊢;obtain ⟨r,hr,e1⟩:=Option.map_eq_some_iff.1 hp;cases e1;obtain ⟨r',k1,k2⟩:=fill_ops hF ho.1 ho.2 hr;rw [k1];exact qIj hP k2 (mk:=fun i=>.slice (some ⟨i,0,none⟩) len 0) fun W K m' i j hm=>.slice hm
  | make z e l c =>
    simp only [okE,Bool.and_eq_true] at ho;simp only [peop,eop] at hp ⊢;unfold qIc at hp
    split at hp
    . rename_i _ _ kl l' kc c' hl hc
      have el:=qFo (hl ▸ hF.ev ho.1.2);have ec:=qFo (hc ▸ hF.ev ho.2)
      split at hp
      . rename_i hb
        cases hp;rw [el,ec];simp only [qIc];rw [if_pos hb];exact qIj hP (qSv (qGt ho.1.1) _) (mk:=fun i=>.slice (some ⟨i,0,none⟩) l'.toNat 0) fun W K m' i j hm=>.slice hm
      . cases hp
    . cases hp
  | store n a x =>
    simp only [okE,Bool.and_eq_true] at ho;simp only [peop,eop] at hp ⊢;obtain ⟨h1,hs,e1⟩:=Option.map_eq_some_iff.1 hp;cases e1;unfold qBu at hs
    split at hs
    . rename_i _ _ id off ver vs hptr hvs
      have hra:=hF.ev ho.1;rw [hptr] at hra;obtain ⟨vs',k1,k2⟩:=qNi (hF.ev ho.2) hvs;cases hptr':ev afr a<;>rw [hptr'] at hra<;>cases hra;rename_i b hm
      split at hs
      . rename_i r hr
        obtain ⟨b',r',q1,q2,q3,q4,q5,q6⟩:=hP.row? hr;rw [hm] at q1; cases q1
        split at hs
        . rename_i hc
          cases hs;simp only [qBu,k1,q2];rw [if_pos ⟨q5 hc.1,by rw [← k2.length]; exact hc.2.1,by rw [← k2.length,← q6.length]; exact hc.2.2⟩]
          obtain ⟨z1,z2⟩:=hP.turn (Heap.row?_some hr).1 hc.1 hm (r1:={ r with cells:=setAll r.cells off vs }) (r':={ r' with cells:=setAll r'.cells off vs' }) (q6.setAll k2 off) q3 q4 q5;exact ⟨_,_,m,rfl,.refl m,z2,.undef,z1⟩
        . cases hs
      . cases hs
    . cases hs
  | app e s x =>
    simp only [okE,Bool.and_eq_true] at ho;simp only [peop,eop,pApp] at hp ⊢
    split at hp
    . rename_i n new hn
      obtain ⟨new',k1,k2⟩:=pElems_R hP (hF.ev ho.2) hn;rw [appV_more k1];exact pMore_R hP (hF.ev ho.1) k2 hp
    . cases hp
  | clear z x =>
    simp only [okE,Bool.and_eq_true] at ho;simp only [peop,eop] at hp ⊢;obtain ⟨h1,hs,e1⟩:=Option.map_eq_some_iff.1 hp;cases e1;have hra:=hF.ev ho.2;unfold qIf at hs
    split at hs
    . rename_i hx
      rw [hx] at hra;cases hs;cases hx':ev afr x<;>rw [hx'] at hra<;>cases hra;exact ⟨_,H,m,rfl,.refl m,.refl _ _,.undef,hP⟩
    . rename_i id off len ver hx
      rw [hx] at hra;cases hx':ev afr x<;>rw [hx'] at hra<;>cases hra;rename_i b hm;simp only [qIf]
      split at hs
      . rename_i h0
        cases hs;rw [if_pos h0];exact ⟨_,H,m,rfl,.refl m,.refl _ _,.undef,hP⟩
      . rename_i h0
        rw [if_neg h0]
        split at hs
        . rename_i r hr
          obtain ⟨b',r',q1,q2,q3,q4,q5,q6⟩:=hP.row? hr;rw [hm] at q1; cases q1
          split at hs
          . rename_i hc
            cases hs;simp only [q2];rw [if_pos ⟨q5 hc.1,by rw [← q6.length]; exact hc.2⟩]
            obtain ⟨z1,z2⟩:=hP.turn (Heap.row?_some hr).1 hc.1 hm (r1:={ r with cells:=setAll r.cells off (rep len z) }) (r':={ r' with cells:=setAll r'.cells off (rep len z) }) (q6.setAll (qSv (qGt ho.1) len) off) q3 q4 q5;exact ⟨_,_,m,rfl,.refl m,z2,.undef,z1⟩
          . cases hs
        . cases hs
    . cases hs
  | copy e d s =>
    simp only [okE,Bool.and_eq_true] at ho;simp only [peop,eop,qUc] at hp ⊢
    split at hp
    . rename_i n cs hn
      obtain ⟨cs',k1,k2⟩:=pElems_R hP (hF.ev ho.2) hn;rw [copyV_over k1];exact pOver_R hP (hF.ev ho.1) k2 hp
    . cases hp
end
end Pm
