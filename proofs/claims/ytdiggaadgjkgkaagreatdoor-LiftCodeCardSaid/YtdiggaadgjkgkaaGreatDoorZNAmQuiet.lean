/- The abstract machine, third part: the quiet operations (they make nothing and write nothing) as data, the translation of the model's operations to them, and that it is right.
   No condition: plain lemmas. -/

import Derived.Test.YtdiggaadgjkgkaaGreatDoorZNAmOps
namespace Am
set_option linter.unusedSimpArgs false
set_option linter.unusedVariables false
open Go

inductive QOp where
  | val (x:Operand)
  | pick (c a b:Operand)
  | build (zero:List Value) (parts:List (Nat×Nat×Operand))
  | load (x:Operand)
  | loadA (n:Nat) (x:Operand)
  | bin (op:BinOp) (x y:Operand)
  | eqB (neg:Bool) (x y:Operand)
  | not (x:Operand)
  | neg (x:Operand)
  | conv (k:IntKind) (x:Operand)
  | fn (fn:Fn) (captured:List Operand)
  | mfn (fn:Fn) (first:List Operand)
  | cut (esz:Nat) (x:Operand) (lo hi:Option Operand)
  | fieldA (off:Nat) (x:Operand)
  | part (n:Option Nat) (off:Nat) (x:Operand)
  | idxA (esz:Nat) (x i:Operand)
  | idxP (len esz:Nat) (x i:Operand)
  | idx (n:Option Nat) (len esz:Nat) (x i:Operand)
  | ext (x:Operand) (i:Nat)
  | len (x:Operand)
  | lenS (x:Operand)
  | none3 (x:Operand)
  | idxS (x i:Operand)
  | ptrCk (x:Operand)
  | eqS (neg:Bool) (x y:Operand)
  | eqA (ks:List Nat) (neg:Bool) (x y:Operand)
  | mm (mx:Bool) (x:Operand) (ys:List Operand)

def ldV (H:Heap):Value→Option Value
  | .pointer (some ⟨id,off,some ver⟩)=>H.cell? id off ver
  | _=>none
def ldA (H:Heap) (n:Nat):Value→Option Value
  | .pointer (some ⟨id,off,some ver⟩)=>(H.cells? id off ver n).map fun l=>.agg l.toArray
  | _=>none
def qOp (a b:Value):Value→Option Value
  | .bool t=>some (if t then a else b)
  | _=>none
def eqBV (neg:Bool):Value→Value→Option Value
  | .bool a,.bool b=>some (.bool (if neg then a != b else a == b))
  | _,_=>none
def notV:Value→Option Value
  | .bool b=>some (.bool (!b))
  | _=>none
def negV:Value→Option Value
  | .int k n=>some (.int k (k.wrap (0 - n)))
  | _=>none
def qPl (k:IntKind):Value→Option Value
  | .int _ n=>some (.int k (k.wrap n))
  | _=>none
def loV (x:Option Value):Option Nat :=
  match x with
  | none=>some 0
  | some (.int _ n)=>if 0≤n then some n.toNat else none
  | _=>none
def hiV (len:Nat) (x:Option Value):Option Nat :=
  match x with
  | none=>some len
  | some (.int _ n)=>if 0≤n∧n≤len then some n.toNat else none
  | _=>none
def cutV (H:Heap) (esz:Nat) (x:Value) (lo hi:Option Value):Option Value :=
  match x with
  | .slice none 0 0 =>
    match loV lo,hiV 0 hi with
    | some l,some h=>if l≤h then some (.slice none 0 0) else none
    | _,_=>none
  | .slice (some ⟨id,off,none⟩) len ver =>
    match H.row? id ver,loV lo,hiV len hi with
    | some r,some l,some h=>if r.esz=esz∧l≤h then some (.slice (some ⟨id,off+l * esz,none⟩) (h - l) ver) else none
    | _,_,_=>none
  | _=>none
def qIe (off:Nat):Value→Option Value
  | .pointer (some ⟨id,o,some ver⟩)=>some (.pointer (some ⟨id,o+off,some ver⟩))
  | _=>none
def qKa (n:Option Nat) (off:Nat):Value→Option Value
  | .agg cs=>match n with | some n=>if off+n≤cs.size then some (.agg (cs.extract off (off+n))) else none | none=>cs[off]?
  | _=>none
def qGf (esz:Nat) (x i:Value):Option Value :=
  match x,i with
  | .slice (some ⟨id,off,none⟩) len ver,.int _ i=>if 0≤i∧i < len then some (.pointer (some ⟨id,off+i.toNat * esz,some ver⟩)) else none
  | _,_=>none
def qLe (len esz:Nat) (x i:Value):Option Value :=
  match x,i with
  | .pointer (some ⟨id,off,some ver⟩),.int _ i=>if 0≤i∧i < len then some (.pointer (some ⟨id,off+i.toNat * esz,some ver⟩)) else none
  | _,_=>none
def idxV (n:Option Nat) (len esz:Nat) (x i:Value):Option Value :=
  match i with
  | .int _ i=>if 0≤i∧i < len then qKa n (i.toNat * esz) x else none
  | _=>none
def extV (i:Nat):Value→Option Value
  | .tuple vs=>vs[i]?
  | _=>none
def lenV:Value→Option Value
  | .slice _ n _=>some (.int .i64 n)
  | _=>none
def qNz:Value→Option Value
  | .slice _ _ _=>some (.slice none 0 0)
  | _=>none
def qQv:Value→Option Value
  | .string s=>some (.int .i64 s.size)
  | _=>none
def qQw:Value→Value→Option Value
  | .string s,.int _ i=>if 0≤i then (s[i.toNat]?).map fun b=>.int .u8 b.toNat else none
  | _,_=>none
def ptrV:Value→Option Value
  | .pointer (some a)=>some (.pointer (some a))
  | _=>none
def eqSV (neg:Bool):Value→Value→Option Value
  | .string a,.string b=>some (.bool (if neg then !(a == b) else a == b))
  | _,_=>none
def eqC:Nat→Value→Value→Option Bool
  | 1,.bool a,.bool b=>some (a == b)
  | 0,.int k a,.int k' b=>if k=k' then some (a == b) else none
  | 2,.string a,.string b=>some (a == b)
  | _,_,_=>none
def eqCs:List Nat→List Value→List Value→Option Bool
  | [],[],[]=>some true
  | k :: ks,x :: xs,y :: ys=>match eqC k x y with | some true=>eqCs ks xs ys | some false=>some false | none=>none
  | _,_,_=>none
def eqAV (ks:List Nat) (neg:Bool):Value→Value→Option Value
  | .agg xs,.agg ys=>(eqCs ks xs.toList ys.toList).map fun b=>.bool (if neg then !b else b)
  | _,_=>none
def mmV (mx:Bool):Value→List Value→Option Value
  | x,[]=>some x
  | .int k x,.int _ y :: ys=>mmV mx (.int k (if (if mx then x < y else y < x) then y else x)) ys
  | _,_=>none

def qop:QOp→Fr→Heap→Option Value
  | .val x,fr,_=>some (ev fr x)
  | .pick c a b,fr,_=>qOp (ev fr a) (ev fr b) (ev fr c)
  | .build z ps,fr,_=>(qEa z (ps.map fun p=>(p.1,p.2.1,ev fr p.2.2))).map fun l=>.agg l.toArray
  | .load x,fr,H=>ldV H (ev fr x)
  | .loadA n x,fr,H=>ldA H n (ev fr x)
  | .bin op x y,fr,_=>binV op (ev fr x) (ev fr y)
  | .eqB neg x y,fr,_=>eqBV neg (ev fr x) (ev fr y)
  | .not x,fr,_=>notV (ev fr x)
  | .neg x,fr,_=>negV (ev fr x)
  | .conv k x,fr,_=>qPl k (ev fr x)
  | .fn f cs,fr,_=>some (.func f #[] (cs.map (ev fr)).toArray)
  | .mfn f cs,fr,_=>some (.func f (cs.map (ev fr)).toArray #[])
  | .cut esz x lo hi,fr,H=>cutV H esz (ev fr x) (lo.map (ev fr)) (hi.map (ev fr))
  | .fieldA off x,fr,_=>qIe off (ev fr x)
  | .part n off x,fr,_=>qKa n off (ev fr x)
  | .idxA esz x i,fr,_=>qGf esz (ev fr x) (ev fr i)
  | .idxP len esz x i,fr,_=>qLe len esz (ev fr x) (ev fr i)
  | .idx n len esz x i,fr,_=>idxV n len esz (ev fr x) (ev fr i)
  | .ext x i,fr,_=>extV i (ev fr x)
  | .len x,fr,_=>lenV (ev fr x)
  | .lenS x,fr,_=>qQv (ev fr x)
  | .none3 x,fr,_=>qNz (ev fr x)
  | .idxS x i,fr,_=>qQw (ev fr x) (ev fr i)
  | .ptrCk x,fr,_=>ptrV (ev fr x)
  | .eqS neg x y,fr,_=>eqSV neg (ev fr x) (ev fr y)
  | .eqA n neg x y,fr,_=>eqAV n neg (ev fr x) (ev fr y)
  | .mm mx x ys,fr,_=>mmV mx (ev fr x) (ys.map (ev fr))

/-! ### The translation -/
def szOf (P:Program) (t:TypeId):Option Nat:=(P.info? t).map (·.size)
def qFd (P:Program) (t:TypeId):Option (List Value) :=
  match P.info? t with
  | some i=>match i.zero with
    | some z=>if qEt z=true∧z.cells.size=i.size∧z.cells.toList.all qDe=true then some z.cells.toList else none
    | none=>none
  | none=>none
def aggN (P:Program) (t:TypeId):Option (Option Nat) :=
  match P.underlying t with
  | some (.struct _) | some (.array _ _)=>(szOf P t).map some
  | some _=>some none
  | none=>none
def qEi (place:Nat→Option (Nat×Nat)):List (Nat×Operand)→Option (List (Nat×Nat×Operand))
  | []=>some []
  | (i,x) :: ps =>
    match place i,qEi place ps with
    | some (off,n),some qs=>if okO x then some ((off,n,x) :: qs) else none
    | _,_=>none
def qEz (P:Program):List Field→Option (List (Nat×Nat))
  | []=>some []
  | f :: fs =>
    match szOf P f.type,qEz P fs with
    | some n,some ps=>some ((f.offset,n) :: ps)
    | _,_=>none
def qKs (P:Program) (t:TypeId):Option Nat :=
  match P.underlying t with
  | some (.int _)=>some 0
  | some .bool=>some 1
  | some .string=>some 2
  | _=>none
def qSl (P:Program):Nat→List Field→Option (List Nat)
  | _,[]=>some []
  | off, f :: fs => if f.name != "_" && f.offset == off then match qKs P f.type, qSl P (off + 1) fs with | some k, some ks => some (k :: ks) | _, _ => none else none
def qTc (P:Program) (e:TypeId):Option (List Nat) :=
  match qKs P e with
  | some k=>some [k]
  | none=>match P.underlying e with
    | some (.struct fs)=>match qSl P 0 fs.toList with
      | some ks=>if P.stoodInHeld e=false∧szOf P e=some ks.length then some ks else none
      | none=>none
    | _=>none
def repK (n:Nat) (ks:List Nat):List Nat:=(List.replicate n ks).flatten
def okL (xs:List Operand):Bool:=xs.all okO
def qMt (x:Option Operand):Bool:=match x with | some x=>okO x | none=>true

def c3 (P:Program) (t:TypeId) (x:Operand) (lo hi:Option Operand) (mx:Operand):Option QOp :=
  match lo,hi,mx with
  | none,some (.const (.int _ h)),.const (.int _ n) =>
    if okO x=true∧h=0∧n=0 then match P.underlying t with
      | some (.slice e)=>(szOf P e).map fun _=>.none3 x
      | _=>none
    else none
  | _,_,_=>none
def cQ (P:Program):Op→Option QOp
  | .move x | .assign x=>if okO x then some (.val x) else none
  | .pick c a b=>if okO c && okO a && okO b then some (.pick c a b) else none
  | .build t parts =>
    match qFd P t,P.underlying t with
    | some z,some (.struct fs) =>
      match qEz P fs.toList with
      | some pl=>(qEi (pl[·]?) parts.toList).map (.build z)
      | none=>none
    | some z,some (.array _ e) =>
      match szOf P e with
      | some n=>(qEi (fun i=>some (i * n,n)) parts.toList).map (.build z)
      | none=>none
    | _,_=>none
  | .load t a =>
    if okO a then match aggN P t with
      | some none=>some (.load a)
      | some (some n)=>some (.loadA n a)
      | none=>none
    else none
  | .binOp op t x y _ =>
    if okO x && okO y then match P.underlying t with
      | some (.int _)=>some (.bin op x y)
      | some .bool=>match op with
        | .eql=>some (.eqB false x y)
        | .neq=>some (.eqB true x y)
        | _=>none
      | some .string=>match op with
        | .eql=>some (.eqS false x y)
        | .neq=>some (.eqS true x y)
        | _=>none
      | some (.struct fs) =>
        match qSl P 0 fs.toList with
        | some ks =>
          if !P.stoodInHeld t && !P.eqGuardType P.depth t then match op with
            | .eql=>some (.eqA ks false x y)
            | .neq=>some (.eqA ks true x y)
            | _=>none
          else none
        | none=>none
      | some (.array n e) =>
        match qTc P e with
        | some ks =>
          if szOf P e=some ks.length∧P.eqGuardType P.depth t=false then match op with
            | .eql=>some (.eqA (repK n ks) false x y)
            | .neq=>some (.eqA (repK n ks) true x y)
            | _=>none
          else none
        | none=>none
      | _=>none
    else none
  | .unOp op _ x =>
    if okO x then match op with
      | .not=>some (.not x)
      | .neg=>some (.neg x)
      | _=>none
    else none
  | .convert s d x =>
    if okO x then match P.underlying s,P.underlying d with
      | some (.int _),some (.int k)=>some (.conv k x)
      | _,_=>none
    else none
  | .makeFunc fn first cap=>if first.size=0∧okL cap.toList=true then some (.fn fn cap.toList) else if cap.size=0∧okL first.toList=true then some (.mfn fn first.toList) else none
  | .slice t x lo hi none =>
    if okO x && qMt lo && qMt hi then match P.underlying t with
      | some (.slice e)=>(szOf P e).map fun n=>.cut n x lo hi
      | _=>none
    else none
  | .slice t x lo hi (some mx)=>c3 P t x lo hi mx
  | .fieldAddr s x f =>
    if okO x then match P.underlying s with
      | some (.struct fs)=>match fs[f]? with
        | some fd=>match szOf P fd.type with
          | some n=>if n=0 then none else some (.fieldA fd.offset x)
          | none=>none
        | none=>none
      | _=>none
    else none
  | .field s x f =>
    if okO x then match P.underlying s with
      | some (.struct fs)=>match fs[f]? with
        | some fd=>(aggN P fd.type).map fun n=>.part n fd.offset x
        | none=>none
      | _=>none
    else none
  | .indexAddr t x i =>
    if okO x && okO i then match P.underlying t with
      | some (.slice e)=>(szOf P e).map fun n=>.idxA n x i
      | some (.array len e)=>(szOf P e).map fun n=>.idxP len n x i
      | _=>none
    else none
  | .index t x i =>
    if okO x && okO i then match P.underlying t with
      | some (.array len e)=>match aggN P e,szOf P e with
        | some n,some sz=>some (.idx n len sz x i)
        | _,_=>none
      | some .string=>some (.idxS x i)
      | _=>none
    else none
  | .extract x i=>if okO x then some (.ext x i) else none
  | .nilCheck x=>if okO x then some (.ptrCk x) else none
  | .call { callee:=.builtin .len,args,argTypes } =>
    match args.toList,argTypes.toList with
    | [x],[t] =>
      if okO x then match P.underlying t with
        | some .string=>some (.lenS x)
        | some (.slice _)=>some (.len x)
        | some (.array n _)=>some (.val (.const (.int .i64 n)))
        | _=>none
      else none
    | _,_=>none
  | .call { callee:=.builtin .min,args,argTypes:=_ } =>
    match args.toList with
    | x :: ys=>if okO x && okL ys then some (.mm false x ys) else none
    | _=>none
  | .call { callee:=.builtin .max,args,argTypes:=_ } =>
    match args.toList with
    | x :: ys=>if okO x && okL ys then some (.mm true x ys) else none
    | _=>none
  | _=>none

section
variable {P : Program} {m : Mu} {H : Heap} {w : World} {fr : Fr} {a : Act}

theorem qCj {t:TypeId} {d:TypeDesc} (h:P.underlying t=some d) (w:World):(underlying t).run P w=.ok d w:=run_underlying h w
theorem qCl {t:TypeId} {n:Nat} (h:szOf P t=some n) (w:World):(Go.sizeOf t).run P w=.ok n w:=by
  unfold szOf at h;cases hi:P.info? t with
  | none=>simp [hi] at h
  | some i=>simp [hi] at h; subst h; simp [Go.sizeOf,typeInfo,hi]
theorem qEh {t:TypeId} {zs:List Value} (h:qFd P t=some zs):∃ i z,P.info? t=some i∧i.zero=some z∧z.cells.toList=zs∧zs.length=i.size∧zs.all qDe=true∧qEt z=true:=by
  unfold qFd at h
  split at h
  . rename_i i hi
    split at h
    . rename_i z hz
      split at h
      . rename_i hc; cases h; exact ⟨i,z,hi,hz,rfl,by simpa using hc.2.1,hc.2.2,hc.1⟩
      . cases h
    . cases h
  . cases h
theorem qIq {t:TypeId} {i:TypeInfo} {z:Value} (hi:P.info? t=some i) (hz:i.zero=some z) (w:World):(zeroValue t).run P w=.ok z w:=by simp [zeroValue,typeInfo,hi,hz]
theorem qHd {t:TypeId} {o:Option Nat} (h:aggN P t=some o) (w:World):(isAgg t).run P w=.ok o.isSome w∧∀ n,o=some n→szOf P t=some n:=by
  unfold aggN at h
  split at h
  . rename_i fs hu
    cases hs:szOf P t with
    | none=>simp [hs] at h
    | some n=>simp [hs] at h; subst h; exact ⟨by simp [isAgg,qCj hu],fun n' e=>by cases e; rfl⟩
  . rename_i n e hu
    cases hs:szOf P t with
    | none=>simp [hs] at h
    | some n=>simp [hs] at h; subst h; exact ⟨by simp [isAgg,qCj hu],fun n' e=>by cases e; rfl⟩
  . rename_i d hn1 hn2 hu
    cases h;refine ⟨?_,fun n e=>by cases e⟩
    simp only [isAgg,Sem.run_bind,qCj hu,Result.andThen_ok];cases d<;>first | rfl | exact (hn1 _ rfl).elim | exact (hn2 _ _ rfl).elim
  . cases h

theorem qKw {len ver cap:Nat} {ad:Addr} {a':Option Addr} (h:VRel m (.slice (some ad) len ver) (.slice a' len cap)):cap≤maxLen:=by
  cases h with
  | slice _ _ _ hm=>exact hm
  | sliceEnd _ _=>exact Nat.zero_le _
theorem qDu {len ver:Nat} {ad:Addr} {c:Value} (h:VRel m (.slice (some ad) len ver) c):∃ a' cap,c=.slice a' len cap∧len≤cap ∧
    ((∃ L,m ad.block ver=some L∧ad.spot=none∧a'=some ⟨L.blk,L.base+ad.off,none⟩∧ad.off+cap * L.esz≤L.room)∨(len=0∧cap=0∧(∃ L,m ad.block ver=some L)∧ad.spot=none)):=by
  cases h with
  | slice h hl hr hm=>exact ⟨_,_,rfl,hl,.inl ⟨_,h,rfl,rfl,hr⟩⟩
  | sliceEnd h a=>exact ⟨_,_,rfl,Nat.le_refl _,.inr ⟨rfl,rfl,⟨_,h⟩,rfl⟩⟩
theorem qMp {c:Value} (h:VRel m (.slice none 0 0) c):∃ a,c=.slice a 0 0:=by cases h; exact ⟨_,rfl⟩
theorem qIa {ad:Addr} {c:Value} (h:VRel m (.pointer (some ad)) c):∃ ver L,ad.spot=some ver∧m ad.block ver=some L∧c=.pointer (some ⟨L.blk,L.base+ad.off,none⟩):=by
  cases h with
  | ptr h=>exact ⟨_,_,rfl,h,rfl⟩
theorem qDq {k:IntKind} {n:Int} {c:Value} (h:VRel m (.int k n) c):c=.int k n:=by cases h; rfl
theorem qFn {b:Bool} {c:Value} (h:VRel m (.bool b) c):c=.bool b:=by cases h; rfl
theorem qEk {s:ByteArray} {c:Value} (h:VRel m (.string s) c):c=.string s:=by cases h; rfl

theorem s_load (hA:ARel m H w) {x c v:Value} (hx:VRel m x c) (h:ldV H x=some v) {t:TypeId} (ht:aggN P t=some none):∃ c',(Instr.loadAt t c).run P w=.ok c' w∧VRel m v c':=by
  unfold ldV at h
  split at h
  . rename_i id off ver
    obtain ⟨ver',L,h1,h2,rfl⟩:=qIa hx;cases h1;obtain ⟨r,hr,he,hj⟩:=Heap.cell?_some h;subst he;obtain ⟨c',k1,k2,_⟩:=hA.cell hr h2 hj;exact ⟨c',by simp [Instr.loadAt,Instr.sureAddr,loadVar,(qHd ht w).1,k1],k2⟩
  . cases h
theorem s_loadA (hA:ARel m H w) {x c v:Value} (hx:VRel m x c) {n:Nat} (h:ldA H n x=some v) {t:TypeId} (ht:aggN P t=some (some n)):∃ c',(Instr.loadAt t c).run P w=.ok c' w∧VRel m v c':=by
  unfold ldA at h
  split at h
  . rename_i id off ver
    obtain ⟨ver',L,h1,h2,rfl⟩:=qIa hx;cases h1;cases hv:H.cells? id off ver n with
    | none=>simp [hv] at h
    | some vs =>
      simp [hv] at h;subst h;obtain ⟨cs,k1,_,_,k2⟩:=hA.cells hv h2;obtain ⟨r,_,_,hb,e⟩:=Heap.cells?_some hv;have hlen:cs.length=n:=by rw [← k1.length,e]; simp; omega
      have hsz:=(qHd ht w).2 n rfl;have:=run_loadCells_list (P:=P) w ⟨L.blk,L.base+off,none⟩ cs k2;rw [hlen] at this;refine ⟨.agg cs.toArray,by simp [Instr.loadAt,Instr.sureAddr,loadVar,(qHd ht w).1,qCl hsz,this],.agg' (by simpa using k1)⟩
  . cases h

theorem loV_run {x:Option Value} {l:Nat} (h:loV x=some l):x=none∧l=0∨∃ k,x=some (.int k l):=by
  unfold loV at h
  split at h
  . cases h; exact .inl ⟨rfl,rfl⟩
  . rename_i k n
    split at h
    . rename_i hn; cases h; exact .inr ⟨k,by rw [Int.toNat_of_nonneg hn]⟩
    . cases h
  . cases h
theorem hiV_run {len:Nat} {x:Option Value} {l:Nat} (h:hiV len x=some l):l≤len∧(x=none∧l=len∨∃ k,x=some (.int k l)):=by
  unfold hiV at h
  split at h
  . cases h; exact ⟨Nat.le_refl _,.inl ⟨rfl,rfl⟩⟩
  . rename_i k n
    split at h
    . rename_i hn; cases h; exact ⟨by omega,.inr ⟨k,by rw [Int.toNat_of_nonneg hn.1]⟩⟩
    . cases h
  . cases h
theorem qNs (k:IntKind) (l y:Nat) (code:BoundsCode) (h:l≤y) (w:World):(Instr.sliceBound (.int k l) y code).run P w=.ok l w:=by
  have:(0:Int)≤l∧(l:Int)≤y:=⟨by omega,by omega⟩
  simp [Instr.sliceBound,asIntOf,this.2]
theorem bounds_run {lo hi:Option Value} {l h:Nat} (len cap:Nat) (hlo:lo=none∧l=0∨∃ k,lo=some (.int k l)) (hhi:hi=none∧h=len∨∃ k,hi=some (.int k h)) (hlh:l≤h) (hh:h≤len) (hc:len≤cap) (w:World) :
    (Instr.sliceBounds true len cap lo hi none).run P w=.ok (l,h,cap) w:=by
  rcases hlo with ⟨rfl,rfl⟩ | ⟨k,rfl⟩<;>rcases hhi with ⟨rfl,rfl⟩ | ⟨k',rfl⟩ <;>
    simp [Instr.sliceBounds,qNs _ _ _ _ hlh,qNs _ _ _ _ (Nat.le_trans hh hc)]

theorem opt_rel {x:Option Operand} (hF:FRel m fr a) (hx:qMt x=true) {k:IntKind} {n:Int} (h:x.map (ev fr)=some (.int k n)):x.map a.eval=some (.int k n):=by
  cases x with
  | none=>cases h
  | some x=>simp at h ⊢; have:=hF.ev (x:=x) hx; rw [h] at this; exact qDq this
theorem opt_none {x:Option Operand} (h:x.map (ev fr)=none):x.map a.eval=none:=by cases x with | none=>rfl | some x=>cases h

theorem s_none3 {x v:Value} {c:Value} (hx:VRel m x c) {k1 k2:IntKind} (h:qNz x=some v) {t e:TypeId} (ht:P.underlying t=some (.slice e)) {esz:Nat} (he:szOf P e=some esz) :
    ∃ c',(Instr.sliceAt t c none (some (.int k1 0)) (some (.int k2 0))).run P w=.ok c' w∧VRel m v c':=by
  obtain ⟨a0,n0,c0,rfl⟩:∃ a n c',c=.slice a n c':=by
    cases hx<;>first | exact ⟨_,_,_,rfl⟩ | cases h
  have hv:v=.slice none 0 0:=by
    unfold qNz at h
    split at h
    . exact (Option.some.inj h).symm
    . cases h
  subst hv;have b1:∀ (k:IntKind) (y:Nat) (c:BoundsCode) (w:World),(Instr.sliceBound (.int k 0) y c).run P w=.ok 0 w:=fun k y c w=>qNs k 0 y c (Nat.zero_le _) w
  exact ⟨.slice (if 0=0 then a0 else a0.map fun x=>x.add (0 * esz)) 0 0,by simp [Instr.sliceAt,qCj ht,Instr.slice,Instr.sliceBounds,b1,qCl he],.sliceNil _⟩

theorem s_cut (hA:ARel m H w) (hF:FRel m fr a) {x v:Value} {c:Value} (hx:VRel m x c) {lo hi:Option Operand} (hlo:qMt lo=true) (hhi:qMt hi=true) {esz:Nat}
    (h:cutV H esz x (lo.map (ev fr)) (hi.map (ev fr))=some v) {t e:TypeId} (ht:P.underlying t=some (.slice e)) (he:szOf P e=some esz) :
    ∃ c',(Instr.sliceAt t c (lo.map a.eval) (hi.map a.eval) none).run P w=.ok c' w∧VRel m v c':=by
  have hlo':∀ l,loV (lo.map (ev fr))=some l→lo.map a.eval=none∧l=0∨∃ k,lo.map a.eval=some (.int k l):=by
    intro l hl;rcases loV_run hl with ⟨h1,h2⟩ | ⟨k,h1⟩
    . exact .inl ⟨opt_none h1,h2⟩
    . exact .inr ⟨k,opt_rel hF hlo h1⟩
  have hhi':∀ len l,hiV len (hi.map (ev fr))=some l→l≤len∧(hi.map a.eval=none∧l=len∨∃ k,hi.map a.eval=some (.int k l)):=by
    intro len l hl;obtain ⟨h0,h1⟩:=hiV_run hl;rcases h1 with ⟨h1,h2⟩ | ⟨k,h1⟩
    . exact ⟨h0,.inl ⟨opt_none h1,h2⟩⟩
    . exact ⟨h0,.inr ⟨k,opt_rel hF hhi h1⟩⟩
  unfold cutV at h
  split at h
  . obtain ⟨a0,rfl⟩:=qMp hx
    split at h
    . rename_i l hh h1 h2
      split at h
      . rename_i hle
        cases h;obtain ⟨k0,k1⟩:=hhi' 0 hh h2;have hl0:l=0:=by omega
        have hh0:hh=0:=by omega
        subst hl0; subst hh0;exact ⟨.slice a0 0 0,by simp [Instr.sliceAt,qCj ht,Instr.slice,bounds_run 0 0 (hlo' 0 h1) k1 (Nat.le_refl _) (Nat.le_refl _) (Nat.le_refl _),qCl he],.sliceNil _⟩
      . cases h
    . cases h
  . rename_i id off len ver
    split at h
    . rename_i r l hh hr h1 h2
      split at h
      . rename_i hc
        cases h;obtain ⟨a',cap,rfl,hcap,hor⟩:=qDu hx;obtain ⟨k0,k1⟩:=hhi' len hh h2;have hb:=bounds_run (P:=P) len cap (hlo' l h1) k1 hc.2 k0 hcap w;refine ⟨.slice (if cap=l then a' else a'.map (·.add (l * esz))) (hh - l) (cap - l),by simp [Instr.sliceAt,qCj ht,Instr.slice,hb,qCl he],?_⟩
        rcases hor with ⟨L,q1,_,rfl,q2⟩ | ⟨rfl,rfl,⟨L,q1⟩,_⟩
        . simp only at q1 q2
          by_cases e:cap=l
          . rw [if_pos e,show hh - l=0 by omega,show cap - l=0 by omega]
            exact .sliceEnd q1 _
          . rw [if_neg e]
            simp only [Option.map_some,qEg,Nat.add_assoc];have hesz:L.esz=esz:=by
              obtain ⟨r1,r2⟩:=Heap.row?_some hr;obtain ⟨L',cs,T,fz,z1,z2,z3,_⟩:=hA.row id r r1;rw [r2,q1] at z1; cases z1;rw [z3]; exact hc.1
            have hmx:=qKw hx;refine .slice q1 (by omega) ?_ (by omega)
            have e2:cap=l+(cap - l):=by omega
            rw [e2,Nat.add_mul,hesz] at q2;rw [hesz]; omega
        . have hl0:l=0:=by omega
          have hh0:hh=0:=by omega
          subst hl0; subst hh0;exact .sliceEnd q1 _
      . cases h
    . cases h
  . cases h

theorem s_field {x v c:Value} (hx:VRel m x c) {s:TypeId} {f:Nat} {fs:Array Field} {fd:Field} (hs:P.underlying s=some (.struct fs)) (hf:fs[f]?=some fd) {n:Nat} (hn:szOf P fd.type=some n) (hn0:n≠0)
    (h:qIe fd.offset x=some v):∃ c',(Instr.fieldAt s c f).run P w=.ok c' w∧VRel m v c':=by
  unfold qIe at h
  split at h
  . rename_i id o ver
    cases h;obtain ⟨ver',L,h1,h2,rfl⟩:=qIa hx;cases h1;refine ⟨.pointer (some ⟨L.blk,L.base+o+fd.offset,none⟩),by simp [Instr.fieldAt,qCj hs,hf,Instr.sureAddr,fieldPlace,qCl hn,hn0,qEg],?_⟩
    rw [Nat.add_assoc]; exact .ptr h2
  . cases h

theorem rel_agg {xs:Array Value} {c:Value} (h:VRel m (.agg xs) c):∃ ys,c=.agg ys∧xs.size=ys.size∧∀ (i:Nat) (x y:Value),xs[i]?=some x→ys[i]?=some y→VRel m x y:=by
  cases h with
  | agg hs h=>exact ⟨_,rfl,hs,h⟩
theorem s_part {x v c:Value} (hx:VRel m x c) {n:Option Nat} {off:Nat} (h:qKa n off x=some v) {t:TypeId} (ht:aggN P t=some n) :
    ∃ ys c',c=.agg ys∧(part t ys off).run P w=.ok c' w∧VRel m v c':=by
  unfold qKa at h
  split at h
  . rename_i cs
    obtain ⟨ys,rfl,hs,hh⟩:=rel_agg hx;cases n with
    | some n =>
      simp only at h
      split at h
      . rename_i hb
        cases h;have hsz:=(qHd ht w).2 n rfl;refine ⟨ys,.agg (ys.extract off (off+n)),rfl,by simp [part,(qHd ht w).1,qCl hsz],.agg (by simp; omega) fun i x y h1 h2=>?_⟩
        rw [Array.getElem?_extract] at h1 h2
        split at h1
        . rename_i hlt
          rw [if_pos (by omega)] at h2
          exact hh _ x y h1 h2
        . cases h1
      . cases h
    | none =>
      simp only at h;obtain ⟨y,hy⟩:=qCk (hs ▸ qCi h);exact ⟨ys,y,rfl,by simp [part,(qHd ht w).1,hy],hh off v y h hy⟩
  . cases h

theorem s_idxA {x i v c d:Value} (hx:VRel m x c) (hi:VRel m i d) {esz:Nat} (h:qGf esz x i=some v) {t e:TypeId} (ht:P.underlying t=some (.slice e)) (he:szOf P e=some esz) :
    ∃ c',(Instr.indexAt t c d).run P w=.ok c' w∧VRel m v c':=by
  unfold qGf at h
  split at h
  . rename_i id off len ver k n
    split at h
    . rename_i hb
      cases h;have:=qDq hi; subst this;obtain ⟨a',cap,rfl,hcap,hor⟩:=qDu hx;rcases hor with ⟨L,q1,_,rfl,q2⟩ | ⟨rfl,_⟩
      . refine ⟨.pointer (some ⟨L.blk,L.base+(off+n.toNat * esz),none⟩),?_,.ptr q1⟩
        simp [Instr.indexAt,asIntOf,qCj ht,hb,qCl he,qEg,Nat.add_assoc]
      . omega
    . cases h
  . cases h
theorem s_idxP {x i v c d:Value} (hx:VRel m x c) (hi:VRel m i d) {esz len:Nat} (h:qLe len esz x i=some v) {t e:TypeId} (ht:P.underlying t=some (.array len e)) (he:szOf P e=some esz) :
    ∃ c',(Instr.indexAt t c d).run P w=.ok c' w∧VRel m v c':=by
  unfold qLe at h
  split at h
  . rename_i id off ver k n
    split at h
    . rename_i hb
      cases h;have:=qDq hi; subst this;obtain ⟨ver',L,h1,h2,rfl⟩:=qIa hx;cases h1;refine ⟨.pointer (some ⟨L.blk,L.base+(off+n.toNat * esz),none⟩),?_,.ptr h2⟩;simp [Instr.indexAt,asIntOf,qCj ht,hb,qCl he,qEg,Nat.add_assoc,Instr.sureAddr]
    . cases h
  . cases h
theorem s_idx {x i v c d:Value} (hx:VRel m x c) (hi:VRel m i d) {n:Option Nat} {esz len:Nat} (h:idxV n len esz x i=some v) {t e:TypeId} (ht:P.underlying t=some (.array len e)) (hn:aggN P e=some n) (he:szOf P e=some esz) :
    ∃ c',(Instr.index t c d).run P w=.ok c' w∧VRel m v c':=by
  unfold idxV at h
  split at h
  . rename_i k i
    split at h
    . rename_i hb
      have:=qDq hi; subst this;obtain ⟨ys,c',rfl,h1,h2⟩:=s_part (w:=w) hx h hn;exact ⟨c',by simp [Instr.index,asIntOf,qCj ht,hb,qCl he,h1],h2⟩
    . cases h
  . cases h

theorem qEd (hF:FRel m fr a):∀ {xs:List Operand},okL xs=true→VRels m (xs.map (ev fr)) (xs.map a.eval)
  | [],_=>.nil
  | x :: xs,h=>by
    simp only [okL,List.all_cons,Bool.and_eq_true] at h;exact .cons (hF.ev h.1) (qEd hF h.2)

theorem s_min:∀ {ys:List Value} {x v c:Value} {ds:List Value},VRel m x c→VRels m ys ds→mmV false x ys=some v→∃ c',(ds.foldlM Builtin.min2 c).run P w=.ok c' w∧VRel m v c':=by
  intro ys
  induction ys with
  | nil=>intro x v c ds hx hy h; cases hy; simp [mmV] at h; subst h; exact ⟨c,by simp,hx⟩
  | cons y ys ih =>
    intro x v c ds hx hy h;cases hy with
    | cons h1 h2 =>
      cases x<;>cases y<;>simp [mmV] at h;rename_i k n k' n';have:=qDq hx; subst this;have:=qDq h1; subst this;obtain ⟨c',k1,k2⟩:=ih (.int k _) h2 h;refine ⟨c',?_,k2⟩;simp only [List.foldlM_cons,Sem.run_bind,Builtin.min2,Sem.run_pure,Result.andThen_ok];exact k1
theorem s_max:∀ {ys:List Value} {x v c:Value} {ds:List Value},VRel m x c→VRels m ys ds→mmV true x ys=some v→∃ c',(ds.foldlM Builtin.max2 c).run P w=.ok c' w∧VRel m v c':=by
  intro ys
  induction ys with
  | nil=>intro x v c ds hx hy h; cases hy; simp [mmV] at h; subst h; exact ⟨c,by simp,hx⟩
  | cons y ys ih =>
    intro x v c ds hx hy h;cases hy with
    | cons h1 h2 =>
      cases x<;>cases y<;>simp [mmV] at h;rename_i k n k' n';have:=qDq hx; subst this;have:=qDq h1; subst this;obtain ⟨c',k1,k2⟩:=ih (.int k _) h2 h;refine ⟨c',?_,k2⟩;simp only [List.foldlM_cons,Sem.run_bind,Builtin.max2,Sem.run_pure,Result.andThen_ok];exact k1
end
end Am
/- The abstract machine, fourth part: every quiet operation's translation is right.
   No condition: plain lemmas. -/
namespace Am
set_option linter.unusedSimpArgs false
set_option linter.unusedVariables false
open Go
section
variable {P : Program} {m : Mu} {H : Heap} {w : World} {fr : Fr} {a : Act}

theorem run_places:∀ {fs:List Field} {pl:List (Nat×Nat)},qEz P fs=some pl→∀ (w:World),(fs.mapM fun f=>(do pure (f.offset,← Go.sizeOf f.type):Sem (Nat×Nat))).run P w=.ok pl w
  | [],pl,h,w=>by simp [qEz] at h; subst h; simp
  | f :: fs,pl,h,w=>by
    simp only [qEz] at h
    split at h
    . rename_i n ps h1 h2
      cases h;have ih:=run_places h2 w;simp only [List.mapM_cons,Sem.run_bind,qCl h1,Result.andThen_ok,Sem.run_pure,ih]
    . cases h

theorem partsOf_some {place:Nat→Option (Nat×Nat)}:∀ {ps:List (Nat×Operand)} {qs:List (Nat×Nat×Operand)},qEi place ps=some qs→ps.length=qs.length ∧
    ∀ (j i:Nat) (x:Operand) (off n:Nat) (y:Operand),ps[j]?=some (i,x)→qs[j]?=some (off,n,y)→place i=some (off,n)∧y=x∧okO x=true
  | [],qs,h=>by simp [qEi] at h; subst h; exact ⟨rfl,fun j i x off n y h=>by simp at h⟩
  | (i,x) :: ps,qs,h=>by
    simp only [qEi] at h
    split at h
    . rename_i off n qs' h1 h2
      split at h
      . rename_i hx
        cases h;obtain ⟨k1,k2⟩:=partsOf_some h2;refine ⟨by simp [k1],fun j i' x' off' n' y' q1 q2=>?_⟩
        cases j with
        | zero=>simp at q1 q2; obtain ⟨rfl,rfl⟩:=q1; obtain ⟨rfl,rfl,rfl⟩:=q2; exact ⟨h1,rfl,hx⟩
        | succ j=>exact k2 j i' x' off' n' y' (by simpa using q1) (by simpa using q2)
      . cases h
    . cases h

theorem qLg (hF:FRel m fr a) {place:Nat→Option (Nat×Nat)} {ps:List (Nat×Operand)} {qs:List (Nat×Nat×Operand)} (hq:qEi place ps=some qs) {cells:Array Value} {l r:List Value}
    (hl:VRels m l cells.toList) (h:qEa l (qs.map fun p=>(p.1,p.2.1,ev fr p.2.2))=some r) :
    ∃ out,Instr.fill place cells (ps.map fun p=>(p.1,a.eval p.2))=some out∧VRels m r out.toList:=by
  obtain ⟨h1,h2⟩:=partsOf_some hq;refine fill_run place _ _ cells l r hl (by simpa using h1) (fun j i c off n v q1 q2=>?_) h
  rw [List.getElem?_map] at q1 q2;cases hp:ps[j]? with
  | none=>simp [hp] at q1
  | some p =>
    cases hq':qs[j]? with
    | none=>simp [hq'] at q2
    | some q =>
      obtain ⟨pi,px⟩:=p;obtain ⟨qo,qn,qx⟩:=q;simp [hp] at q1; simp [hq'] at q2;obtain ⟨rfl,rfl⟩:=q1; obtain ⟨rfl,rfl,rfl⟩:=q2;obtain ⟨z1,z2,z3⟩:=h2 j _ _ _ _ _ hp hq';subst z2;exact ⟨z1,hF.ev z3⟩

theorem s_build_struct (hF:FRel m fr a) {t:TypeId} {z:List Value} {fs:Array Field} {pl:List (Nat×Nat)} {parts:Array (Nat×Operand)} {qs:List (Nat×Nat×Operand)} (hz:qFd P t=some z) (ht:P.underlying t=some (.struct fs))
    (hp:qEz P fs.toList=some pl) (hq:qEi (pl[·]?) parts.toList=some qs) {r:List Value} (h:qEa z (qs.map fun p=>(p.1,p.2.1,ev fr p.2.2))=some r) :
    ∃ c,(Instr.build t (parts.map fun p=>(p.1,a.eval p.2))).run P w=.ok c w∧VRel m (.agg r.toArray) c:=by
  obtain ⟨i,zv,h1,h2,h3,h4,h5,h6⟩:=qEh hz;obtain ⟨out,ho,hr⟩:=qLg hF hq (cells:=zv.cells) (by rw [h3]; exact qDv m h5) h
  refine ⟨.agg out,?_,.agg' (by simpa using hr)⟩
  have hm:(fs.mapM fun f=>(do pure (f.offset,← Go.sizeOf f.type):Sem (Nat×Nat))).run P w=.ok pl.toArray w:=by
    rw [Array.mapM_eq_mapM_toList]; simp only [Sem.run_map,run_places hp w,Result.andThen_ok]
  have e:(fun x:Nat=>pl.toArray[x]?)=fun x=>pl[x]?:=by funext x; simp
  simp only [Instr.build,Sem.run_bind,qIq h1 h2,Result.andThen_ok,qCj ht];rw [hm];simp only [Result.andThen_ok,e,Array.toList_map,ho]
  rfl
theorem s_build_array (hF:FRel m fr a) {t:TypeId} {z:List Value} {len:Nat} {e:TypeId} {n:Nat} {parts:Array (Nat×Operand)} {qs:List (Nat×Nat×Operand)} (hz:qFd P t=some z) (ht:P.underlying t=some (.array len e))
    (hn:szOf P e=some n) (hq:qEi (fun i=>some (i * n,n)) parts.toList=some qs) {r:List Value} (h:qEa z (qs.map fun p=>(p.1,p.2.1,ev fr p.2.2))=some r) :
    ∃ c,(Instr.build t (parts.map fun p=>(p.1,a.eval p.2))).run P w=.ok c w∧VRel m (.agg r.toArray) c:=by
  obtain ⟨i,zv,h1,h2,h3,h4,h5,h6⟩:=qEh hz;obtain ⟨out,ho,hr⟩:=qLg hF hq (cells:=zv.cells) (by rw [h3]; exact qDv m h5) h
  refine ⟨.agg out,?_,.agg' (by simpa using hr)⟩
  simp only [Instr.build,Sem.run_bind,qIq h1 h2,Result.andThen_ok,qCj ht,qCl hn,Array.toList_map,ho]
  rfl

theorem rel_tuple {xs:Array Value} {c:Value} (h:VRel m (.tuple xs) c):∃ ys,c=.tuple ys∧xs.size=ys.size∧∀ (i:Nat) (x y:Value),xs[i]?=some x→ys[i]?=some y→VRel m x y:=by
  cases h with
  | tup hs h=>exact ⟨_,rfl,hs,h⟩

theorem eqB_run {t:TypeId} (ht:P.underlying t=some .bool) (x y:Bool) (w:World):(binOp .eql t (.bool x) (.bool y)).run P w=.ok (.bool (x == y)) w:=by
  have h:=run_equalIn_bool' (P:=P) w 9999 t x y ht;show ((do pure (.bool (← Op.equal t (.bool x) (.bool y))):Sem Value)).run P w=_;have e:Op.equal t (.bool x) (.bool y)=Op.equalIn (9999+1) t (.bool x) (.bool y):=rfl;rw [e]; simp only [Sem.run_bind,h,Result.andThen_ok,Sem.run_pure]
theorem neB_run {t:TypeId} (ht:P.underlying t=some .bool) (x y:Bool) (w:World):(binOp .neq t (.bool x) (.bool y)).run P w=.ok (.bool (x != y)) w:=by
  have h:=run_equalIn_bool' (P:=P) w 9999 t x y ht;show ((do pure (.bool (!(← Op.equal t (.bool x) (.bool y)))):Sem Value)).run P w=_;have e:Op.equal t (.bool x) (.bool y)=Op.equalIn (9999+1) t (.bool x) (.bool y):=rfl;rw [e]; simp only [Sem.run_bind,h,Result.andThen_ok,Sem.run_pure]; rfl

theorem eqS_run {t:TypeId} (x y:ByteArray) (w:World):(binOp .eql t (.string x) (.string y)).run P w=.ok (.bool (x == y)) w:=by
  rw [binOp_string_eql,beq_toListBytes]; rfl
theorem neS_run {t:TypeId} (x y:ByteArray) (w:World):(binOp .neq t (.string x) (.string y)).run P w=.ok (.bool (!(x == y))) w:=by
  rw [beq_toListBytes]; simp [binOp,Op.stringOp]
theorem eqC_rel {m:Mu} {k:Nat} {x y x' y':Value} {b:Bool} (h:eqC k x y=some b) (hx:VRel m x x') (hy:VRel m y y'):x'=x∧y'=y:=by
  unfold eqC at h
  split at h
  . exact ⟨qFn hx,qFn hy⟩
  . exact ⟨qDq hx,qDq hy⟩
  . exact ⟨qEk hx,qEk hy⟩
  . cases h
theorem qPg {m:Mu}:∀ {ks:List Nat} {xs ys xs' ys':List Value} {b:Bool},eqCs ks xs ys=some b→VRels m xs xs'→VRels m ys ys'→eqCs ks xs' ys'=some b
  | [],[],[],_,_,_,h,hx,hy=>by cases hx; cases hy; exact h
  | [],[],_ :: _,_,_,_,h,_,_=>by cases h
  | [],_ :: _,_,_,_,_,h,_,_=>by cases h
  | _ :: _,[],_,_,_,_,h,_,_=>by cases h
  | _ :: _,_ :: _,[],_,_,_,h,_,_=>by cases h
  | k :: ks,x :: xs,y :: ys,_,_,b,h,hx,hy=>by
    cases hx with
    | cons hx hxs =>
      cases hy with
      | cons hy hys =>
        simp only [eqCs] at h ⊢;cases e:eqC k x y with
        | none=>rw [e] at h; cases h
        | some t =>
          obtain ⟨rfl,rfl⟩:=eqC_rel e hx hy;rw [e] at h ⊢;cases t with
          | true=>exact qPg h hxs hys
          | false=>exact h
theorem eqC_int {x y:Value} {b:Bool} (h:eqC 0 x y=some b):∃ k n n',x=.int k n∧y=.int k n'∧b=(n == n'):=by
  cases x<;>cases y<;>simp [eqC] at h;rename_i k n k' n';obtain ⟨rfl,rfl⟩:=h;exact ⟨_,_,_,rfl,rfl,rfl⟩
theorem eqC_bool {x y:Value} {b:Bool} (h:eqC 1 x y=some b):∃ n n',x=.bool n∧y=.bool n'∧b=(n == n'):=by
  cases x<;>cases y<;>simp [eqC] at h;exact ⟨_,_,rfl,rfl,h.symm⟩
theorem eqC_string {x y:Value} {b:Bool} (h:eqC 2 x y=some b):∃ n n',x=.string n∧y=.string n'∧b=(n == n'):=by
  cases x<;>cases y<;>simp [eqC] at h;exact ⟨_,_,rfl,rfl,h.symm⟩
theorem eqIn_scalar {t:TypeId} {k:Nat} (ht:qKs P t=some k) {x y:Value} {b:Bool} (h:eqC k x y=some b) (d:Nat) (w:World):(Op.equalIn (d+1) t x y).run P w=.ok b w:=by
  unfold qKs at ht
  split at ht
  . rename_i k' hu
    cases ht;obtain ⟨k,n,n',rfl,rfl,rfl⟩:=eqC_int h;simp [Op.equalIn,qCj hu]
  . rename_i hu
    cases ht;obtain ⟨n,n',rfl,rfl,rfl⟩:=eqC_bool h;simp [Op.equalIn,qCj hu]
  . rename_i hu
    cases ht;obtain ⟨n,n',rfl,rfl,rfl⟩:=eqC_string h;simp [Op.equalIn,qCj hu]
  . cases ht
theorem qHj {t:TypeId} {k:Nat} (ht:qKs P t=some k) {cs:Array Value} {off:Nat} {v:Value} (h:cs[off]?=some v) (w:World):(part t cs off).run P w=.ok v w:=by
  have ha:(isAgg t).run P w=.ok false w:=by
    unfold qKs at ht
    split at ht<;>first | (rename_i hu; simp [isAgg,qCj hu]) | cases ht
  simp only [part,Sem.run_bind,ha,Result.andThen_ok,Bool.false_eq_true,if_false,h,Sem.run_pure]
theorem qPd (d:Nat) (w:World) (xs ys:Array Value):∀ (fs:List Field) (off:Nat) (ks:List Nat) (b:Bool),qSl P off fs=some ks→eqCs ks (xs.toList.drop off) (ys.toList.drop off)=some b→(Op.eqFields (d+1) xs ys fs).run P w=.ok b w
  | [],off,ks,b,hf,h=>by
    cases hf;cases hx:xs.toList.drop off<;>cases hy:ys.toList.drop off<;>rw [hx,hy] at h<;>simp [eqCs] at h;subst h; simp [Op.eqFields]
  | f :: fs,off,ks,b,hf,h=>by
    simp only [qSl] at hf
    split at hf
    . rename_i hc
      simp only [Bool.and_eq_true,bne_iff_ne,ne_eq,beq_iff_eq] at hc
      split at hf
      . rename_i k ks' hk hks
        cases hf;cases hx:xs.toList.drop off with
        | nil=>rw [hx] at h; cases hy:ys.toList.drop off<;>rw [hy] at h<;>simp [eqCs] at h
        | cons x xr =>
          cases hy:ys.toList.drop off with
          | nil=>rw [hx,hy] at h; simp [eqCs] at h
          | cons y yr =>
            rw [hx,hy] at h;simp only [eqCs] at h;have gx:xs[off]?=some x:=by rw [← Array.getElem?_toList,← Nat.add_zero off,← List.getElem?_drop,hx]; rfl
            have gy:ys[off]?=some y:=by rw [← Array.getElem?_toList,← Nat.add_zero off,← List.getElem?_drop,hy]; rfl
            have dx:xs.toList.drop (off+1)=xr:=by rw [← List.drop_drop,hx]; rfl
            have dy:ys.toList.drop (off+1)=yr:=by rw [← List.drop_drop,hy]; rfl
            cases e:eqC k x y with
            | none=>rw [e] at h; cases h
            | some t =>
              rw [e] at h
              have hnm : f.name ≠ "_" := hc.1
              simp only [Op.eqFields,if_pos hnm,Sem.run_bind,hc.2,qHj hk gx,qHj hk gy,Result.andThen_ok,eqIn_scalar hk e d w];cases t with
              | true=>simp only [Bool.not_true,Bool.false_eq_true,if_false]; exact qPd d w xs ys fs (off+1) ks' b hks (by rw [dx,dy]; exact h)
              | false=>cases h; simp
      . cases hf
    . cases hf
theorem eqA_run {t:TypeId} {fs:Array Field} {ks:List Nat} (ht:P.underlying t=some (.struct fs)) (hs:P.stoodInHeld t=false) (hf:qSl P 0 fs.toList=some ks) {xs ys:Array Value} {b:Bool} (h:eqCs ks xs.toList ys.toList=some b) (w:World) :
    (Op.equalIn 10000 t (.agg xs) (.agg ys)).run P w=.ok b w:=by
  have hfs:P.fieldsOf t=fs:=by simp [Program.fieldsOf,ht]
  rw [show (10000:Nat)=9998+1+1 from rfl,run_equalIn_struct w (9998+1) t xs ys (by rw [hfs]; exact ht) hs,hfs]
  exact qPd 9998 w xs ys fs.toList 0 ks b hf (by simpa using h)
theorem eqCs_app:∀ {ks ks':List Nat} {xs ys:List Value} {b:Bool},eqCs (ks++ks') xs ys=some b →
    ∃ b1,eqCs ks (xs.take ks.length) (ys.take ks.length)=some b1∧(b1=false→b=false)∧(b1=true→eqCs ks' (xs.drop ks.length) (ys.drop ks.length)=some b)
  | [],ks',xs,ys,b,h=>⟨true,by simp [eqCs],fun e=>by (cases e),fun _=>by simpa using h⟩
  | k :: ks,ks',[],ys,b,h=>by cases ys<;>simp [eqCs] at h
  | k :: ks,ks',x :: xs,[],b,h=>by simp [eqCs] at h
  | k :: ks,ks',x :: xs,y :: ys,b,h=>by
    simp only [List.cons_append,eqCs] at h;simp only [List.length_cons,List.take_succ_cons,List.drop_succ_cons,eqCs];cases e:eqC k x y with
    | none=>rw [e] at h; cases h
    | some t =>
      rw [e] at h;cases t with
      | true=>exact eqCs_app h
      | false=>cases h; exact ⟨false,rfl,fun _=>rfl,fun e=>by (cases e)⟩
theorem eqE_run {e:TypeId} {ks:List Nat} (he:qTc P e=some ks) {xs ys:Array Value} {off:Nat} {b:Bool} (h:eqCs ks ((xs.toList.drop off).take ks.length) ((ys.toList.drop off).take ks.length)=some b) (d:Nat) (w:World) :
    ∃ x y,(part e xs off).run P w=.ok x w∧(part e ys off).run P w=.ok y w∧(Op.equalIn (d+1+1) e x y).run P w=.ok b w:=by
  unfold qTc at he
  split at he
  . rename_i k hk
    cases he;cases hx:xs[off]? with
    | none =>
      have:xs.toList.drop off=[]:=List.drop_eq_nil_of_le (by simpa using Array.getElem?_eq_none_iff.1 hx)
      rw [this] at h;cases hy:(ys.toList.drop off).take 1<;>simp [hy,eqCs] at h
    | some x =>
      have gx:(xs.toList.drop off).take 1=[x]:=by
        have h1:=(Array.getElem?_eq_some_iff.1 hx);obtain ⟨h1,h2⟩:=h1;rw [List.drop_eq_getElem_cons (by simpa using h1)]
        simp [h2]
      cases hy:ys[off]? with
      | none =>
        have:ys.toList.drop off=[]:=List.drop_eq_nil_of_le (by simpa using Array.getElem?_eq_none_iff.1 hy)
        rw [this] at h;simp [gx,eqCs] at h
      | some y =>
        have gy:(ys.toList.drop off).take 1=[y]:=by
          have h1:=(Array.getElem?_eq_some_iff.1 hy);obtain ⟨h1,h2⟩:=h1;rw [List.drop_eq_getElem_cons (by simpa using h1)]
          simp [h2]
        simp only [List.length_cons,List.length_nil,Nat.zero_add,gx,gy,eqCs] at h;refine ⟨x,y,qHj hk hx w,qHj hk hy w,eqIn_scalar hk ?_ _ w⟩;cases e1:eqC k x y with
        | none=>rw [e1] at h; cases h
        | some t=>rw [e1] at h; cases t<;>exact h
  . split at he
    . rename_i fs hu
      split at he
      . rename_i ks' hks
        split at he
        . rename_i hc
          cases he;have ha:(isAgg e).run P w=.ok true w:=by simp [isAgg,qCj hu]
          have hp:∀ zs:Array Value,(part e zs off).run P w=.ok (.agg (zs.extract off (off+ks.length))) w:=by
            intro zs;simp only [part,Sem.run_bind,ha,Result.andThen_ok,if_true,qCl hc.2,Sem.run_pure]
          have hfs:P.fieldsOf e=fs:=by simp [Program.fieldsOf,hu]
          refine ⟨_,_,hp xs,hp ys,?_⟩;rw [run_equalIn_struct w (d+1) e _ _ (by rw [hfs]; exact hu) hc.1,hfs]
          refine qPd d w _ _ fs.toList 0 ks b hks ?_
          simpa using h
        . cases he
      . cases he
    . cases he
theorem items_run {e:TypeId} {ks:List Nat} (he:qTc P e=some ks) (xs ys:Array Value) (d:Nat) (w:World):∀ (n j:Nat) (b:Bool),eqCs (repK n ks) (xs.toList.drop (j * ks.length)) (ys.toList.drop (j * ks.length))=some b →
    (Op.eqItems (d+1+1) e ks.length xs ys (List.range' j n)).run P w=.ok b w
  | 0,j,b,h=>by
    simp only [List.range'_zero,Op.eqItems,Sem.run_pure];simp only [repK,List.replicate_zero,List.flatten_nil] at h;cases hx:xs.toList.drop (j * ks.length)<;>cases hy:ys.toList.drop (j * ks.length)<;>rw [hx,hy] at h<;>simp [eqCs] at h;rw [h]
  | n+1,j,b,h=>by
    have hr:repK (n+1) ks=ks++repK n ks:=by simp [repK,List.replicate_succ]
    rw [hr] at h;obtain ⟨b1,h1,h2,h3⟩:=eqCs_app h;obtain ⟨x,y,p1,p2,p3⟩:=eqE_run he h1 d w;simp only [List.range'_succ,Op.eqItems,Sem.run_bind,p1,p2,p3,Result.andThen_ok];cases b1 with
    | false=>rw [h2 rfl]; simp
    | true =>
      simp only [Bool.not_true,Bool.false_eq_true,if_false];refine items_run he xs ys d w n (j+1) b ?_;have:=h3 rfl;rw [List.drop_drop,List.drop_drop] at this;rw [Nat.succ_mul]; exact this
theorem eqArr_run {t e:TypeId} {n:Nat} {ks:List Nat} (ht:P.underlying t=some (.array n e)) (he:qTc P e=some ks) (hs:szOf P e=some ks.length) {xs ys:Array Value} {b:Bool} (h:eqCs (repK n ks) xs.toList ys.toList=some b) (w:World) :
    (Op.equalIn 10000 t (.agg xs) (.agg ys)).run P w=.ok b w:=by
  unfold szOf at hs;cases hi:P.info? e with
  | none=>rw [hi] at hs; cases hs
  | some i =>
    have hc:P.cellsOf e=ks.length:=by rw [hi] at hs; simpa [Program.cellsOf,hi] using hs
    rw [show (10000:Nat)=9997+1+1+1 from rfl,run_equalIn_array w (9997+1+1) xs ys ht hi,hc,List.range_eq_range'];exact items_run he xs ys 9997 w n 0 b (by simpa using h)
set_option maxHeartbeats 1000000 in
theorem qMq (hA:ARel m H w) (hF:FRel m fr a) {o:Oper} {q:QOp} (hc:cQ P o.op=some q) {v:Value} (h:qop q fr H=some v):∃ c,(execOp a.eval o).run P w=.ok (.value c) w∧VRel m v c:=by
  obtain ⟨dst,op,ty,pos,after,guard⟩:=o;simp only at hc;have fin:∀ {s:Sem Value} {c:Value},s.run P w=.ok c w→((do pure (.value (← s)):Sem Next)).run P w=.ok (.value c) w:=by
    intro s c hs; simp only [Sem.run_bind,hs,Result.andThen_ok,Sem.run_pure]
  cases op
  case move x =>
    simp only [cQ] at hc; split at hc
    . rename_i hx; cases hc; cases h; exact ⟨a.eval x,rfl,hF.ev hx⟩
    . cases hc
  case assign x =>
    simp only [cQ] at hc; split at hc
    . rename_i hx; cases hc; cases h; exact ⟨a.eval x,rfl,hF.ev hx⟩
    . cases hc
  case pick c x y =>
    simp only [cQ] at hc; split at hc
    . rename_i hx; cases hc
      simp only [Bool.and_eq_true] at hx;simp only [qop,qOp] at h
      split at h
      . rename_i t ht
        cases h;have hb:=hF.ev hx.1.1;rw [ht] at hb;refine ⟨if t then a.eval x else a.eval y,?_,?_⟩
        . simp [execOp,asBool,qFn hb]
        . cases t
          . exact hF.ev hx.2
          . exact hF.ev hx.1.2
      . cases h
    . cases hc
  case build t parts =>
    simp only [cQ] at hc
    split at hc
    . rename_i z fs hz ht
      split at hc
      . rename_i pl hp
        cases hq:qEi (pl[·]?) parts.toList with
        | none=>simp [hq] at hc
        | some qs =>
          simp [hq] at hc; subst hc;simp only [qop,Option.map_eq_some_iff] at h;obtain ⟨r,hr,rfl⟩:=h;obtain ⟨c,k1,k2⟩:=s_build_struct (w:=w) hF hz ht hp hq hr;exact ⟨c,fin k1,k2⟩
      . cases hc
    . rename_i z len e hz ht
      split at hc
      . rename_i n hn
        cases hq:qEi (fun i=>some (i * n,n)) parts.toList with
        | none=>simp [hq] at hc
        | some qs =>
          simp [hq] at hc; subst hc;simp only [qop,Option.map_eq_some_iff] at h;obtain ⟨r,hr,rfl⟩:=h;obtain ⟨c,k1,k2⟩:=s_build_array (w:=w) hF hz ht hn hq hr;exact ⟨c,fin k1,k2⟩
      . cases hc
    . cases hc
  case load t x =>
    simp only [cQ] at hc; split at hc
    . rename_i hx
      split at hc
      . rename_i ht; cases hc; obtain ⟨c,k1,k2⟩:=s_load hA (hF.ev hx) h ht; exact ⟨c,fin k1,k2⟩
      . rename_i n ht; cases hc; obtain ⟨c,k1,k2⟩:=s_loadA hA (hF.ev hx) h ht; exact ⟨c,fin k1,k2⟩
      . cases hc
    . cases hc
  case binOp op t x y yt =>
    simp only [cQ] at hc; split at hc
    . rename_i hx
      simp only [Bool.and_eq_true] at hx
      split at hc
      . rename_i k ht
        cases hc;simp only [qop] at h;have hx1:=hF.ev hx.1;have hx2:=hF.ev hx.2;have hv:=h;unfold binV at hv
        split at hv
        . rename_i k1 n1 k2 n2 e1 e2
          rw [e1] at hx1; rw [e2] at hx2;have g1:=qDq hx1;have g2:=qDq hx2;rw [e1,e2] at h;have hr:=binV_run (P:=P) h w t;have hv':VRel m v v:=by
            split at hv
            . unfold shI at hv
              split at hv
              . cases hv
              . cases op<;>simp at hv<;>subst hv<;>exact .int _ _
            . split at hv
              . cases op<;>simp [binI] at hv<;>first | (subst hv; exact .int _ _) | (subst hv; exact .bool _) | (obtain ⟨_,rfl⟩:=hv; exact .int _ _)
              . cases hv
          refine ⟨v,?_,hv'⟩;simp only [execOp,Sem.run_bind,g1,g2];rw [qFa _ _ _ _ _ _ (fun cs e=>by cases e) (fun e=>by cases e)]
          simp only [Result.andThen_ok,hr,Sem.run_pure]
        . cases hv
      . rename_i ht
        have key:∀ (neg:Bool),op=(if neg then .neq else .eql)→q=.eqB neg x y→∃ c,(execOp a.eval ⟨dst,.binOp op t x y yt,ty,pos,after,guard⟩).run P w=.ok (.value c) w∧VRel m v c:=by
          intro neg hop hq;subst hq;simp only [qop,eqBV] at h;have hx1:=hF.ev hx.1;have hx2:=hF.ev hx.2
          split at h
          . rename_i b1 b2 e1 e2
            rw [e1] at hx1; rw [e2] at hx2;cases h;refine ⟨_,?_,.bool _⟩;simp only [execOp,Sem.run_bind,qFn hx1,qFn hx2];rw [qFa _ _ _ _ _ _ (fun cs e=>by cases e) (fun e=>by cases e)]
            cases neg<;>simp at hop<;>subst hop
            . simp only [Result.andThen_ok,eqB_run ht]; rfl
            . simp only [Result.andThen_ok,neB_run ht]; rfl
          . cases h
        split at hc
        . cases hc; exact key false rfl rfl
        . cases hc; exact key true rfl rfl
        . cases hc
      . rename_i ht
        have hx1:=hF.ev hx.1;have hx2:=hF.ev hx.2
        split at hc
        . cases hc
          simp only [qop,eqSV] at h
          split at h
          . rename_i b1 b2 e1 e2
            rw [e1] at hx1; rw [e2] at hx2;cases h;refine ⟨_,?_,.bool _⟩;simp only [execOp,Sem.run_bind,qEk hx1,qEk hx2];rw [qFa _ _ _ _ _ _ (fun cs e=>by cases e) (fun e=>by cases e)]
            simp only [Result.andThen_ok,eqS_run]; rfl
          . cases h
        . cases hc
          simp only [qop,eqSV] at h
          split at h
          . rename_i b1 b2 e1 e2
            rw [e1] at hx1; rw [e2] at hx2;cases h;refine ⟨_,?_,.bool _⟩;simp only [execOp,Sem.run_bind,qEk hx1,qEk hx2];rw [qFa _ _ _ _ _ _ (fun cs e=>by cases e) (fun e=>by cases e)]
            simp only [Result.andThen_ok,neS_run]; rfl
          . cases h
        . cases hc
      . rename_i fs ht
        have hx1:=hF.ev hx.1;have hx2:=hF.ev hx.2
        split at hc
        . rename_i ks hks
          split at hc
          . rename_i hg
            simp only [Bool.and_eq_true,Bool.not_eq_true'] at hg;have key:∀ (ng:Bool),op=(if ng then .neq else .eql)→q=.eqA ks ng x y→∃ c,(execOp a.eval ⟨dst,.binOp op t x y yt,ty,pos,after,guard⟩).run P w=.ok (.value c) w∧VRel m v c:=by
              intro ng hop hq;subst hq;simp only [qop,eqAV] at h
              split at h
              . rename_i xs ys e1 e2
                rw [e1] at hx1; rw [e2] at hx2;simp only [Option.map_eq_some_iff] at h;obtain ⟨b,hb,rfl⟩:=h;obtain ⟨xs',c1,r1⟩:=VRel.agg_list hx1;obtain ⟨ys',c2,r2⟩:=VRel.agg_list hx2;have hr:=eqA_run ht hg.1 hks (qPg hb r1 r2) w;refine ⟨_,?_,.bool _⟩;simp only [execOp,Sem.run_bind,c1,c2];rw [run_eqGuard_agg _ _ _ _ _ _ _ hg.2];cases ng<;>simp at hop<;>subst hop
                . simp only [Result.andThen_ok,run_eql_struct,hr]; rfl
                . simp only [Result.andThen_ok,run_neq_struct,hr]; rfl
              . cases h
            split at hc
            . cases hc; exact key false rfl rfl
            . cases hc; exact key true rfl rfl
            . cases hc
          . cases hc
        . cases hc
      . rename_i n e ht
        have hx1:=hF.ev hx.1;have hx2:=hF.ev hx.2
        split at hc
        . rename_i ks hks
          split at hc
          . rename_i hg
            have key:∀ (ng:Bool),op=(if ng then .neq else .eql)→q=.eqA (repK n ks) ng x y→∃ c,(execOp a.eval ⟨dst,.binOp op t x y yt,ty,pos,after,guard⟩).run P w=.ok (.value c) w∧VRel m v c:=by
              intro ng hop hq;subst hq;simp only [qop,eqAV] at h
              split at h
              . rename_i xs ys e1 e2
                rw [e1] at hx1; rw [e2] at hx2;simp only [Option.map_eq_some_iff] at h;obtain ⟨b,hb,rfl⟩:=h;obtain ⟨xs',c1,r1⟩:=VRel.agg_list hx1;obtain ⟨ys',c2,r2⟩:=VRel.agg_list hx2;have hr:=eqArr_run ht hks hg.1 (qPg hb r1 r2) w;refine ⟨_,?_,.bool _⟩;simp only [execOp,Sem.run_bind,c1,c2];rw [run_eqGuard_agg _ _ _ _ _ _ _ hg.2];cases ng<;>simp at hop<;>subst hop
                . simp only [Result.andThen_ok,run_eql_struct,hr]; rfl
                . simp only [Result.andThen_ok,run_neq_struct,hr]; rfl
              . cases h
            split at hc
            . cases hc; exact key false rfl rfl
            . cases hc; exact key true rfl rfl
            . cases hc
          . cases hc
        . cases hc
      . cases hc
    . cases hc
  case unOp op t x =>
    simp only [cQ] at hc; split at hc
    . rename_i hx
      have hx1:=hF.ev hx;cases op<;>simp at hc
      . subst hc
        simp only [qop,negV] at h
        split at h
        . rename_i k n e; rw [e] at hx1; cases h
          exact ⟨_,by simp [execOp,qDq hx1,Op.unary,Op.intArith],.int _ _⟩
        . cases h
      . subst hc
        simp only [qop,notV] at h
        split at h
        . rename_i b e; rw [e] at hx1; cases h
          exact ⟨_,by simp [execOp,qFn hx1,Op.unary],.bool _⟩
        . cases h
    . cases hc
  case convert s d x =>
    simp only [cQ] at hc; split at hc
    . rename_i hx
      split at hc
      . rename_i k k' hs hd
        cases hc;have hx1:=hF.ev hx;simp only [qop,qPl] at h
        split at h
        . rename_i k2 n e; rw [e] at hx1; cases h
          exact ⟨_,by simp [execOp,qDq hx1,convert,qCj hs,qCj hd,Conv.intToInt],.int _ _⟩
        . cases h
      . cases hc
    . cases hc
  case makeFunc fn first cap =>
    simp only [cQ] at hc; split at hc
    . rename_i hx
      cases hc;simp only [qop] at h;cases h;refine ⟨_,rfl,?_⟩;have h0:first=#[]:=by simpa using hx.1
      subst h0;have:=qEd hF hx.2;refine .func (by simp) (fun i x y h=>by simp at h) (by simp) fun i x y h1 h2=>?_
      obtain ⟨c,k1,k2⟩:=this.get i x (by simpa using h1)
      have:c=y:=by
        have k1':cap[i]?.map a.eval=some c:=by simpa using k1
        have h2':cap[i]?.map a.eval=some y:=by simpa using h2
        rw [k1'] at h2'; exact Option.some.inj h2'
      exact this ▸ k2
    . split at hc
      . rename_i hx
        cases hc;simp only [qop] at h;cases h;refine ⟨_,rfl,?_⟩;have h0:cap=#[]:=by simpa using hx.1
        subst h0;have:=qEd hF hx.2;refine .func (by simp) (fun i x y h1 h2=>?_) (by simp) fun i x y h=>by simp at h
        obtain ⟨c,k1,k2⟩:=this.get i x (by simpa using h1)
        have:c=y:=by
          have k1':first[i]?.map a.eval=some c:=by simpa using k1
          have h2':first[i]?.map a.eval=some y:=by simpa using h2
          rw [k1'] at h2'; exact Option.some.inj h2'
        exact this ▸ k2
      . cases hc
  case slice t x lo hi mx =>
    cases mx with
    | some mx =>
      simp only [cQ,c3] at hc; split at hc
      . rename_i k1 h1 k2 n1
        split at hc
        . rename_i hx
          obtain ⟨hx,rfl,rfl⟩:=hx
          split at hc
          . rename_i e ht
            cases hn:szOf P e with
            | none=>simp [hn] at hc
            | some n =>
              simp [hn] at hc; subst hc;obtain ⟨c,k1,k2⟩:=s_none3 (w:=w) (k1:=k1) (k2:=k2) (hF.ev hx) h ht hn;exact ⟨c,fin k1,k2⟩
          . cases hc
        . cases hc
      . cases hc
    | none =>
      simp only [cQ] at hc; split at hc
      . rename_i hx
        simp only [Bool.and_eq_true] at hx
        split at hc
        . rename_i e ht
          cases hn:szOf P e with
          | none=>simp [hn] at hc
          | some n =>
            simp [hn] at hc; subst hc;obtain ⟨c,k1,k2⟩:=s_cut hA hF (hF.ev hx.1.1) hx.1.2 hx.2 h ht hn;exact ⟨c,fin k1,k2⟩
        . cases hc
      . cases hc
  case fieldAddr s x f =>
    simp only [cQ] at hc; split at hc
    . rename_i hx
      split at hc
      . rename_i fs hs
        split at hc
        . rename_i fd hf
          split at hc
          . rename_i n hn
            split at hc
            . cases hc
            . rename_i hn0; cases hc
              obtain ⟨c,k1,k2⟩:=s_field (w:=w) (hF.ev hx) hs hf hn hn0 h;exact ⟨c,fin k1,k2⟩
          . cases hc
        . cases hc
      . cases hc
    . cases hc
  case field s x f =>
    simp only [cQ] at hc; split at hc
    . rename_i hx
      split at hc
      . rename_i fs hs
        split at hc
        . rename_i fd hf
          cases hn:aggN P fd.type with
          | none=>simp [hn] at hc
          | some n =>
            simp [hn] at hc; subst hc;obtain ⟨ys,c',k0,k1,k2⟩:=s_part (w:=w) (hF.ev hx) h hn;exact ⟨c',fin (by simp [Instr.field,qCj hs,hf,k0,asAgg,k1]),k2⟩
        . cases hc
      . cases hc
    . cases hc
  case indexAddr t x i =>
    simp only [cQ] at hc; split at hc
    . rename_i hx
      simp only [Bool.and_eq_true] at hx
      split at hc
      . rename_i e ht
        cases hn:szOf P e with
        | none=>simp [hn] at hc
        | some n=>simp [hn] at hc; subst hc; obtain ⟨c,k1,k2⟩:=s_idxA (w:=w) (hF.ev hx.1) (hF.ev hx.2) h ht hn; exact ⟨c,fin k1,k2⟩
      . rename_i len e ht
        cases hn:szOf P e with
        | none=>simp [hn] at hc
        | some n=>simp [hn] at hc; subst hc; obtain ⟨c,k1,k2⟩:=s_idxP (w:=w) (hF.ev hx.1) (hF.ev hx.2) h ht hn; exact ⟨c,fin k1,k2⟩
      . cases hc
    . cases hc
  case index t x i =>
    simp only [cQ] at hc; split at hc
    . rename_i hx
      simp only [Bool.and_eq_true] at hx
      split at hc
      . rename_i len e ht
        split at hc
        . rename_i n sz hn hsz
          cases hc;obtain ⟨c,k1,k2⟩:=s_idx (w:=w) (hF.ev hx.1) (hF.ev hx.2) h ht hn hsz;exact ⟨c,fin k1,k2⟩
        . cases hc
      . rename_i ht
        cases hc;have hx1:=hF.ev hx.1;have hx2:=hF.ev hx.2;simp only [qop,qQw] at h
        split at h
        . rename_i s k n e1 e2
          rw [e1] at hx1; rw [e2] at hx2
          split at h
          . rename_i hn
            simp only [Option.map_eq_some_iff] at h;obtain ⟨b,hb,rfl⟩:=h;refine ⟨_,fin ?_,.int _ _⟩;rw [qEk hx1,qDq hx2];simp only [Instr.index,asIntOf,Sem.run_bind,Sem.run_pure,Result.andThen_ok,qCj ht,if_pos hn,hb]
          . cases h
        . cases h
      . cases hc
    . cases hc
  case nilCheck x =>
    simp only [cQ] at hc; split at hc
    . rename_i hx
      cases hc;have hx1:=hF.ev hx;simp only [qop,ptrV] at h
      split at h
      . rename_i ad e
        rw [e] at hx1;cases h;obtain ⟨ver,L,k1,k2,k3⟩:=qIa hx1;refine ⟨a.eval x,?_,hx1⟩;simp only [execOp,k3]; rfl
      . cases h
    . cases hc
  case extract x i =>
    simp only [cQ] at hc; split at hc
    . rename_i hx
      cases hc;have hx1:=hF.ev hx;simp only [qop,extV] at h
      split at h
      . rename_i vs e
        rw [e] at hx1;obtain ⟨ys,k0,k1,k2⟩:=rel_tuple hx1;obtain ⟨y,hy⟩:=qCk (k1 ▸ qCi h);exact ⟨y,fin (by simp [k0,Instr.extract,hy]),k2 i v y h hy⟩
      . cases h
    . cases hc
  case call cl =>
    obtain ⟨callee,args,argTypes⟩:=cl;cases callee with
    | value f=>simp [cQ] at hc
    | invoke r n=>simp [cQ] at hc
    | builtin b =>
      cases b<;>simp only [cQ] at hc<;>try (cases hc; done)
      case len =>
        split at hc
        . rename_i x t hx ht
          have hargs:args=#[x]:=by apply Array.ext'; simpa using hx
          have htys:argTypes=#[t]:=by apply Array.ext'; simpa using ht
          subst hargs; subst htys
          split at hc
          . rename_i hok
            have hx1:=hF.ev hok
            split at hc
            . rename_i hu
              cases hc;simp only [qop,qQv] at h
              split at h
              . rename_i s e; rw [e] at hx1; cases h
                exact ⟨_,by simp [execOp,resolve,invoke,builtin,qEk hx1,Builtin.len_,qCj hu,goInt],.int _ _⟩
              . cases h
            . rename_i e hu
              cases hc;simp only [qop,lenV] at h
              split at h
              . rename_i ad n c0 e; rw [e] at hx1; cases h
                have:∃ ad' c',a.eval x=.slice ad' n c':=by
                  cases ad with
                  | none =>
                    generalize a.eval x=y at hx1
                    cases hx1; exact ⟨_,_,rfl⟩
                  | some ad=>obtain ⟨a',cap,h1,_⟩:=qDu hx1; exact ⟨a',cap,h1⟩
                obtain ⟨ad',c',h1⟩:=this;exact ⟨_,by simp [execOp,resolve,invoke,builtin,h1,Builtin.len_,qCj hu,goInt],.int _ _⟩
              . cases h
            . rename_i n e hu
              cases hc; cases h;exact ⟨_,by simp [execOp,resolve,invoke,builtin,Builtin.len_,qCj hu,goInt],.int _ _⟩
            . cases hc
          . cases hc
        . cases hc
      case min =>
        split at hc
        . rename_i x ys hx
          split at hc
          . rename_i hok
            simp only [Bool.and_eq_true] at hok;cases hc;obtain ⟨c,k1,k2⟩:=s_min (P:=P) (w:=w) (hF.ev hok.1) (qEd hF hok.2) h;refine ⟨c,?_,k2⟩;simp only [execOp,resolve,invoke,builtin,Builtin.min_,Array.toList_map,hx,List.map_cons,Sem.run_bind,Sem.run_pure,Result.andThen_ok,k1]
          . cases hc
        . cases hc
      case max =>
        split at hc
        . rename_i x ys hx
          split at hc
          . rename_i hok
            simp only [Bool.and_eq_true] at hok;cases hc;obtain ⟨c,k1,k2⟩:=s_max (P:=P) (w:=w) (hF.ev hok.1) (qEd hF hok.2) h;refine ⟨c,?_,k2⟩;simp only [execOp,resolve,invoke,builtin,Builtin.max_,Array.toList_map,hx,List.map_cons,Sem.run_bind,Sem.run_pure,Result.andThen_ok,k1]
          . cases hc
        . cases hc
  all_goals (simp [cQ] at hc)
end
end Am
