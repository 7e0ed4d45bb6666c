/- The abstract machine, second part: operations that make nothing and write nothing, what they yield, and that the model's operation yields what is related to it.
   No condition: plain lemmas. -/
import Derived.Test.YtdiggaadgjkgkaaGreatDoorZNAmHeap
namespace Am
set_option linter.unusedSimpArgs false
set_option linter.unusedVariables false
open Go

abbrev Fr:=Nat→Value
def upd (fr:Fr) (t:Nat) (v:Value):Fr:=fun s=>if s=t then v else fr s
def updO (fr:Fr) (d:Option Nat) (v:Value):Fr:=match d with | some t=>upd fr t v | none=>fr

def qDe:Value→Bool
  | .bool _ | .int _ _ | .string _ | .pointer none | .slice none 0 0 | .nilFunc | .nilIface=>true
  | _=>false
def qEt:Value→Bool
  | .agg cs=>cs.toList.all qDe
  | .tuple cs=>cs.size == 0
  | v=>qDe v

theorem plainC_rel (m:Mu) {v:Value} (h:qDe v=true):VRel m v v:=by
  unfold qDe at h
  split at h<;>first | exact .bool _ | exact .int _ _ | exact .string _ | exact .ptrNil | exact .sliceNil _ | exact .nilFunc | exact .nilIface | cases h
theorem qDv (m:Mu):∀ {vs:List Value},vs.all qDe=true→VRels m vs vs
  | [],_=>.nil
  | v :: vs,h=>by
    simp only [List.all_cons,Bool.and_eq_true] at h;exact .cons (plainC_rel m h.1) (qDv m h.2)
theorem qKy (m:Mu) {v:Value} (h:qEt v=true):VRel m v v:=by
  unfold qEt at h
  split at h
  . exact .agg' (qDv m h)
  . rename_i cs
    have:cs=#[]:=by simpa using h
    subst this; exact .undef m
  . exact plainC_rel m h
theorem plainC_cellLike {v:Value} (h:qDe v=true):cellLike v=true:=by
  unfold qDe at h
  split at h<;>first | rfl | cases h

def okO:Operand→Bool
  | .tmp _=>true
  | .const v=>qEt v
  | .func _=>true
  | .global _=>false
def ev (fr:Fr):Operand→Value
  | .tmp t=>fr t
  | .const v=>v
  | .global _=>.tuple #[]
  | .func f=>.func (.func f) #[] #[]

def FRel (m:Mu) (fr:Fr) (a:Act):Prop:=∀ t,VRel m (fr t) (a.tmps.getD t undef)
theorem FRel.mono {m m':Mu} {fr:Fr} {a:Act} (h:FRel m fr a) (e:MExt m m'):FRel m' fr a:=fun t=>(h t).mono e
theorem FRel.ev {m:Mu} {fr:Fr} {a:Act} (h:FRel m fr a) {x:Operand} (hx:okO x=true):VRel m (ev fr x) (a.eval x):=by
  cases x with
  | tmp t=>exact h t
  | const v=>exact qKy m hx
  | global g=>simp [okO] at hx
  | func f=>exact .func rfl (fun i x y h=>by simp at h) rfl (fun i x y h=>by simp at h)
theorem FRel.upd {m:Mu} {fr:Fr} {a:Act} (h:FRel m fr a) (d:Option Nat) {v c:Value} (hv:VRel m v c) (hd:∀ t,d=some t→t < a.tmps.size):FRel m (updO fr d v) (a.put d c):=by
  intro t;cases d with
  | none=>exact h t
  | some d =>
    have hd:=hd d rfl;simp only [updO,Am.upd,Act.put]
    split
    . rename_i e; subst e
      rw [show (a.tmps.setIfInBounds t c).getD t undef=c by simp [Array.getD,hd]]
      exact hv
    . rename_i e
      rw [show (a.tmps.setIfInBounds d c).getD t undef=a.tmps.getD t undef by
        simp only [Array.getD_eq_getD_getElem?,Array.getElem?_setIfInBounds];rw [if_neg (fun x=>e x.symm)]]
      exact h t

def cellsOf:Value→Option (List Value)
  | .agg cs=>if cs.toList.all cellLike then some cs.toList else none
  | .tuple _=>none
  | v=>some [v]
theorem qJt {m:Mu} {v c:Value} {vs:List Value} (h:cellsOf v=some vs) (hv:VRel m v c):VRels m vs c.cells.toList∧∀ x∈vs,cellLike x=true:=by
  cases hv with
  | agg hs hh =>
    simp only [cellsOf] at h
    split at h
    . rename_i hc
      cases h;exact ⟨.of_get (by simpa [Value.cells] using hs) fun i x y hx hy=>hh i x y (by simpa using hx) (by simpa [Value.cells] using hy),List.all_eq_true.1 hc⟩
    . cases h
  | tup=>simp [cellsOf] at h
  | _ =>
    simp only [cellsOf,Option.some.injEq] at h;subst h;exact ⟨.cons (by constructor<;>assumption) .nil,by simp [cellLike]⟩

def setAll (l:List Value) (off:Nat):List Value→List Value
  | []=>l
  | v :: vs=>setAll (l.set off v) (off+1) vs
theorem setAll_length (l:List Value) (off:Nat) (vs:List Value):(setAll l off vs).length=l.length:=by
  induction vs generalizing l off with
  | nil=>rfl
  | cons v vs ih=>simp [setAll,ih]
theorem VRels.setAll {m:Mu} {l l' vs vs':List Value} (h:VRels m l l') (k:VRels m vs vs') (off:Nat):VRels m (setAll l off vs) (setAll l' off vs'):=by
  induction k generalizing l l' off with
  | nil=>exact h
  | cons hv _ ih=>exact ih (h.set off hv) (off+1)

def qEa (l:List Value):List (Nat×Nat×Value)→Option (List Value)
  | []=>some l
  | (off,n,v) :: ps =>
    match cellsOf v with
    | some vs=>if vs.length=n∧off+n≤l.length then qEa (setAll l off vs) ps else none
    | none=>none
theorem fillL_length {l:List Value} {ps:List (Nat×Nat×Value)} {r:List Value} (h:qEa l ps=some r):r.length=l.length:=by
  induction ps generalizing l with
  | nil=>cases h; rfl
  | cons p ps ih =>
    obtain ⟨off,n,v⟩:=p;simp only [qEa] at h
    split at h
    . split at h
      . rw [ih h,setAll_length]
      . cases h
    . cases h

theorem fold_setAll (vs:List Value):∀ (k off:Nat) (cs:Array Value),((vs.zipIdx k).foldl (fun (cs:Array Value) (p:Value×Nat)=>cs.setIfInBounds (off+p.2) p.1) cs).toList=setAll cs.toList (off+k) vs:=by
  induction vs with
  | nil=>intro k off cs; rfl
  | cons v vs ih =>
    intro k off cs;simp only [List.zipIdx_cons,List.foldl_cons,setAll];rw [ih];simp [Nat.add_assoc]

theorem fill_run {m:Mu} (place:Nat→Option (Nat×Nat)):∀ (ps:List (Nat×Value)) (qs:List (Nat×Nat×Value)) (cells:Array Value) (l r:List Value),VRels m l cells.toList →
    ps.length=qs.length→(∀ (j:Nat) (i:Nat) (c:Value) (off n:Nat) (v:Value),ps[j]?=some (i,c)→qs[j]?=some (off,n,v)→place i=some (off,n)∧VRel m v c) →
    qEa l qs=some r→∃ out,Instr.fill place cells ps=some out∧VRels m r out.toList:=by
  intro ps
  induction ps with
  | nil =>
    intro qs cells l r hl hn _ hr;cases qs with
    | nil=>cases hr; exact ⟨cells,rfl,hl⟩
    | cons q qs=>simp at hn
  | cons p ps ih =>
    intro qs cells l r hl hn hp hr;cases qs with
    | nil=>simp at hn
    | cons q qs =>
      obtain ⟨i,c⟩:=p;obtain ⟨off,n,v⟩:=q;obtain ⟨h1,h2⟩:=hp 0 i c off n v rfl rfl;simp only [qEa] at hr
      split at hr
      . rename_i vs hvs
        split at hr
        . rename_i hb
          obtain ⟨k1,k2⟩:=qJt hvs h2;have e1:c.cells.size=n:=by have:=k1.length; simp at this; omega
          have e2:cells.size=l.length:=by have:=hl.length; simp at this; omega
          have e3:(c.cells.zipIdx.foldl (fun cs x=>cs.setIfInBounds (off+x.2) x.1) cells).toList=setAll cells.toList off c.cells.toList:=by
            rw [← Array.foldl_toList,Array.toList_zipIdx]
            simpa using fold_setAll c.cells.toList 0 off cells
          obtain ⟨out,ho,hout⟩:=ih qs (c.cells.zipIdx.foldl (fun cs x=>cs.setIfInBounds (off+x.2) x.1) cells) (setAll l off vs) r (by rw [e3]; exact hl.setAll k1 off)
            (by simpa using hn) (fun j i' c' off' n' v' q1 q2=>hp (j+1) i' c' off' n' v' (by simpa using q1) (by simpa using q2)) hr
          refine ⟨out,?_,hout⟩;simp only [Instr.fill,h1];rw [if_neg (by simp [e1]; omega)]
          exact ho
        . cases hr
      . cases hr

def Heap.row? (H:Heap) (id ver:Nat):Option Row :=
  match H[id]? with
  | some (.row r)=>if r.ver=ver then some r else none
  | _=>none
theorem Heap.row?_some {H:Heap} {id ver:Nat} {r:Row} (h:H.row? id ver=some r):H[id]?=some (.row r)∧r.ver=ver:=by
  unfold Heap.row? at h
  split at h
  . rename_i r' hr
    split at h
    . rename_i e; cases h; exact ⟨hr,e⟩
    . cases h
  . cases h
def Heap.cell? (H:Heap) (id off ver:Nat):Option Value :=
  match H.row? id ver with
  | some r=>r.cells[off]?
  | none=>none
def Heap.cells? (H:Heap) (id off ver n:Nat):Option (List Value) :=
  match H.row? id ver with
  | some r=>if off+n≤r.cells.length then some ((r.cells.drop off).take n) else none
  | none=>none
theorem Heap.cell?_some {H:Heap} {id off ver:Nat} {v:Value} (h:H.cell? id off ver=some v):∃ r,H[id]?=some (.row r)∧r.ver=ver∧r.cells[off]?=some v:=by
  unfold Heap.cell? at h
  split at h
  . rename_i r hr
    exact ⟨r,(row?_some hr).1,(row?_some hr).2,h⟩
  . cases h
theorem Heap.cells?_some {H:Heap} {id off ver n:Nat} {vs:List Value} (h:H.cells? id off ver n=some vs) :
    ∃ r,H[id]?=some (.row r)∧r.ver=ver∧off+n≤r.cells.length∧vs=(r.cells.drop off).take n:=by
  unfold Heap.cells? at h
  split at h
  . rename_i r hr
    split at h
    . rename_i hb; cases h; exact ⟨r,(row?_some hr).1,(row?_some hr).2,hb,rfl⟩
    . cases h
  . cases h

theorem qEg (b o n:Nat):(⟨b,o,none⟩:Addr).add n=⟨b,o+n,none⟩:=by unfold Addr.add; split<;>simp_all

theorem ARel.cells {m:Mu} {H:Heap} {w:World} (h:ARel m H w) {id off ver n:Nat} {vs:List Value} (hv:H.cells? id off ver n=some vs) {L:Loc} (hL:m id ver=some L) :
    ∃ cs,VRels m vs cs∧(∀ x∈vs,cellLike x=true)∧(∀ x∈cs,cellLike x=true)∧∀ (j:Nat) (c:Value),cs[j]?=some c→w.cell? ((⟨L.blk,L.base+off,none⟩:Addr).add j)=some c:=by
  obtain ⟨r,hr,he,hb,rfl⟩:=Heap.cells?_some hv;subst he;obtain ⟨L',cs',T,fz,h1,h2,h3,h4,h5,h6,h7⟩:=h.row id r hr;rw [hL] at h1; cases h1;have key:∀ j,j < n→∃ v c,r.cells[off+j]?=some v∧cs'[L.base+off+j]?=some c∧VRel m v c∧Am.cellLike v=true:=by
    intro j hj;obtain ⟨v,hv⟩:∃ v,r.cells[off+j]?=some v:=⟨_,List.getElem?_eq_getElem (by omega)⟩
    obtain ⟨c,k1,k2,k3⟩:=h6 (off+j) v hv;exact ⟨v,c,hv,by rw [show L.base+off+j=L.base+(off+j) by omega]; exact k1,k2,k3⟩
  have hgv:∀ (j:Nat) (v:Value),((r.cells.drop off).take n)[j]?=some v→j < n∧r.cells[off+j]?=some v:=by
    intro j v hj;rw [List.getElem?_take] at hj
    split at hj
    . rename_i hlt; rw [List.getElem?_drop] at hj; exact ⟨hlt,hj⟩
    . cases hj
  have hgc:∀ (j:Nat) (c:Value),((cs'.toList.drop (L.base+off)).take n)[j]?=some c→j < n∧cs'[L.base+off+j]?=some c:=by
    intro j c hj;rw [List.getElem?_take] at hj
    split at hj
    . rename_i hlt; rw [List.getElem?_drop] at hj; exact ⟨hlt,by simpa using hj⟩
    . cases hj
  refine ⟨(cs'.toList.drop (L.base+off)).take n,.of_get ?_ fun j v c hj hc=>?_,fun x hx=>?_,fun x hx=>?_,fun j c hc=>?_⟩
  . simp; omega
  . obtain ⟨a1,a2⟩:=hgv j v hj
    obtain ⟨b1,b2⟩:=hgc j c hc;obtain ⟨v',c',k1,k2,k3,_⟩:=key j a1;rw [a2] at k1; cases k1;rw [b2] at k2; cases k2;exact k3
  . obtain ⟨j,hj⟩:=List.mem_iff_getElem?.1 hx
    obtain ⟨a1,a2⟩:=hgv j x hj;obtain ⟨v',c',k1,k2,k3,k4⟩:=key j a1;rw [a2] at k1; cases k1;exact k4
  . obtain ⟨j,hj⟩:=List.mem_iff_getElem?.1 hx
    obtain ⟨b1,b2⟩:=hgc j x hj;obtain ⟨v',c',k1,k2,k3,k4⟩:=key j b1;rw [b2] at k2; cases k2;exact k3.cellLike k4
  . obtain ⟨b1,b2⟩:=hgc j c hc
    rw [qEg];simp [World.cell?,h2,b2]

def bits (k:IntKind) (op:BinOp) (x y:Int):Int :=
  let a:=BitVec.ofInt k.bits x
  let b:=BitVec.ofInt k.bits y
  match op with
  | .and=>k.wrap (a &&& b).toNat
  | .or=>k.wrap (a ||| b).toNat
  | .xor=>k.wrap (a ^^^ b).toNat
  | _=>k.wrap (a &&& ~~~b).toNat

def binI (op:BinOp) (k:IntKind) (a b:Int):Option Value :=
  match op with
  | .add=>some (.int k (k.wrap (a+b)))
  | .sub=>some (.int k (k.wrap (a - b)))
  | .mul=>some (.int k (k.wrap (a * b)))
  | .quo=>if b=0 then none else some (.int k (k.wrap (a.tdiv b)))
  | .rem=>if b=0 then none else some (.int k (a.tmod b))
  | .and=>some (.int k (bits k .and a b))
  | .or=>some (.int k (bits k .or a b))
  | .xor=>some (.int k (bits k .xor a b))
  | .andNot=>some (.int k (bits k .andNot a b))
  | .eql=>some (.bool (decide (a=b)))
  | .neq=>some (.bool (decide (a≠b)))
  | .lss=>some (.bool (decide (a < b)))
  | .leq=>some (.bool (decide (a≤b)))
  | .gtr=>some (.bool (decide (b < a)))
  | .geq=>some (.bool (decide (b≤a)))
  | _=>none
def shI (op:BinOp) (k:IntKind) (a b:Int):Option Value :=
  if b < 0 then none else
  match op with
  | .shl=>some (.int k (k.wrap (a * 2 ^ (min b.toNat k.bits))))
  | .shr=>some (.int k (a.fdiv (2 ^ (min b.toNat k.bits))))
  | _=>none
def isSh:BinOp→Bool
  | .shl | .shr=>true
  | _=>false
def binV (op:BinOp) (x y:Value):Option Value :=
  match x,y with
  | .int k a,.int k' b=>if isSh op then shI op k a b else if k=k' then binI op k a b else none
  | _,_=>none

theorem binV_run {P:Program} {op:BinOp} {x y v:Value} (h:binV op x y=some v) (w:World) (t:TypeId):(binOp op t x y).run P w=.ok v w:=by
  unfold binV at h
  split at h
  . rename_i k a k' b
    split at h
    . rename_i hs
      unfold shI at h
      split at h
      . cases h
      . rename_i hb
        cases op<;>simp [isSh] at hs<;>simp at h<;>subst h<;>simp [binOp,Op.shift,hb]
    . rename_i hs
      split at h
      . rename_i hk; subst hk
        cases op<;>simp [isSh] at hs<;>simp [binI] at h
        all_goals first
          | (obtain ⟨hb,h⟩:=h; subst h; simp [binOp,Op.intDiv,hb]; done)
          | (subst h; simp [binOp,Op.intArith,Op.intBits,Op.intCmp,bits]; done)
          | (subst h; by_cases hh:a=b<;>simp [binOp,Op.intCmp,hh])
      . cases h
  . cases h

theorem qFa {P:Program} (op:BinOp) (t:TypeId) (x y:Operand) (a b:Value) (ha:∀ cs,a≠.agg cs) (ha':a≠.nilIface) (w:World):(eqGuard op t x y a b).run P w=.ok () w:=by
  unfold eqGuard;cases op<;>simp
  all_goals (cases a<;>first | (exact absurd rfl (ha _)) | (exact absurd rfl ha') | simp)

end Am
