/- The abstract machine, fifth part: operations that make rows or write into them, and that they are right.
   No condition: plain lemmas. -/

import Derived.Test.YtdiggaadgjkgkaaGreatDoorZNAmQuiet
namespace Am
set_option linter.unusedSimpArgs false
set_option linter.unusedVariables false
open Go

theorem qFs {v:Value} (h:cellLike v=true):v.oneCell'=true:=by cases v<;>simp_all [cellLike,Value.oneCell']

theorem ARel.turn0 {m m':Mu} {H:Heap} {w w':World} (h:ARel m H w) {id:Nat} {r r':Row} (hr:H[id]?=some (.row r)) {L L':Loc} (hL:m id r.ver=some L) (hrw:r.rw=true)
    {cs':Array Value} {T:TypeId} (hb:w'.heap[L'.blk]?=some (.cells cs' T (0,0))) (hsame:∀ b,b < w.heap.size→b≠L.blk→w'.heap[b]?=w.heap[b]?)
    (hsize:w.heap.size≤w'.heap.size) (hos:w'.os=w.os) (htape:w'.tape=w.tape) (hout:w'.output=w.output) (hblk:L'.blk=L.blk∨w.heap.size≤L'.blk)
    (hext:MExt m m') (hm':m' id r'.ver=some L') (hon:∀ i v L0,m' i v=some L0→m i v=some L0∨(i=id∧v=r'.ver)) (hver:r.ver≤r'.ver) (_hrw':r'.rw=true)
    (hesz:L'.esz=r'.esz) (hroom:L'.base+L'.room≤cs'.size) (hlen:r'.cells.length≤L'.room)
    (hcells:∀ (j:Nat) (v:Value),r'.cells[j]?=some v→∃ c,cs'[L'.base+j]?=some c∧VRel m v c∧cellLike v=true) :
    ARel0 m' (H.set id (.row r')) w'∧Kept m H w m' (H.set id (.row r')) w':=by
  have hlt:id < H.length:=(List.getElem?_eq_some_iff.1 hr).1;have hself:(H.set id (.row r'))[id]?=some (.row r'):=by rw [List.getElem?_set_self hlt]
  have hother:∀ (i:Nat) (q:Row),i≠id→(H.set id (.row r'))[i]?=some (.row q)→H[i]?=some (.row q):=by
    intro i q hi hq
    rwa [List.getElem?_set_ne (fun e=>hi e.symm)] at hq
  have hmo:∀ (i v:Nat) (L0:Loc),i≠id→m' i v=some L0→m i v=some L0:=fun i v L0 hi e=>(hon i v L0 e).resolve_right (fun x=>hi x.1)
  have hne:∀ (i:Nat) (q:Row) (L0:Loc),i≠id→H[i]?=some (.row q)→m i q.ver=some L0→L0.blk < w.heap.size∧L0.blk≠L.blk:=by
    intro i q L0 hi hq hm;obtain ⟨L1,cs1,T1,fz1,k1,k2,_⟩:=h.row i q hq;rw [hm] at k1; cases k1;exact ⟨(Array.getElem?_eq_some_iff.1 k2).1,fun e=>hi (h.sep id r L i q L0 hr hL hrw hq hm e.symm)⟩
  refine ⟨⟨fun i q hq=>?_,fun i q L0 i' q' L0' h1 h2 h3 h4 h5 h6=>?_,fun i v L0 hm=>?_,fun i v L0 hm=>by
      rcases hon i v L0 hm with e | ⟨e1,e2⟩
      . exact Nat.lt_of_lt_of_le (h.lt _ _ _ e) hsize
      . subst e1; subst e2; rw [hm'] at hm; cases hm; exact (Array.getElem?_eq_some_iff.1 hb).1⟩,⟨hsize,hos,htape,hout,fun b hlt' hn=>?_,fun b hbw=>?_,hext,fun i v L0 hL0=>?_⟩⟩
  . by_cases hi:i=id
    . subst hi
      rw [hself] at hq; cases hq;exact ⟨L',cs',T,(0,0),hm',hb,hesz,hroom,hlen,fun j v hj=>by obtain ⟨c,k1,k2,k3⟩:=hcells j v hj; exact ⟨c,k1,k2.mono hext,k3⟩,fun _=>rfl⟩
    . obtain ⟨L1,cs1,T1,fz1,k1,k2,k3,k4,k5,k6,k7⟩:=h.row i q (hother i q hi hq)
      obtain ⟨n1,n2⟩:=hne i q L1 hi (hother i q hi hq) k1;exact ⟨L1,cs1,T1,fz1,hext _ _ _ k1,by rw [hsame _ n1 n2]; exact k2,k3,k4,k5,fun j v hj=>by obtain ⟨c,z1,z2,z3⟩:=k6 j v hj; exact ⟨c,z1,z2.mono hext,z3⟩,k7⟩
  . by_cases hi:i=id
    . by_cases hi':i'=id
      . rw [hi,hi']
      . subst hi
        rw [hself] at h1; cases h1;rw [hm'] at h2; cases h2;obtain ⟨n1,n2⟩:=hne i' q' L0' hi' (hother i' q' hi' h4) (hmo _ _ _ hi' h5);rcases hblk with e | e
        . exact absurd (h6.symm.trans e) n2
        . omega
    . by_cases hi':i'=id
      . subst hi'
        rw [hself] at h4; cases h4;rw [hm'] at h5; cases h5;obtain ⟨n1,n2⟩:=hne i q L0 hi (hother i q hi h1) (hmo _ _ _ hi h2);rcases hblk with e | e
        . exact absurd (h6.trans e) n2
        . omega
      . exact h.sep i q L0 i' q' L0' (hother i q hi h1) (hmo _ _ _ hi h2) h3 (hother i' q' hi' h4) (hmo _ _ _ hi' h5) h6
  . by_cases hi:i=id
    . subst hi
      rcases hon i v L0 hm with e | ⟨_,e⟩
      . obtain ⟨q,hq,hle⟩:=h.fresh i v L0 e
        rw [hr] at hq; cases hq;exact ⟨r',hself,Nat.le_trans hle hver⟩
      . exact ⟨r',hself,by rw [e]; exact Nat.le_refl _⟩
    . obtain ⟨q,hq,hle⟩:=h.fresh i v L0 (hmo _ _ _ hi hm)
      exact ⟨q,by rw [List.getElem?_set_ne (fun e=>hi e.symm)]; exact hq,hle⟩
  . exact hsame b hlt' (fun e=>hn ⟨id,r,L,hr,hrw,hL,e.symm⟩)
  . obtain ⟨i,q,L0,h1,h2,h3,h4⟩:=hbw
    by_cases hi:i=id
    . subst hi
      rw [hself] at h1; cases h1;rw [hm'] at h3; cases h3;rcases hblk with e | e
      . exact .inl ⟨i,r,L,hr,hrw,hL,by rw [← e]; exact h4⟩
      . exact .inr (by omega)
    . exact .inl ⟨i,q,L0,hother i q hi h1,h2,hmo _ _ _ hi h3,h4⟩
  . rcases hon i v L0 hL0 with e | ⟨e1,e2⟩
    . exact .inl ⟨i,v,L0,e,rfl⟩
    . subst e1; subst e2
      rw [hm'] at hL0; cases hL0;rcases hblk with e | e
      . exact .inl ⟨i,r.ver,L,hL,e.symm⟩
      . exact .inr e

theorem ARel.turn {m m':Mu} {H:Heap} {w w':World} (h:ARel m H w) {id:Nat} {r r':Row} (hr:H[id]?=some (.row r)) {L L':Loc} (hL:m id r.ver=some L) (hrw:r.rw=true)
    {cs':Array Value} {T:TypeId} (hb:w'.heap[L'.blk]?=some (.cells cs' T (0,0))) (hsame:∀ b,b < w.heap.size→b≠L.blk→w'.heap[b]?=w.heap[b]?)
    (hsize:w.heap.size≤w'.heap.size) (hos:w'.os=w.os) (htape:w'.tape=w.tape) (hout:w'.output=w.output) (hblk:L'.blk=L.blk∨w.heap.size≤L'.blk)
    (hext:MExt m m') (hm':m' id r'.ver=some L') (hon:∀ i v L0,m' i v=some L0→m i v=some L0∨(i=id∧v=r'.ver)) (hver:r.ver≤r'.ver) (_hrw':r'.rw=true)
    (hesz:L'.esz=r'.esz) (hroom:L'.base+L'.room≤cs'.size) (hlen:r'.cells.length≤L'.room)
    (hcells:∀ (j:Nat) (v:Value),r'.cells[j]?=some v→∃ c,cs'[L'.base+j]?=some c∧VRel m v c∧cellLike v=true) :
    ARel m' (H.set id (.row r')) w'∧Kept m H w m' (H.set id (.row r')) w' :=
  have h0:=h.turn0 hr hL hrw hb hsame hsize hos htape hout hblk hext hm' hon hver _hrw' hesz hroom hlen hcells
  ⟨⟨h0.1,h.glob.kept h0.2⟩,h0.2⟩

def over (l:List Value) (off:Nat) (vs:List Value):List Value:=l.take off++vs++l.drop (off+vs.length)
theorem qEv:∀ (vs l:List Value) (off:Nat),off+vs.length≤l.length→setAll l off vs=over l off vs
  | [],l,off,_=>by simp [setAll,over]
  | v :: vs,l,off,h=>by
    simp only [setAll];rw [qEv vs (l.set off v) (off+1) (by simp at h ⊢; omega)]
    unfold over;have:=list_seg_step l off v vs (by simpa using h)
    simpa [Nat.add_assoc,Nat.add_comm 1] using this
theorem qEp (l:List Value) (off:Nat) (vs:List Value) (h:off+vs.length≤l.length) (j:Nat):(over l off vs)[j]?=if off≤j∧j < off+vs.length then vs[j - off]? else l[j]?:=by
  unfold over;simp only [List.getElem?_append,List.length_append,List.length_take,List.getElem?_take,List.getElem?_drop];have e:min off l.length=off:=by omega
  rw [e]
  by_cases h1:j < off
  . rw [if_pos (by omega),if_pos h1,if_pos h1,if_neg (by omega)]
  . by_cases h2:j < off+vs.length
    . rw [if_pos h2,if_neg h1,if_pos (by omega)]
    . rw [if_neg h2,if_neg (by omega)]
      congr 1; omega
theorem qDj (l:List Value) (off:Nat) (vs:List Value) (h:off+vs.length≤l.length):(over l off vs).length=l.length:=by
  unfold over; simp; omega

section
variable {P : Program} {m : Mu} {H : Heap} {w : World}

theorem ARel.stores (hA:ARel m H w) {id:Nat} {r:Row} (hr:H[id]?=some (.row r)) {L:Loc} (hL:m id r.ver=some L) (hrw:r.rw=true) {vs cs:List Value} (hv:VRels m vs cs)
    (hc:∀ v∈vs,cellLike v=true) {off:Nat} (hoff:off+vs.length≤r.cells.length) :
    ∃ w',(storeCells ⟨L.blk,L.base+off,none⟩ cs).run P w=.ok () w'∧ARel m (H.set id (.row { r with cells:=setAll r.cells off vs })) w' ∧
      Kept m H w m (H.set id (.row { r with cells:=setAll r.cells off vs })) w':=by
  obtain ⟨L',arr,T,fz,h1,h2,h3,h4,h5,h6,h7⟩:=hA.row id r hr;rw [hL] at h1; cases h1;rw [h7 hrw] at h2;have hcs:∀ x∈cs,x.oneCell'=true:=by
    intro x hx;obtain ⟨j,hj⟩:=List.mem_iff_getElem?.1 hx;obtain ⟨v,hvj⟩:∃ v,vs[j]?=some v:=⟨_,List.getElem?_eq_getElem (by have:=hv.length; have:=(List.getElem?_eq_some_iff.1 hj).1; omega)⟩
    obtain ⟨c,k1,k2⟩:=hv.get j v hvj;rw [hj] at k1; cases k1;exact qFs (k2.cellLike (hc v (List.mem_of_getElem? hvj)))
  have hlen:=hv.length;have hst:=run_storeCells_at P L.blk (L.base+off) T cs 0 arr w h2 (by omega) hcs
  simp only [Nat.add_zero] at hst;have hoa:L.base+off+cs.length≤arr.toList.length:=by simp; omega
  have hmain:=hA.turn (m':=m) (r':={ r with cells:=setAll r.cells off vs }) (L':=L) hr hL hrw
    (w':=w.setRow L.blk (over arr.toList (L.base+off) cs).toArray) (setRow_heap w L.blk arr _ T _ h2) (fun b _ hb=>setRow_other w L.blk b _ hb) (by simp [World.setRow]) rfl rfl rfl (.inl rfl) (.refl m) hL
    (fun _ _ _ e=>.inl e) (Nat.le_refl _) hrw h3 (by rw [List.size_toArray,qDj _ _ _ hoa]; simpa using h4) (by simpa [setAll_length] using h5) (fun j v hj=>by
      simp only [qEv vs r.cells off hoff] at hj;rw [qEp _ _ _ hoff] at hj;have e:((over arr.toList (L.base+off) cs).toArray)[L.base+j]?=(over arr.toList (L.base+off) cs)[L.base+j]?:=by simp
      rw [e,qEp _ _ _ hoa]
      split at hj
      . rename_i hb
        rw [if_pos (by omega)]
        obtain ⟨c,k1,k2⟩:=hv.get _ v hj;exact ⟨c,by rw [show L.base+j - (L.base+off)=j - off by omega]; exact k1,k2,hc v (List.mem_of_getElem? hj)⟩
      . rename_i hb
        rw [if_neg (by omega)]
        obtain ⟨c,k1,k2,k3⟩:=h6 j v hj;exact ⟨c,by simpa using k1,k2,k3⟩)
  refine ⟨_,hst,?_⟩;have e:(w.setRow L.blk (arr.toList.take (L.base+off)++cs++arr.toList.drop (L.base+off+cs.length)).toArray)=w.setRow L.blk (over arr.toList (L.base+off) cs).toArray:=rfl;rw [e];exact hmain

def rep (n:Nat) (z:List Value):List Value:=(List.replicate n z).flatten
theorem rep_length (n:Nat) (z:List Value):(rep n z).length=n * z.length:=by simp [rep]
theorem qIs (n:Nat) (z:List Value):rep (n+1) z=rep n z++z:=by simp [rep,List.replicate_succ']
theorem qKv (n:Nat) (z:Value):rep n [z]=List.replicate n z:=by
  induction n with
  | zero=>rfl
  | succ n ih=>rw [qIs,ih,List.replicate_succ']
theorem qHn (z:Array Value) (n:Nat):(madeCells z (n * z.size)).toList=rep n z.toList:=by
  unfold madeCells;rw [Array.toList_map,Array.toList_range]
  induction n with
  | zero=>simp [rep]
  | succ n ih =>
    rw [qIs,← ih,Nat.succ_mul,List.range_add,List.map_append,List.map_map]
    congr 1
    apply List.ext_getElem?;intro j;rw [List.getElem?_map]
    by_cases hj:j < z.size
    . rw [List.getElem?_range hj]
      simp [hj,Nat.mod_eq_of_lt hj]
    . rw [List.getElem?_eq_none (by simp; omega),List.getElem?_eq_none (by simp; omega)]; rfl
theorem zeroCells_rep (z:Array Value) (n:Nat):(Builtin.zeroCells z n).toList=rep n z.toList:=qHn z n
theorem qLx {z c:List Value} (h:VRels m z c):∀ n,VRels m (rep n z) (rep n c)
  | 0=>.nil
  | n+1=>by rw [qIs,qIs]; exact (qLx h n).append h
theorem qHz {z:List Value} (h:z.all qDe=true) (n:Nat):∀ v∈rep n z,cellLike v=true:=by
  intro v hv;unfold rep at hv;rw [List.mem_flatten] at hv;obtain ⟨l,hl,hv⟩:=hv;rw [List.eq_of_mem_replicate hl] at hv;exact plainC_cellLike (List.all_eq_true.1 h v hv)
end

inductive EOp where
  | new (zero:List Value) (esz:Nat)
  | box (n esz:Nat) (x:Operand)
  | lit (zeros:List Value) (esz len:Nat) (parts:List (Nat×Nat×Operand))
  | make (zero:List Value) (esz:Nat) (len cap:Operand)
  | store (n:Nat) (a x:Operand)
  | app (esz:Nat) (s x:Operand)
  | clear (zero:List Value) (x:Operand)
  | copy (esz:Nat) (d s:Operand)

def lim:Nat:=1048576

def newRow (H:Heap) (vs:List Value) (esz:Nat):Heap:=H++[.row ⟨vs,esz,0,true⟩]
def qIc (H:Heap) (zero:List Value) (esz:Nat) (l c:Value):Option (Value×Heap) :=
  match l,c with
  | .int _ l,.int _ c=>if 0≤l∧l≤c∧c≤lim then some (.slice (some ⟨H.length,0,none⟩) l.toNat 0,newRow H (rep c.toNat zero) esz) else none
  | _,_=>none
def qBu (H:Heap) (n:Nat) (p x:Value):Option Heap :=
  match p,cellsOf x with
  | .pointer (some ⟨id,off,some ver⟩),some vs =>
    match H.row? id ver with
    | some r=>if r.rw=true∧vs.length=n∧off+vs.length≤r.cells.length then some (H.set id (.row { r with cells:=setAll r.cells off vs })) else none
    | none=>none
  | _,_=>none
def qDz (H:Heap) (esz:Nat):Value→Option (Nat×List Value)
  | .slice none 0 0=>some (0,[])
  | .slice (some ⟨id,off,none⟩) len ver=>(H.cells? id off ver (len * esz)).map fun l=>(len,l)
  | _=>none
def appV (H:Heap) (esz:Nat) (s x:Value):Option (Value×Heap) :=
  match qDz H esz x with
  | some (n,new) =>
    match s with
    | .slice none 0 0=>if n=0 then some (.slice none 0 0,H) else if n≤lim then some (.slice (some ⟨H.length,0,none⟩) n 0,newRow H new esz) else none
    | .slice (some ⟨id,off,none⟩) len ver =>
      match H.row? id ver with
      | some r =>
        if r.rw=true∧r.esz=esz∧off+len * esz≤r.cells.length∧len+n≤lim then
          some (.slice (some ⟨id,0,none⟩) (len+n) (ver+1),H.set id (.row ⟨(r.cells.drop off).take (len * esz)++new,esz,ver+1,true⟩))
        else none
      | none=>none
    | _=>none
  | none=>none
def qIf (H:Heap) (zero:List Value):Value→Option Heap
  | .slice none 0 0=>some H
  | .slice (some ⟨id,off,none⟩) len ver =>
    if len=0 then some H else
    match H.row? id ver with
    | some r=>if r.rw=true∧off+len * zero.length≤r.cells.length then some (H.set id (.row { r with cells:=setAll r.cells off (rep len zero) })) else none
    | none=>none
  | _=>none
def qSm (H:Heap) (esz:Nat) (d s:Value):Option (Value×Heap) :=
  match d,qDz H esz s with
  | .slice none 0 0,some _=>some (.int .i64 0,H)
  | .slice (some ⟨id,off,none⟩) len ver,some (n,cs) =>
    if min n len=0 then some (.int .i64 0,H) else
    match H.row? id ver with
    | some r=>if r.rw=true∧off+min n len * esz≤r.cells.length∧min n len * esz≤cs.length then
        some (.int .i64 (min n len:Nat),H.set id (.row { r with cells:=setAll r.cells off (cs.take (min n len * esz)) })) else none
    | none=>none
  | _,_=>none

def eop:EOp→Fr→Heap→Option (Value×Heap)
  | .new z esz,_,H=>some (.pointer (some ⟨H.length,0,some 0⟩),newRow H z esz)
  | .box n esz x,fr,H=>match cellsOf (ev fr x) with | some vs=>if vs.length=n then some (.pointer (some ⟨H.length,0,some 0⟩),newRow H vs esz) else none | none=>none
  | .lit z esz len ps,fr,H=>(qEa z (ps.map fun p=>(p.1,p.2.1,ev fr p.2.2))).map fun l=>(.slice (some ⟨H.length,0,none⟩) len 0,newRow H l esz)
  | .make z esz l c,fr,H=>qIc H z esz (ev fr l) (ev fr c)
  | .store n p x,fr,H=>(qBu H n (ev fr p) (ev fr x)).map fun H=>(.tuple #[],H)
  | .app esz s x,fr,H=>appV H esz (ev fr s) (ev fr x)
  | .clear z x,fr,H=>(qIf H z (ev fr x)).map fun H=>(.tuple #[],H)
  | .copy esz d s,fr,H=>qSm H esz (ev fr d) (ev fr s)

def eszOf (P:Program) (t:TypeId):Option Nat :=
  match P.underlying t with
  | some (.array _ e)=>szOf P e
  | some _=>szOf P t
  | none=>none
def qMa (P:Program) (e:TypeId) (len:Nat):Option (Nat×List Value) :=
  match qFd P e with
  | some z=>if z.length=0 then none else some (z.length,rep len z)
  | none=>none
def qOe (P:Program) (e:TypeId):Bool:=match P.info? e with | some i=>i.bytes≤lim && 0 < i.size | none=>false

def cE (P:Program):Op→Option EOp
  | .alloc t=>match qFd P t,eszOf P t with | some z,some n=>some (.new z n) | _,_=>none
  | .box t x=>if okO x then match szOf P t,eszOf P t with | some n,some e=>some (.box n e x) | _,_=>none else none
  | .buildSlice t len parts =>
    match P.underlying t with
    | some (.slice e) =>
      match qMa P e len with
      | some (n,z)=>if len * n≤16777216 then (qEi (fun i=>some (i * n,n)) parts.toList).map (.lit z n len) else none
      | none=>none
    | _=>none
  | .makeSlice t l c =>
    if okO l && okO c then match P.underlying t with
      | some (.slice e)=>match qFd P e with
        | some z=>if qOe P e then some (.make z z.length l c) else none
        | none=>none
      | _=>none
    else none
  | .store t p x=>if okO p && okO x then (szOf P t).map fun n=>.store n p x else none
  | .call { callee:=.builtin .append,args,argTypes } =>
    match args.toList,argTypes.toList with
    | [s,x],[t,u] =>
      if okO s && okO x && t == u then match P.underlying t with
        | some (.slice e)=>match qFd P e with
          | some z=>if qOe P e then some (.app z.length s x) else none
          | none=>none
        | _=>none
      else none
    | _,_=>none
  | .call { callee:=.builtin .clear,args,argTypes } =>
    match args.toList,argTypes.toList with
    | [x],[t] =>
      if okO x then match P.underlying t with
        | some (.slice e)=>(qFd P e).map fun z=>.clear z x
        | _=>none
      else none
    | _,_=>none
  | .call { callee:=.builtin .copy,args,argTypes } =>
    match args.toList,argTypes.toList with
    | [d,s],[t,u] =>
      if okO d && okO s then match P.underlying t,P.underlying u with
        | some (.slice e),some (.slice _)=>(szOf P e).map fun n=>.copy n d s
        | _,_=>none
      else none
    | _,_=>none
  | _=>none
end Am
/- The abstract machine, sixth part: the operations that make rows or write into them are right.
   No condition: plain lemmas. -/
namespace Am
set_option linter.unusedSimpArgs false
set_option linter.unusedVariables false
open Go
section
variable {P : Program} {m : Mu} {H H' : Heap} {w : World} {fr : Fr} {a : Act}

def Comes (P:Program) (m:Mu) (H:Heap) (w:World) (s:Sem Next) (v:Value) (H':Heap):Prop :=
  ∃ n c w' m',s.run P w=.ok n w'∧(n=.value c∨(n=.skip∧c=undef))∧VRel m' v c∧ARel m' H' w'∧Kept m H w m' H' w'

def qQz (P:Program) (m:Mu) (w:World) (s:Sem Next) (mk:Nat→Value) (vs:List Value) (esz:Nat):Prop :=
  ∃ arr T c,s.run P w=.ok (.value c) (w.alloc (.cells arr T))∧(∀ (j:Nat) (v:Value),vs[j]?=some v→∃ c,arr[j]?=some c∧VRel m v c)∧vs.length≤arr.size∧(∀ v∈vs,cellLike v=true) ∧
    ∀ (m':Mu) (id:Nat),m' id 0=some ⟨w.heap.size,0,arr.size,esz⟩→VRel m' (mk id) c
theorem qHo (hA:ARel m H w) {s:Sem Next} {mk:Nat→Value} {vs:List Value} {esz:Nat} (h:qQz P m w s mk vs esz):Comes P m H w s (mk H.length) (newRow H vs esz):=by
  obtain ⟨arr,T,c,h1,h2,h3,h4,h5⟩:=h;obtain ⟨k1,k2⟩:=hA.pushG h2 h3 h4 esz T;exact ⟨_,c,_,_,h1,.inl rfl,h5 _ _ (Mu.put_same _ _ _ _),k1,k2⟩
def qRk (id:Nat):Value:=.pointer (some ⟨id,0,some 0⟩)
def mkSl (len id:Nat):Value:=.slice (some ⟨id,0,none⟩) len 0
theorem mk_push {vs cs:List Value} (hv:VRels m vs cs) (hc:∀ v∈vs,cellLike v=true) {esz T:Nat} {s:Sem Next}
    (hs:s.run P w=.ok (.value (.pointer (some ⟨w.heap.size,0,none⟩))) (w.alloc (.cells cs.toArray T))):qQz P m w s qRk vs esz :=
  ⟨cs.toArray,T,_,hs,fun j v hj=>by obtain ⟨c,k1,k2⟩:=hv.get j v hj; exact ⟨c,by simpa using k1,k2⟩,by simp [hv.length],hc,fun m' id h=>by simpa [qRk] using VRel.ptr (off:=0) h⟩
theorem mk_push_slice {vs cs:List Value} (hv:VRels m vs cs) (hc:∀ v∈vs,cellLike v=true) {esz T len cap:Nat} (hl:len≤cap) (hcap:cap * esz≤vs.length) (hm:cap≤maxLen) {s:Sem Next}
    (hs:s.run P w=.ok (.value (.slice (some ⟨w.heap.size,0,none⟩) len cap)) (w.alloc (.cells cs.toArray T))):qQz P m w s (mkSl len) vs esz :=
  ⟨cs.toArray,T,_,hs,fun j v hj=>by obtain ⟨c,k1,k2⟩:=hv.get j v hj; exact ⟨c,by simpa using k1,k2⟩,by simp [hv.length],hc,
    fun m' id h=>by simpa [mkSl] using VRel.slice (off:=0) h hl (by simp only [List.size_toArray,← hv.length]; simpa using hcap) hm⟩

theorem c_new {t:TypeId} {z:List Value} (hz:qFd P t=some z) (esz:Nat):qQz P m w ((do pure (.value (← Instr.alloc t true (.tuple #[]))):Sem Next)) qRk z esz:=by
  obtain ⟨i,zv,h1,h2,h3,h4,h5,h6⟩:=qEh hz;refine mk_push (qDv m h5) (fun v hv=>plainC_cellLike (List.all_eq_true.1 h5 v hv)) (T:=t) ?_
  have:zv.cells=z.toArray:=by rw [← h3]
  simp [Instr.alloc,qIq h1 h2,newVar,Go.newRow,this]

theorem c_box {t:TypeId} {x c:Value} (hx:VRel m x c) {vs:List Value} (hc:cellsOf x=some vs) (esz:Nat):qQz P m w ((do pure (.value (← Instr.box t c)):Sem Next)) qRk vs esz:=by
  obtain ⟨k1,k2⟩:=qJt hc hx;refine mk_push k1 k2 (T:=t) ?_;simp [Instr.box,newVar,Go.newRow]

theorem cellsOf_cellLike {v:Value} {vs:List Value} (h:cellsOf v=some vs):∀ x∈vs,cellLike x=true:=by
  cases v with
  | agg cs =>
    simp only [cellsOf] at h
    split at h
    . rename_i hc; cases h; exact List.all_eq_true.1 hc
    . cases h
  | tuple cs=>simp [cellsOf] at h
  | _=>simp only [cellsOf,Option.some.injEq] at h; subst h; simp [cellLike]
theorem fillL_cellLike:∀ {ps:List (Nat×Nat×Value)} {l r:List Value},(∀ v∈l,cellLike v=true)→qEa l ps=some r→∀ v∈r,cellLike v=true:=by
  have hset:∀ (vs l:List Value) (off:Nat),(∀ v∈l,cellLike v=true)→(∀ v∈vs,cellLike v=true)→∀ v∈setAll l off vs,cellLike v=true:=by
    intro vs
    induction vs with
    | nil=>intro l off h _; exact h
    | cons x vs ih =>
      intro l off h h';refine ih _ _ (fun v hv=>?_) (fun v hv=>h' v (List.mem_cons_of_mem _ hv))
      rcases List.mem_or_eq_of_mem_set hv with e | e
      . exact h v e
      . subst e; exact h' _ (List.mem_cons_self ..)
  intro ps
  induction ps with
  | nil=>intro l r h hr; cases hr; exact h
  | cons p ps ih =>
    intro l r h hr;obtain ⟨off,n,v⟩:=p;simp only [qEa] at hr
    split at hr
    . rename_i vs hvs
      split at hr
      . exact ih (hset vs l off h (cellsOf_cellLike hvs)) hr
      . cases hr
    . cases hr

theorem litZeros_some {e:TypeId} {len n:Nat} {z:List Value} (h:qMa P e len=some (n,z)):∃ zs,qFd P e=some zs∧zs.length=n∧n≠0∧z=rep len zs:=by
  unfold qMa at h
  split at h
  . rename_i zs hz
    split at h
    . cases h
    . rename_i hn; cases h; exact ⟨zs,hz,rfl,hn,rfl⟩
  . cases h

theorem c_lit (hF:FRel m fr a) {t e:TypeId} {len n:Nat} {z:List Value} {parts:Array (Nat×Operand)} {qs:List (Nat×Nat×Operand)} (ht:P.underlying t=some (.slice e)) (hz:qMa P e len=some (n,z))
    (hb:len * n≤16777216) (hq:qEi (fun i=>some (i * n,n)) parts.toList=some qs) {r:List Value} (h:qEa z (qs.map fun p=>(p.1,p.2.1,ev fr p.2.2))=some r) :
    qQz P m w ((do pure (.value (← Instr.buildSlice t len (parts.map fun p=>(p.1,a.eval p.2)))):Sem Next)) (mkSl len) r n:=by
  obtain ⟨zs,hz0,hn,hn0,rfl⟩:=litZeros_some hz;obtain ⟨i,zv,h1,h2,h3,h4,h5,h6⟩:=qEh hz0;have hsz:szOf P e=some n:=by unfold szOf; rw [h1]; simp [← h4,hn]
  have hzs:zv.cells.size=n:=by rw [← hn,← h3]; simp
  obtain ⟨out,ho,hr⟩:=qLg hF hq (cells:=(madeCells zv.cells (len * n))) (by rw [← hzs,qHn,h3]; exact qLx (qDv m h5) len) h
  have hrl:r.length=len * n:=by rw [fillL_length h,rep_length,hn]
  refine mk_push_slice hr (fillL_cellLike (qHz h5 len) h) (T:=e) (Nat.le_refl len) (by omega) (by
    have:len * 1≤len * n:=Nat.mul_le_mul_left _ (by omega)
    unfold maxLen; omega) ?_
  have hb':¬ (len * n > 2 ^ 24):=by omega
  have hcells:(Array.range (len * n)).map (fun x=>(if len * n=0 then (#[]:Array Value) else zv.cells)[x % (if len * n=0 then (#[]:Array Value) else zv.cells).size]!)=madeCells zv.cells (len * n):=by
    by_cases h0:len * n=0
    . simp [h0,madeCells]
    . simp [h0,madeCells]
  by_cases h0:len * n=0
  . have er:Array.range 0=(#[]:Array Nat):=rfl
    have em:madeCells zv.cells 0=#[]:=by simp [madeCells,er]
    simp only [h0,em] at ho;simp only [Instr.buildSlice,Sem.run_bind,qCj ht,Result.andThen_ok,qCl hsz,h0,if_true,Sem.run_pure,er,Array.map_empty,Array.toList_map];simp [ho,Go.newRow]
  . simp only [h0,if_false] at hcells
    simp only [Instr.buildSlice,Sem.run_bind,qCj ht,Result.andThen_ok,qCl hsz,hb',if_false,h0,qIq h1 h2,Sem.run_pure,hcells,Array.toList_map,ho];simp [Go.newRow]

theorem smallT_some {e:TypeId} (h:qOe P e=true) {i:TypeInfo} (hi:P.info? e=some i):i.bytes≤lim∧0 < i.size:=by
  unfold qOe at h; simpa [hi] using h

theorem c_make {t e:TypeId} {z:List Value} (ht:P.underlying t=some (.slice e)) (hz:qFd P e=some z) (hs:qOe P e=true) {l' c':Value} {kl kc:IntKind} {l c:Int} (hl:VRel m (.int kl l) l') (hc:VRel m (.int kc c) c')
    (hb:0≤l∧l≤c∧c≤lim):qQz P m w ((do pure (.value (← Instr.makeSlice t l' c')):Sem Next)) (mkSl l.toNat) (rep c.toNat z) z.length:=by
  obtain ⟨i,zv,h1,h2,h3,h4,h5,h6⟩:=qEh hz;have:=qDq hl; subst this;have:=qDq hc; subst this;have hsm:=smallT_some hs h1;have hlim:lim=1048576:=rfl;have hmul:(i.bytes:Int) * c≤281474976710656:=by
    have h9:i.bytes * c.toNat≤lim * lim:=Nat.mul_le_mul hsm.1 (by omega)
    have h10:((i.bytes * c.toNat:Nat):Int)≤((lim * lim:Nat):Int):=by omega
    rw [Int.natCast_mul,Int.toNat_of_nonneg (by omega)] at h10
    have h11:((lim * lim:Nat):Int)=1099511627776:=by rw [hlim]; rfl
    omega
  have hr:=run_make (P:=P) w t e i zv ht h1 h2 kl kc l c hb.1 hb.2.1 hmul (by omega)
  have hsize:zv.cells.size=i.size:=by rw [← h4,← h3]; simp
  have hzl:z.length=i.size:=h4;refine mk_push_slice (vs:=rep c.toNat z) (cs:=(madeCells zv.cells (c.toNat * i.size)).toList) (by rw [← hsize,qHn,h3]; exact qLx (qDv m h5) _) (qHz h5 _) (T:=e) (len:=l.toNat) (cap:=c.toNat) (by omega) (by rw [rep_length]; exact Nat.le_refl _) (by unfold maxLen; omega) ?_
  simp only [Sem.run_bind,hr,Result.andThen_ok,Sem.run_pure]

theorem c_store (hA:ARel m H w) {t:TypeId} {n:Nat} (hn:szOf P t=some n) {p x p' x':Value} (hp:VRel m p p') (hx:VRel m x x') (h:qBu H n p x=some H') :
    Comes P m H w ((do Instr.storeAt t p' x'; pure .skip:Sem Next)) (.tuple #[]) H':=by
  unfold qBu at h
  split at h
  . rename_i p0 id off ver vs0 vs hvs
    split at h
    . rename_i r hr
      split at h
      . rename_i hb
        cases h;obtain ⟨ver',L,h1,h2,rfl⟩:=qIa hp;cases h1;obtain ⟨k1,k2⟩:=qJt hvs hx;obtain ⟨r1,r2⟩:=Heap.row?_some hr;simp only at h2;subst r2;obtain ⟨w',q1,q2,q3⟩:=hA.stores (P:=P) r1 h2 hb.1 k1 k2 hb.2.2;refine ⟨.skip,undef,w',m,?_,.inr ⟨rfl,rfl⟩,.undef _,q2,q3⟩;have hlen:x'.cells.size=n:=by have:=k1.length; simp at this; omega
        simp only [Instr.storeAt,Instr.sureAddr,storeVar,Sem.run_bind,Sem.run_pure,Result.andThen_ok,qCl hn,hlen,ne_eq,not_true_eq_false,if_false];simp only [q1,Result.andThen_ok]
      . cases h
    . cases h
  . cases h

theorem qNf (hA:ARel m H w) {esz:Nat} {x x':Value} (hx:VRel m x x') {n:Nat} {l:List Value} (h:qDz H esz x=some (n,l)) :
    ∃ a' cap cs,x'=.slice a' n cap∧VRels m l cs∧l.length=n * esz∧(∀ v∈l,cellLike v=true)∧(∀ v∈cs,v.oneCell'=true) ∧
      ((a'=none∧n=0)∨(cs=[]∧n=0)∨∃ ad,a'=some ad∧∀ (j:Nat) (c:Value),cs[j]?=some c→w.cell? (ad.add j)=some c):=by
  unfold qDz at h
  split at h
  . cases h
    obtain ⟨a0,rfl⟩:=qMp hx;exact ⟨a0,0,[],rfl,.nil,by simp,by simp,by simp,.inr (.inl ⟨rfl,rfl⟩)⟩
  . rename_i id off len ver
    cases hc:H.cells? id off ver (len * esz) with
    | none=>simp [hc] at h
    | some l0 =>
      simp [hc] at h;obtain ⟨rfl,rfl⟩:=h;obtain ⟨r,_,_,hb,e⟩:=Heap.cells?_some hc;have hl:l0.length=len * esz:=by rw [e]; simp; omega
      obtain ⟨a',cap,rfl,hcap,hor⟩:=qDu hx;rcases hor with ⟨L,q1,_,rfl,q2⟩ | ⟨h0,rfl,⟨L,q1⟩,_⟩
      . obtain ⟨cs,k1,k2,k3,k4⟩:=hA.cells hc q1
        exact ⟨_,cap,cs,rfl,k1,hl,k2,fun v hv=>qFs (k3 v hv),.inr (.inr ⟨_,rfl,k4⟩)⟩
      . subst h0
        have:l0=[]:=List.eq_nil_of_length_eq_zero (by simpa using hl)
        subst this;exact ⟨a',0,[],rfl,.nil,by simp,by simp,by simp,.inr (.inl ⟨rfl,rfl⟩)⟩
  . cases h

theorem firstCells_run {esz n:Nat} {a':Option Addr} {cap:Nat} {cs:List Value} (hl:cs.length=n * esz)
    (h:(a'=none∧n=0)∨(cs=[]∧n=0)∨∃ ad,a'=some ad∧∀ (j:Nat) (c:Value),cs[j]?=some c→w.cell? (ad.add j)=some c) (k:Nat) :
    (Builtin.firstCells esz n (.slice a' k cap)).run P w=.ok cs.toArray w:=by
  rcases h with ⟨rfl,rfl⟩ | ⟨rfl,rfl⟩ | ⟨ad,rfl,h⟩
  . have:cs=[]:=List.eq_nil_of_length_eq_zero (by simpa using hl)
    subst this; exact run_firstCells_none w _ _ _ _
  . cases a' with
    | none=>exact run_firstCells_none w _ _ _ _
    | some ad=>exact run_firstCells_some w _ _ ad _ _ [] (by simp) (by simp)
  . exact run_firstCells_some w _ _ ad _ _ cs hl h

theorem app_room {t e:TypeId} {i:TypeInfo} (ht:P.underlying t=some (.slice e)) (hi:P.info? e=some i) (base:Option Addr) (len cap:Nat) {ax:Option Addr} {n capx:Nat} {cs:List Value} (hfit:len+n≤cap)
    (hf:∀ k,(Builtin.firstCells i.size n (.slice ax k capx)).run P w=.ok cs.toArray w) (ty:TypeId) :
    (Builtin.append_ #[t,t] ty #[.slice base len cap,.slice ax n capx]).run P w =
      ((match base with | some ad=>storeCells (ad.add (len * i.size)) cs | none=>pure ()).run P w).andThen fun _ w'=>.ok (.slice base (len+n) cap) w':=by
  cases base<;>simp [Builtin.append_,qCj ht,Go.sizeOf,typeInfo,hi,Builtin.lenOf,hfit,hf]

theorem take_len {r:Row} {off k:Nat} (h:off+k≤r.cells.length):((r.cells.drop off).take k).length=k:=by simp; omega

theorem c_app (hA:ARel m H w) {t e:TypeId} {z:List Value} (ht:P.underlying t=some (.slice e)) (hz:qFd P e=some z) (hs:qOe P e=true) {s x s' x' v:Value} (hsr:VRel m s s') (hxr:VRel m x x')
    (h:appV H z.length s x=some (v,H')) (ty:TypeId):Comes P m H w ((do pure (.value (← Builtin.append_ #[t,t] ty #[s',x'])):Sem Next)) v H':=by
  obtain ⟨i,zv,h1,h2,h3,h4,h5,h6⟩:=qEh hz;have hsm:=smallT_some hs h1;have hlim:lim=1048576:=rfl;have hzsz:zv.cells.size=i.size:=by rw [← h4,← h3]; simp
  unfold appV at h;cases he:qDz H z.length x with
  | none=>simp [he] at h
  | some p =>
    obtain ⟨n,new⟩:=p;simp only [he] at h;obtain ⟨ax,capx,cs,rfl,k1,k2,k3,k4,k5⟩:=qNf hA hxr he;have hcsl:cs.length=n * i.size:=by rw [← k1.length,k2,h4]
    have hf:=fun k=>firstCells_run (P:=P) (cap:=capx) hcsl k5 k
    have grown:∀ (olds:List Value) (len:Nat) (old:Nat),olds.length=len * i.size→len+n≤lim→
        (olds.toArray++cs.toArray++Builtin.zeroCells zv.cells (grownCap w (len+n) old e - (len+n))).size=grownCap w (len+n) old e * i.size:=by
      intro olds len old hol hll;have hge:=grownCap_ge w (len+n) old e;simp only [Array.size_append,List.size_toArray,size_zeroCells,hzsz,hol,hcsl,← Nat.add_mul]
      congr 1; omega
    have small:∀ len,len+n≤lim→(len+n) * i.bytes≤140737488355328:=by
      intro len hll;have:=Nat.mul_le_mul hll hsm.1;have h11:lim * lim=1099511627776:=by rw [hlim]
      omega
    have src:0 < n→∃ ad,ax=some ad∧∀ (j:Nat) (c:Value),cs[j]?=some c→w.cell? (ad.add j)=some c:=by
      intro hn;rcases k5 with ⟨_,e0⟩ | ⟨_,e0⟩ | e0
      . omega
      . omega
      . exact e0
    split at h
    . -- nil
      obtain ⟨a0,rfl⟩:=qMp hsr
      split at h
      . rename_i hn0
        cases h;subst hn0;have hr:=app_room (w:=w) ht h1 a0 0 0 (Nat.le_refl _) hf ty;have hcs:cs=[]:=List.eq_nil_of_length_eq_zero (by simpa using hcsl)
        subst hcs;exact ⟨_,.slice a0 0 0,w,m,by simp only [Sem.run_bind,hr]; cases a0<;>simp [storeCells],.inl rfl,.sliceNil _,hA,.refl _ _ _⟩
      . split at h
        . rename_i hn0 hnl
          cases h;obtain ⟨ad,rfl,hcell⟩:=src (by omega)
          have hr:(Builtin.append_ #[t,t] ty #[.slice a0 0 0,.slice (some ad) n capx]).run P w=.ok (.slice (some ⟨w.heap.size,0,none⟩) n (grownCap w n 0 e))
              (w.drew.alloc (.cells (cs.toArray++Builtin.zeroCells zv.cells (grownCap w n 0 e - n)) e)):=by
            cases a0 with
            | none =>
              have:=run_append_nil (P:=P) w t ty e i zv ht h1 h2 ad n capx cs hcsl hcell (by omega) (by omega) (by have:=small 0 (by omega); simp at this; omega)
              simpa using this
            | some ab =>
              have:=run_append_grow (P:=P) w t ty e i zv ht h1 h2 ab 0 0 [] (by simp) (by simp) ad n capx cs hcsl hcell (by omega) (by omega) (growslice_fits (by omega) (small 0 (by omega)))
              simpa using this
          have hA':ARel m H w.drew:=hA.drew _;have hg:=grown [] 0 0 (by simp) (by omega)
          simp only [Nat.zero_add] at hg;have e0:([]:List Value).toArray++cs.toArray=cs.toArray:=by simp
          rw [e0] at hg;obtain ⟨q1,q2⟩:=hA'.pushG (vs:=new) (arr:=cs.toArray++Builtin.zeroCells zv.cells (grownCap w n 0 e - n)) (fun j v hj=>by
            obtain ⟨c,z1,z2⟩:=k1.get j v hj;refine ⟨c,?_,z2⟩;have hlt:j < cs.length:=(List.getElem?_eq_some_iff.1 z1).1;rw [Array.getElem?_append_left (by simpa using hlt)]; simpa using z1) (by simp [k1.length]) k3 z.length e
          refine ⟨_,_,_,_,by simp only [Sem.run_bind,hr,Result.andThen_ok]; rfl,.inl rfl,?_,q1,?_⟩
          . have:=VRel.slice (off:=0) (len:=n) (cap:=grownCap w n 0 e) (Mu.put_same m H.length 0 ⟨w.drew.heap.size,0,(cs.toArray++Builtin.zeroCells zv.cells (grownCap w n 0 e - n)).size,z.length⟩) (grownCap_ge w n 0 e) (by rw [hg,h4]; simp) (grownCap_le_maxLen w n 0 e (by unfold maxLen; omega))
            simpa using this
          . exact (Kept.drew m H w _).trans q2
        . cases h
    . -- a row
      rename_i id off len ver
      split at h
      . rename_i r hr0
        split at h
        . rename_i hb
          cases h;obtain ⟨hb1,hb2,hb3,hb4⟩:=hb;obtain ⟨r1,r2⟩:=Heap.row?_some hr0;subst r2;obtain ⟨a',cap,rfl,hcap,hor⟩:=qDu hsr;obtain ⟨L0,arr,T,fz,g1,g2,g3,g4,g5,g6,g7⟩:=hA.row id r r1;rw [g7 hb1] at g2;have hes:L0.esz=i.size:=by rw [g3,hb2,h4]
          have hnone:m id (r.ver+1)=none:=by
            cases hm:m id (r.ver+1) with
            | none=>rfl
            | some L=>obtain ⟨q,hq,hle⟩:=hA.fresh id _ L hm; rw [r1] at hq; cases hq; omega
          have hon:∀ (L':Loc) (j v:Nat) (L1:Loc),m.put id (r.ver+1) L' j v=some L1→m j v=some L1∨(j=id∧v=r.ver+1):=by
            intro L' j v L1 hj;unfold Mu.put at hj
            split at hj
            . rename_i e1; exact .inr e1
            . exact .inl hj
          have htk:=take_len (k:=len * z.length) hb3
          by_cases hfit:len+n≤cap
          . have hr:=app_room (w:=w) ht h1 a' len cap hfit hf ty
            rcases hor with ⟨L,q1,_,rfl,q2⟩ | ⟨rfl,rfl,⟨L,q1⟩,_⟩
            . simp only at q1 q2
              rw [g1] at q1; cases q1;have hmul:len * i.size+n * i.size≤cap * i.size:=by rw [← Nat.add_mul]; exact Nat.mul_le_mul_right _ hfit
              rw [hes] at q2;have hst:=run_storeCells_at P L0.blk (L0.base+(off+len * i.size)) T cs 0 arr w g2 (by omega) k4
              simp only [Nat.add_zero] at hst;have hoa:L0.base+(off+len * i.size)+cs.length≤arr.toList.length:=by simp; omega
              obtain ⟨t1,t2⟩:=hA.turn (m':=m.put id (r.ver+1) ⟨L0.blk,L0.base+off,L0.room - off,z.length⟩) (r':=⟨(r.cells.drop off).take (len * z.length)++new,z.length,r.ver+1,true⟩)
                (L':=⟨L0.blk,L0.base+off,L0.room - off,z.length⟩) r1 g1 hb1 (w':=w.setRow L0.blk (over arr.toList (L0.base+(off+len * i.size)) cs).toArray) (setRow_heap w L0.blk arr _ T _ g2)
                (fun b _ hb=>setRow_other w L0.blk b _ hb) (by simp [World.setRow]) rfl rfl rfl (.inl rfl) (Mu.put_ext hnone) (Mu.put_same _ _ _ _) (hon _) (Nat.le_succ _) rfl rfl
                (by rw [List.size_toArray,qDj _ _ _ hoa]; simp; omega) (by show ((r.cells.drop off).take (len * z.length)++new).length≤L0.room - off; rw [List.length_append,htk,k2,h4]; omega) (fun j v hj=>by
                  have e:((over arr.toList (L0.base+(off+len * i.size)) cs).toArray)[L0.base+off+j]?=(over arr.toList (L0.base+(off+len * i.size)) cs)[L0.base+off+j]?:=by simp
                  rw [e,qEp _ _ _ hoa];rw [List.getElem?_append,htk,h4] at hj
                  split at hj
                  . rename_i hlt
                    rw [if_neg (by omega)]
                    rw [List.getElem?_take,if_pos hlt,List.getElem?_drop] at hj;obtain ⟨c,z1,z2,z3⟩:=g6 (off+j) v hj;exact ⟨c,by simpa [Nat.add_assoc] using z1,z2,z3⟩
                  . rename_i hlt
                    obtain ⟨c,z1,z2⟩:=k1.get _ v hj;have:=(List.getElem?_eq_some_iff.1 z1).1;rw [if_pos (by omega)]
                    exact ⟨c,by rw [show L0.base+off+j - (L0.base+(off+len * i.size))=j - len * i.size by omega]; exact z1,z2,k3 v (List.mem_of_getElem? hj)⟩)
              refine ⟨_,.slice (some ⟨L0.blk,L0.base+off,none⟩) (len+n) cap,_,_,?_,.inl rfl,?_,t1,t2⟩
              . have hst':(storeCells ((⟨L0.blk,L0.base+off,none⟩:Addr).add (len * i.size)) cs).run P w=.ok () (w.setRow L0.blk (over arr.toList (L0.base+(off+len * i.size)) cs).toArray):=by
                  rw [qEg,Nat.add_assoc]; exact hst
                simp only [Sem.run_bind,hr,hst',Result.andThen_ok]
                rfl
              . have:=VRel.slice (off:=0) (len:=len+n) (cap:=cap) (Mu.put_same m id (r.ver+1) ⟨L0.blk,L0.base+off,L0.room - off,z.length⟩) hfit (by simp only [Nat.zero_add,h4]; omega) (qKw hsr)
                simpa using this
            . have hn0:n=0:=by omega
              subst hn0;have hcs:cs=[]:=List.eq_nil_of_length_eq_zero (by simpa using hcsl)
              have hnew:new=[]:=List.eq_nil_of_length_eq_zero (by simpa using k2)
              subst hcs; subst hnew;obtain ⟨t1,t2⟩:=hA.turn (m':=m.put id (r.ver+1) ⟨L0.blk,L0.base,0,z.length⟩) (r':=⟨(r.cells.drop off).take (0 * z.length)++[],z.length,r.ver+1,true⟩)
                (L':=⟨L0.blk,L0.base,0,z.length⟩) r1 g1 hb1 (w':=w) g2 (fun b _ _=>rfl) (Nat.le_refl _) rfl rfl rfl (.inl rfl) (Mu.put_ext hnone) (Mu.put_same _ _ _ _) (hon _) (Nat.le_succ _) rfl rfl
                (by simp; omega) (by simp) (fun j v hj=>by simp at hj)
              refine ⟨_,.slice a' 0 0,w,_,?_,.inl rfl,.sliceEnd (Mu.put_same _ _ _ _) _,t1,t2⟩;simp only [Sem.run_bind,hr];cases a'<;>simp [storeCells]
          . have hn0:0 < n:=by omega
            obtain ⟨ad,rfl,hcell⟩:=src hn0;have fin:∀ (olds:List Value),olds.length=len * i.size→(∀ (j:Nat) (v:Value),((r.cells.drop off).take (len * z.length))[j]?=some v→∃ c,olds[j]?=some c∧VRel m v c∧cellLike v=true) →
                (Builtin.append_ #[t,t] ty #[.slice a' len cap,.slice (some ad) n capx]).run P w=.ok (.slice (some ⟨w.heap.size,0,none⟩) (len+n) (grownCap w (len+n) cap e))
                  (w.drew.alloc (.cells (olds.toArray++cs.toArray++Builtin.zeroCells zv.cells (grownCap w (len+n) cap e - (len+n))) e)) →
                Comes P m H w ((do pure (.value (← Builtin.append_ #[t,t] ty #[.slice a' len cap,.slice (some ad) n capx])):Sem Next)) (.slice (some ⟨id,0,none⟩) (len+n) (r.ver+1))
                  (H.set id (.row ⟨(r.cells.drop off).take (len * z.length)++new,z.length,r.ver+1,true⟩)):=by
              intro olds hol hov hrun;have hsz:=grown olds len cap hol hb4
              generalize hgc:grownCap w (len+n) cap e=gc at hrun hsz
              have hge:len+n≤gc:=by rw [← hgc]; exact grownCap_ge w _ _ e
              generalize harr:olds.toArray++cs.toArray++Builtin.zeroCells zv.cells (gc - (len+n))=ar at hrun hsz
              have hmul:len * i.size+n * i.size≤gc * i.size:=by rw [← Nat.add_mul]; exact Nat.mul_le_mul_right _ hge
              have hget:∀ j,j < len * i.size+n * i.size→ar[j]?=(olds++cs)[j]?:=by
                intro j hj;rw [← harr,Array.getElem?_append_left (by simp [hol,hcsl]; omega)]
                simp
              obtain ⟨t1,t2⟩:=hA.turn (m':=m.put id (r.ver+1) ⟨w.heap.size,0,gc * i.size,z.length⟩) (r':=⟨(r.cells.drop off).take (len * z.length)++new,z.length,r.ver+1,true⟩)
                (L':=⟨w.heap.size,0,gc * i.size,z.length⟩) r1 g1 hb1 (w':=w.drew.alloc (.cells ar e)) (cs':=ar) (T:=e) (heap_alloc_new w.drew _)
                (fun b hb _=>heap_alloc_old w.drew _ hb) (by simp) rfl rfl rfl (.inr (Nat.le_refl _)) (Mu.put_ext hnone) (Mu.put_same _ _ _ _) (hon _) (Nat.le_succ _) rfl rfl
                (by simp; omega) (by show ((r.cells.drop off).take (len * z.length)++new).length≤gc * i.size; rw [List.length_append,htk,k2,h4]; omega) (fun j v hj=>by
                  simp only [Nat.zero_add];rw [List.getElem?_append,htk] at hj
                  split at hj
                  . rename_i hlt
                    rw [h4] at hlt;obtain ⟨c,z1,z2,z3⟩:=hov j v hj;exact ⟨c,by rw [hget j (by omega),List.getElem?_append_left (by omega)]; exact z1,z2,z3⟩
                  . rename_i hlt
                    obtain ⟨c,z1,z2⟩:=k1.get _ v hj;rw [h4] at hlt z1;have:=(List.getElem?_eq_some_iff.1 z1).1;exact ⟨c,by rw [hget j (by omega),List.getElem?_append_right (by omega),hol]; exact z1,z2,k3 v (List.mem_of_getElem? hj)⟩)
              refine ⟨_,.slice (some ⟨w.heap.size,0,none⟩) (len+n) gc,_,_,by simp only [Sem.run_bind,hrun,Result.andThen_ok]; rfl,.inl rfl,?_,t1,t2⟩
              have:=VRel.slice (off:=0) (len:=len+n) (cap:=gc) (Mu.put_same m id (r.ver+1) ⟨w.heap.size,0,gc * i.size,z.length⟩) hge (by simp [h4]) (by rw [← hgc]; exact grownCap_le_maxLen w _ _ e (by unfold maxLen; omega))
              simpa using this
            rcases hor with ⟨L,q1,_,rfl,q2⟩ | ⟨rfl,rfl,⟨L,q1⟩,_⟩
            . simp only at q1 q2
              rw [g1] at q1; cases q1;have hce:H.cells? id off r.ver (len * z.length)=some ((r.cells.drop off).take (len * z.length)):=by
                unfold Heap.cells?; rw [hr0]; simp only; rw [if_pos hb3]
              obtain ⟨olds,o1,o2,o3,o4⟩:=hA.cells hce g1;have hol:olds.length=len * i.size:=by rw [← o1.length,htk,h4]
              exact fin olds hol (fun j v hj=>by obtain ⟨c,z1,z2⟩:=o1.get j v hj; exact ⟨c,z1,z2,o2 v (List.mem_of_getElem? hj)⟩)
                (run_append_grow (P:=P) w t ty e i zv ht h1 h2 _ len cap olds hol o4 ad n capx cs hcsl hcell (by omega) (by omega) (growslice_fits (by omega) (small len hb4)))
            . refine fin [] (by simp) (fun j v hj=>by simp at hj) ?_
              cases a' with
              | none =>
                have:=run_append_nil (P:=P) w t ty e i zv ht h1 h2 ad n capx cs hcsl hcell hn0 (by omega) (by have:=small 0 (by omega); simp at this; omega)
                simpa using this
              | some ab=>exact run_append_grow (P:=P) w t ty e i zv ht h1 h2 ab 0 0 [] (by simp) (by simp) ad n capx cs hcsl hcell (by omega) (by omega) (growslice_fits (by omega) (small 0 (by omega)))
        . cases h
      . cases h
    . cases h
theorem c_clear (hA:ARel m H w) {t e:TypeId} {z:List Value} (ht:P.underlying t=some (.slice e)) (hz:qFd P e=some z) {x x':Value} (hx:VRel m x x') (h:qIf H z x=some H') (ty:TypeId) :
    Comes P m H w ((do pure (.value (← Builtin.clear_ #[t] ty #[x'])):Sem Next)) (.tuple #[]) H':=by
  obtain ⟨i,zv,h1,h2,h3,h4,h5,h6⟩:=qEh hz;have hzsz:zv.cells.size=z.length:=by rw [← h3]; simp
  unfold qIf at h
  split at h
  . cases h
    obtain ⟨a0,rfl⟩:=qMp hx;exact ⟨_,.tuple #[],w,m,by cases a0<;>simp [Builtin.clear_,qCj ht],.inl rfl,.undef _,hA,.refl _ _ _⟩
  . rename_i id off len ver
    obtain ⟨a',cap,rfl,hcap,hor⟩:=qDu hx
    split at h
    . rename_i h0
      cases h; subst h0;refine ⟨_,.tuple #[],w,m,?_,.inl rfl,.undef _,hA,.refl _ _ _⟩;cases a'<;>simp [Builtin.clear_,qCj ht]
    . rename_i h0
      split at h
      . rename_i r hr0
        split at h
        . rename_i hb
          cases h;obtain ⟨r1,r2⟩:=Heap.row?_some hr0;subst r2;rcases hor with ⟨L,q1,_,rfl,q2⟩ | ⟨e0,_⟩
          . simp only at q1
            obtain ⟨w',s1,s2,s3⟩:=hA.stores (P:=P) r1 q1 hb.1 (qLx (qDv m h5) len) (qHz h5 len) (off:=off) (by rw [rep_length]; exact hb.2)
            refine ⟨_,.tuple #[],w',m,?_,.inl rfl,.undef _,s2,s3⟩;have hzc:(Builtin.zeroCells zv.cells len).toList=rep len z:=by rw [zeroCells_rep,h3]
            have hlen0:∃ k,len=k+1:=⟨len - 1,by omega⟩
            obtain ⟨k,rfl⟩:=hlen0;simp only [Builtin.clear_,Sem.run_bind,qCj ht,Result.andThen_ok,qIq h1 h2,hzc,s1,Sem.run_pure];simp [qCj ht,qIq h1 h2,hzc,s1]
          . omega
        . cases h
      . cases h
  . cases h

theorem c_copy (hA:ARel m H w) {t u e e':TypeId} {esz:Nat} (ht:P.underlying t=some (.slice e)) (hu:P.underlying u=some (.slice e')) (he:szOf P e=some esz) {d s d' s' v:Value} (hd:VRel m d d') (hsr:VRel m s s')
    (h:qSm H esz d s=some (v,H')) (ty:TypeId):Comes P m H w ((do pure (.value (← Builtin.copy_ #[t,u] ty #[d',s'])):Sem Next)) v H':=by
  unfold qSm at h
  split at h
  . rename_i _ p hel
    obtain ⟨n,new⟩:=p;cases h;obtain ⟨a0,rfl⟩:=qMp hd;obtain ⟨ax,capx,cs,rfl,k1,k2,k3,k4,k5⟩:=qNf hA hsr hel;have hf:(Builtin.firstCells esz 0 (.slice ax n capx)).run P w=.ok #[] w:=by
      cases ax with
      | none=>exact run_firstCells_none w _ _ _ _
      | some ad=>exact run_firstCells_some w _ _ ad _ _ [] (by simp) (by simp)
    exact ⟨_,.int .i64 0,w,m,by cases a0<;>simp [storeCells,Builtin.copy_,qCj ht,Builtin.lenOf,qCl he,hf,goInt],.inl rfl,.int _ _,hA,.refl _ _ _⟩
  . rename_i id off len ver n new hel
    obtain ⟨ax,capx,cs,rfl,k1,k2,k3,k4,k5⟩:=qNf hA hsr hel;obtain ⟨a',cap,rfl,hcap,hor⟩:=qDu hd;have hmin:n.min len=min n len:=rfl
    split at h
    . rename_i h0
      cases h;have hf:(Builtin.firstCells esz 0 (.slice ax n capx)).run P w=.ok #[] w:=by
        cases ax with
        | none=>exact run_firstCells_none w _ _ _ _
        | some ad=>exact run_firstCells_some w _ _ ad _ _ [] (by simp) (by simp)
      refine ⟨_,.int .i64 0,w,m,?_,.inl rfl,.int _ _,hA,.refl _ _ _⟩;simp only [Builtin.copy_,Sem.run_bind,List.getElem?_toArray,List.getElem?_cons_zero,List.getElem?_cons_succ,qCj ht,Result.andThen_ok,Builtin.lenOf,Sem.run_pure,qCl he,hmin,h0,hf];cases a'<;>simp [storeCells,goInt]
    . rename_i h0
      split at h
      . rename_i r hr0
        split at h
        . rename_i hb
          cases h;obtain ⟨r1,r2⟩:=Heap.row?_some hr0;subst r2;rcases hor with ⟨L,q1,_,rfl,q2⟩ | ⟨e0,_⟩
          . simp only at q1
            have hlt:(new.take (min n len * esz)).length=min n len * esz:=by simp; omega
            have hct:(cs.take (min n len * esz)).length=min n len * esz:=by rw [← (k1.take _).length,hlt]
            obtain ⟨w',s1,s2,s3⟩:=hA.stores (P:=P) r1 q1 hb.1 (k1.take (min n len * esz)) (fun v hv=>k3 v (List.mem_of_mem_take hv)) (off:=off) (by rw [hlt]; exact hb.2.1)
            have hsrc:∃ ad,ax=some ad∧∀ (j:Nat) (c:Value),cs[j]?=some c→w.cell? (ad.add j)=some c:=by
              rcases k5 with ⟨_,e0⟩ | ⟨_,e0⟩ | e0
              . omega
              . omega
              . exact e0
            obtain ⟨ad,rfl,hcell⟩:=hsrc;have hf:(Builtin.firstCells esz (min n len) (.slice (some ad) n capx)).run P w=.ok (cs.take (min n len * esz)).toArray w :=
              run_firstCells_some w _ _ ad _ _ _ hct (fun j c hj=>hcell j c (by rw [List.getElem?_take] at hj; split at hj; exact hj; cases hj))
            refine ⟨_,.int .i64 (min n len:Nat),w',m,?_,.inl rfl,.int _ _,s2,s3⟩;simp only [Builtin.copy_,Sem.run_bind,List.getElem?_toArray,List.getElem?_cons_zero,List.getElem?_cons_succ,qCj ht,Result.andThen_ok,Builtin.lenOf,Sem.run_pure,qCl he,hmin,hf,s1,goInt]
          . omega
        . cases h
      . cases h
  . cases h

set_option maxHeartbeats 1000000 in
theorem qNe (hA:ARel m H w) (hF:FRel m fr a) {o:Oper} {q:EOp} (hc:cE P o.op=some q) {v:Value} (h:eop q fr H=some (v,H')):Comes P m H w (execOp a.eval o) v H':=by
  obtain ⟨dst,op,ty,pos,after,guard⟩:=o;simp only at hc;cases op
  case alloc t =>
    simp only [cE] at hc
    split at hc
    . rename_i z n hz hn; cases hc; simp only [eop,Option.some.injEq,Prod.mk.injEq] at h; obtain ⟨rfl,rfl⟩:=h; exact qHo hA (c_new hz n)
    . cases hc
  case box t x =>
    simp only [cE] at hc; split at hc
    . rename_i hx
      split at hc
      . rename_i n e hn he
        cases hc;simp only [eop] at h
        split at h
        . rename_i vs hvs
          split at h
          . simp only [Option.some.injEq,Prod.mk.injEq] at h; obtain ⟨rfl,rfl⟩:=h; exact qHo hA (c_box (hF.ev hx) hvs e)
          . cases h
        . cases h
      . cases hc
    . cases hc
  case buildSlice t len parts =>
    simp only [cE] at hc
    split at hc
    . rename_i e ht
      split at hc
      . rename_i n z hz
        split at hc
        . rename_i hb
          cases hq:qEi (fun i=>some (i * n,n)) parts.toList with
          | none=>simp [hq] at hc
          | some qs =>
            simp [hq] at hc; subst hc;simp only [eop,Option.map_eq_some_iff,Prod.mk.injEq] at h;obtain ⟨r,hr,rfl,rfl⟩:=h;exact qHo hA (c_lit hF ht hz hb hq hr)
        . cases hc
      . cases hc
    . cases hc
  case makeSlice t l c =>
    simp only [cE] at hc; split at hc
    . rename_i hx
      simp only [Bool.and_eq_true] at hx
      split at hc
      . rename_i e ht
        split at hc
        . rename_i z hz
          split at hc
          . rename_i hs; cases hc
            simp only [eop,qIc] at h;have g1:=hF.ev hx.1;have g2:=hF.ev hx.2
            split at h
            . rename_i kl l kc c e1 e2
              rw [e1] at g1; rw [e2] at g2
              split at h
              . rename_i hb; simp only [Option.some.injEq,Prod.mk.injEq] at h; obtain ⟨rfl,rfl⟩:=h; exact qHo hA (c_make ht hz hs g1 g2 hb)
              . cases h
            . cases h
          . cases hc
        . cases hc
      . cases hc
    . cases hc
  case store t p x =>
    simp only [cE] at hc; split at hc
    . rename_i hx
      simp only [Bool.and_eq_true] at hx;cases hn:szOf P t with
      | none=>simp [hn] at hc
      | some n =>
        simp [hn] at hc; subst hc;simp only [eop,Option.map_eq_some_iff,Prod.mk.injEq] at h;obtain ⟨H1,hs,rfl,rfl⟩:=h;exact c_store hA hn (hF.ev hx.1) (hF.ev hx.2) hs
    . cases hc
  case call cl =>
    obtain ⟨callee,args,argTypes⟩:=cl;cases callee with
    | value f=>simp [cE] at hc
    | invoke r n=>simp [cE] at hc
    | builtin b =>
      cases b<;>simp only [cE] at hc<;>try (cases hc; done)
      case append =>
        split at hc
        . rename_i s x t u hx ht
          have hargs:args=#[s,x]:=by apply Array.ext'; simpa using hx
          have htys:argTypes=#[t,u]:=by apply Array.ext'; simpa using ht
          subst hargs; subst htys
          split at hc
          . rename_i hok
            simp only [Bool.and_eq_true,beq_iff_eq] at hok;obtain ⟨⟨o1,o2⟩,rfl⟩:=hok
            split at hc
            . rename_i e hu
              split at hc
              . rename_i z hz
                split at hc
                . rename_i hs; cases hc
                  have:=c_app hA hu hz hs (hF.ev o1) (hF.ev o2) h ty
                  simpa [Comes,execOp,resolve,invoke,builtin] using this
                . cases hc
              . cases hc
            . cases hc
          . cases hc
        . cases hc
      case clear =>
        split at hc
        . rename_i x t hx ht
          have hargs:args=#[x]:=by apply Array.ext'; simpa using hx
          have htys:argTypes=#[t]:=by apply Array.ext'; simpa using ht
          subst hargs; subst htys
          split at hc
          . rename_i hok
            split at hc
            . rename_i e hu
              cases hz:qFd P e with
              | none=>simp [hz] at hc
              | some z =>
                simp [hz] at hc; subst hc;simp only [eop,Option.map_eq_some_iff,Prod.mk.injEq] at h;obtain ⟨H1,hs,rfl,rfl⟩:=h;have:=c_clear hA hu hz (hF.ev hok) hs ty
                simpa [Comes,execOp,resolve,invoke,builtin] using this
            . cases hc
          . cases hc
        . cases hc
      case copy =>
        split at hc
        . rename_i s x t u hx ht
          have hargs:args=#[s,x]:=by apply Array.ext'; simpa using hx
          have htys:argTypes=#[t,u]:=by apply Array.ext'; simpa using ht
          subst hargs; subst htys
          split at hc
          . rename_i hok
            simp only [Bool.and_eq_true] at hok
            split at hc
            . rename_i e e' hu hu'
              cases hn:szOf P e with
              | none=>simp [hn] at hc
              | some n =>
                simp [hn] at hc; subst hc;have:=c_copy hA hu hu' hn (hF.ev hok.1) (hF.ev hok.2) h ty
                simpa [Comes,execOp,resolve,invoke,builtin] using this
            . cases hc
          . cases hc
        . cases hc
  all_goals (simp [cE] at hc)
end
end Am
