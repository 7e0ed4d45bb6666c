/- The pure machine: rows of one's own whose elements have more cells each; values of numbers alone; closed runs.
   No condition: plain lemmas. -/
import Derived.Test.YtdiggaadgjkgkaaGreatDoorZNPmMake2
namespace Pm
set_option linter.unusedSimpArgs false
set_option linter.unusedVariables false
open Go Am

theorem flat_set {α:Type} {F:α→List Value} {e:Nat} (h:∀ x,(F x).length=e):∀ (l:List α) (r:Nat) (x:α),r < l.length→setAll (l.flatMap F) (r * e) (F x)=(l.set r x).flatMap F:=by
  intro l r x hr;rw [qEv _ _ _ (by
    rw [qDs h,h];have:(r+1) * e≤l.length * e:=Nat.mul_le_mul_right _ hr;rw [Nat.succ_mul] at this; exact this)]
  unfold over;rw [qNc h,h,show r * e+e=(r+1) * e by rw [Nat.succ_mul],qGx h,List.set_eq_take_append_cons_drop,if_pos hr]
  simp
theorem flat_at {α:Type} {F:α→List Value} {e:Nat} (h:∀ x,(F x).length=e) (l:List α) (r j:Nat) (hj:j < e):(l.flatMap F)[r * e+j]?=(l[r]?).bind fun x=>(F x)[j]?:=by
  rw [← List.getElem?_drop,qGx h]
  by_cases hr:r < l.length
  . rw [List.drop_eq_getElem_cons hr,List.flatMap_cons,List.getElem?_append_left (by rw [h]; exact hj)]
    simp [hr]
  . rw [List.drop_eq_nil_of_le (by omega)]
    simp [hr]
theorem flat_seg {α:Type} {F:α→List Value} {e:Nat} (h:∀ x,(F x).length=e) (l:List α) (r:Nat) (x:α) (hx:l[r]?=some x):((l.flatMap F).drop (r * e)).take e=F x:=by
  obtain ⟨hr,hx⟩:=List.getElem?_eq_some_iff.1 hx;rw [qGx h,List.drop_eq_getElem_cons hr,List.flatMap_cons,hx,List.take_append,List.take_of_length_le (l:=F x) (by rw [h]; exact Nat.le_refl _),h]
  simp

def RowM {α:Type} (e:Nat) (F:α→List Value) (H:Heap) (k ver esz:Nat) (l:List α):Prop:=H[k]?=some (.row ⟨l.flatMap F,esz,ver,true⟩)
section
variable {α : Type} {F : α → List Value} {e esz : Nat} {H : Heap} {k ver : Nat} {l : List α}
theorem RowM.lt (h:RowM e F H k ver esz l):k < H.length:=(List.getElem?_eq_some_iff.1 h).1
theorem RowM.cells [hF:Flat F e] (h:RowM e F H k ver esz l) {r:Nat} {x:α} (hx:l[r]?=some x):H.cells? k (r * e) ver e=some (F x):=by
  simp only [RowM] at h;have hr:=(List.getElem?_eq_some_iff.1 hx).1;have hb:r * e+e≤(l.flatMap F).length:=by
    rw [qDs hF.len];have:(r+1) * e≤l.length * e:=Nat.mul_le_mul_right _ hr;rw [Nat.succ_mul] at this; exact this
  simp only [Heap.cells?,Heap.row?,h,if_true];rw [if_pos hb,flat_seg hF.len l r x hx]
theorem RowM.cell [hF:Flat F e] (h:RowM e F H k ver esz l) {r j:Nat} (hj:j < e):H.cell? k (r * e+j) ver=(l[r]?).bind fun x=>(F x)[j]?:=by
  simp only [RowM] at h;simp only [Heap.cell?,Heap.row?,h,if_true];exact flat_at hF.len l r j hj
theorem RowM.all [hF:Flat F e] (h:RowM e F H k ver esz l) {n:Nat} (hn:n=l.length * e):H.cells? k 0 ver n=some (l.flatMap F):=by
  simp only [RowM] at h;subst hn;simp only [Heap.cells?,Heap.row?,h,if_true,Nat.zero_add,qDs hF.len];rw [if_pos (Nat.le_refl _),List.drop_zero,List.take_of_length_le (by rw [qDs hF.len]; exact Nat.le_refl _)]
theorem RowM.store [hF:Flat F e] (h:RowM e F H k ver esz l) {r:Nat} (hr:r < l.length) {x:α} (hx:(F x).all cellLike=true) :
    ∃ H',qBu H e (.pointer (some ⟨k,r * e,some ver⟩)) (.agg (F x).toArray)=some H'∧RowM e F H' k ver esz (l.set r x)∧Same H k H':=by
  have hlt:=h.lt;refine ⟨H.set k (.row ⟨(l.set r x).flatMap F,esz,ver,true⟩),?_,by simp [RowM,hlt],fun j hj=>by rw [List.getElem?_set_ne (Ne.symm hj)],by simp⟩
  simp only [RowM] at h;have hb:r * e+e≤(l.flatMap F).length:=by
    rw [qDs hF.len];have:(r+1) * e≤l.length * e:=Nat.mul_le_mul_right _ hr;rw [Nat.succ_mul] at this; exact this
  simp only [qBu,qAy,hx,if_true,Heap.row?,h];rw [if_pos ⟨trivial,hF.len x,by rw [hF.len]; exact hb⟩,flat_set hF.len l r x hr]
theorem RowM.keep {H':Heap} (h:RowM e F H k ver esz l) (h':H'[k]?=H[k]?):RowM e F H' k ver esz l:=by unfold RowM; rw [h']; exact h
end

def RowV (H:Heap) (k ver esz:Nat) (cs:List Value):Prop:=H[k]?=some (.row ⟨cs,esz,ver,true⟩)
section
variable {H H' : Heap} {k ver esz n : Nat} {z cs : List Value}
theorem RowV.lt (h:RowV H k ver esz z):k < H.length:=(List.getElem?_eq_some_iff.1 h).1
theorem RowV.cells (h:RowV H k ver esz z) (hn:n=z.length):H.cells? k 0 ver n=some z:=by
  simp only [RowV] at h;subst hn;simp only [Heap.cells?,Heap.row?,h,if_true,Nat.zero_add];rw [if_pos (Nat.le_refl _),List.drop_zero,List.take_of_length_le (Nat.le_refl _)]
theorem RowV.cell (h:RowV H k ver esz z) (j:Nat):H.cell? k j ver=z[j]?:=by
  simp only [RowV] at h;simp only [Heap.cell?,Heap.row?,h,if_true]
theorem RowV.store (h:RowV H k ver esz z) (hz:z.length=n) (hc:cs.length=n) (hl:cs.all cellLike=true) :
    ∃ H',qBu H n (.pointer (some ⟨k,0,some ver⟩)) (.agg cs.toArray)=some H'∧RowV H' k ver esz cs∧Same H k H':=by
  have hlt:=h.lt;refine ⟨H.set k (.row ⟨cs,esz,ver,true⟩),?_,by simp [RowV,hlt],fun j hj=>by rw [List.getElem?_set_ne (Ne.symm hj)],by simp⟩
  simp only [RowV] at h;have h1:setAll z 0 cs=cs:=by
    rw [qEv _ _ _ (by omega)]
    unfold over;rw [List.take_zero,List.nil_append,List.drop_eq_nil_of_le (by omega),List.append_nil]
  simp only [qBu,qAy,hl,if_true,Heap.row?,h];rw [if_pos ⟨trivial,hc,by omega⟩,h1]
theorem RowV.set (h:RowV H k ver esz z) {j:Nat} (hj:j < z.length) {v:Value} (hv:cellsOf v=some [v]) :
    ∃ H',qBu H 1 (.pointer (some ⟨k,j,some ver⟩)) v=some H'∧RowV H' k ver esz (z.set j v)∧Same H k H':=by
  have hlt:=h.lt;refine ⟨H.set k (.row ⟨z.set j v,esz,ver,true⟩),?_,by simp [RowV,hlt],fun i hi=>by rw [List.getElem?_set_ne (Ne.symm hi)],by simp⟩
  simp only [RowV] at h;simp only [qBu,hv,Heap.row?,h,if_true];rw [if_pos ⟨trivial,rfl,by simp; omega⟩]
  simp
theorem RowV.keep (h:RowV H k ver esz z) (h':H'[k]?=H[k]?):RowV H' k ver esz z:=by unfold RowV; rw [h']; exact h
theorem RowV.new {h:Heap}:RowV (Am.newRow h z esz) h.length 0 esz z:=by simp [RowV,Am.newRow]
theorem RowV.old {vs:List Value} {e:Nat} (h:RowV H k ver esz z):RowV (Am.newRow H vs e) k ver esz z:=h.keep (by unfold Am.newRow; rw [List.getElem?_append_left h.lt])
theorem RowV.same {j:Nat} (h:RowV H k ver esz z) (hs:Same H j H') (hj:k≠j):RowV H' k ver esz z:=h.keep (hs.1 k hj)
end
theorem Same.keeps {H H':Heap} {k b:Nat} (h:Same H k H') (hb:b≤k):qBs b H H':=⟨by rw [h.2]; exact Nat.le_refl _,fun i hi=>h.1 i (by omega)⟩
theorem qPa {h:Heap} {vs:List Value} {e:Nat}:(Am.newRow h vs e).length=h.length+1:=by simp [Am.newRow]

theorem Inl.self {b:Nat} {h:Heap} {cs:List Value} (hc:cs.all qCf=true):Inl b h (.agg cs.toArray) (.agg cs.toArray) :=
  .agg rfl fun i x y hx hy=>by
    rw [hx] at hy; cases hy;exact .cell (List.all_eq_true.1 hc x (List.mem_of_getElem? (by simpa using hx)))
theorem Pure.agg {P:Program} {f:FuncId} {args:List Value} {cs:List Value} (hc:cs.all qCf=true) (k:∀ h,qBl P f args h fun v h'=>(∃ g,h'=h++g)∧v=.agg cs.toArray):Pure P f args (.agg cs.toArray) :=
  .of fun h=>(k h).mono fun v h' ⟨h1,h2⟩=>⟨h1,by rw [h2]; exact .self hc⟩
theorem Pure.one {P:Program} {f:FuncId} {args:List Value} {p:Value} (hc:qCf p=true) (k:∀ h,qBl P f args h fun v h'=>(∃ g,h'=h++g)∧v=p):Pure P f args p :=
  .of fun h=>(k h).mono fun v h' ⟨h1,h2⟩=>⟨h1,by rw [h2]; exact .cell hc⟩
/-! ### Closed runs -/
def qSc:Value→Value→Bool
  | .bool a,.bool b=>a == b
  | .int k a,.int k' b=>decide (k=k') && decide (a=b)
  | .string a,.string b=>a.data.toList == b.data.toList
  | _,_=>false
theorem eqCell_eq {a b:Value} (h:qSc a b=true):a=b∧qDe b=true:=by
  unfold qSc at h
  split at h
  . simp at h; exact ⟨by rw [h],rfl⟩
  . simp at h; exact ⟨by rw [h.1,h.2],rfl⟩
  . rename_i a b
    refine ⟨?_,rfl⟩;have h:a.data.toList=b.data.toList:=by simpa using h
    obtain ⟨a⟩:=a;obtain ⟨b⟩:=b;have:=Array.toList_inj.1 h;simp only at this;rw [this]
  . cases h
def qPh:List Value→List Value→Bool
  | [],[]=>true
  | a :: xs,b :: bs=>qSc a b && qPh xs bs
  | _,_=>false
theorem eqCells_eq:∀ {xs bs:List Value},qPh xs bs=true→xs=bs∧bs.all qDe=true
  | [],[],_=>⟨rfl,rfl⟩
  | [],_ :: _,h=>by cases h
  | _ :: _,[],h=>by cases h
  | a :: xs,b :: bs,h=>by
    simp only [qPh,Bool.and_eq_true] at h;obtain ⟨h1,h2⟩:=eqCell_eq h.1;obtain ⟨h3,h4⟩:=eqCells_eq h.2;exact ⟨by rw [h1,h3],by simp [h2,h4]⟩
def qUf:Option (Value×Heap)→Value→Bool
  | some (.agg a,_),.agg b=>qPh a.toList b.toList
  | some (a,_),b=>qSc a b
  | _,_=>false
theorem eqRes_eq {x:Option (Value×Heap)} {v:Value} (h:qUf x v=true):∃ H,x=some (v,H)∧qEt v=true:=by
  unfold qUf at h
  split at h
  . rename_i a H b
    obtain ⟨h1,h2⟩:=eqCells_eq h;have:a=b:=Array.toList_inj.1 h1;subst this;exact ⟨_,rfl,h2⟩
  . rename_i a H b _
    obtain ⟨h1,h2⟩:=eqCell_eq h;subst h1;refine ⟨_,rfl,?_⟩;unfold qEt
    split
    . simp [qDe] at h2
    . simp [qDe] at h2
    . exact h2
  . cases h
theorem closed_run {P:Program} (hP:P.follows .mixedOrders=true) {tab:FuncId→Option AFn} (ht:qOb P tab) {fn:FuncId→Bool} (hf:∀ f,fn f=true→qCg P f=true) {f:FuncId} {k n:Nat} {v:Value} (hr:qUf (qTt tab fn k n f [] []) v=true):Pure P f [] v:=by
  intro h;obtain ⟨H0,e,hp⟩:=eqRes_eq hr;refine .ofA fun m H vals hPr hrs=>?_
  cases rs_nil hrs;refine qCq.aside ((qOi hP ht hf k n _ _ _ _ _ e).mono fun v' _ ⟨e1,_⟩=>?_)
  subst e1;exact ⟨hp,⟨fun _ _=>rfl,Nat.le_refl _⟩,fun _=>⟨_,⟨rfl,rfl⟩,qOo hp⟩⟩
end Pm

/- The pure machine: a function's own few boxes, as a short list behind the heap that it found: all by simp. Rounds of a known number.
   No condition: plain lemmas. -/
namespace Pm
set_option linter.unusedSimpArgs false
set_option linter.unusedVariables false
open Go Am

def bx (cs:List Value) (e:Nat):Ob:=.row ⟨cs,e,0,true⟩
def qSn (o:Option Ob) (off:Nat):Option Value:=match o with | some (.row r)=>if r.ver=0 then r.cells[off]? else none | _=>none
def qOh (o:Option Ob) (off n:Nat):Option (List Value):=match o with | some (.row r)=>if r.ver=0 then (if off+n≤r.cells.length then some ((r.cells.drop off).take n) else none) else none | _=>none
def qJy (o:Option Ob) (off n:Nat) (vs:List Value):Option Ob:=match o with | some (.row r)=>if r.ver=0 then (if r.rw=true∧vs.length=n∧off+vs.length≤r.cells.length then some (.row { r with cells:=setAll r.cells off vs }) else none) else none | _=>none
section
variable {h : Heap} {rs : List Ob} {cs vs : List Value} {e off n j : Nat} {v : Value}
theorem qAk:Am.newRow h cs e=h++[bx cs e]:=rfl
theorem qAn {r:Ob}:(h++rs)++[r]=h++(rs++[r]):=List.append_assoc ..
theorem qAl:(h++rs).length=h.length+rs.length:=List.length_append
theorem qAh:(h++rs).cell? (h.length+j) off 0=qSn rs[j]? off:=by
  simp only [Heap.cell?,Heap.row?,qSn,List.getElem?_append_right (Nat.le_add_right h.length j),Nat.add_sub_cancel_left];cases rs[j]? with
  | none=>rfl
  | some o=>cases o with
    | row r=>by_cases hr:r.ver=0<;>simp [hr]
    | _=>rfl
theorem qAg:(h++rs).cell? h.length off 0=qSn rs[0]? off:=qAh (j:=0)
theorem qAe:(h++rs).cells? (h.length+j) off 0 n=qOh rs[j]? off n:=by
  simp only [Heap.cells?,Heap.row?,qOh,List.getElem?_append_right (Nat.le_add_right h.length j),Nat.add_sub_cancel_left];cases rs[j]? with
  | none=>rfl
  | some o=>cases o with
    | row r=>by_cases hr:r.ver=0<;>simp [hr]
    | _=>rfl
theorem qAb:(h++rs).cells? h.length off 0 n=qOh rs[0]? off n:=qAe (j:=0)
theorem qAd:qBu (h++rs) n (.pointer (some ⟨h.length+j,off,some 0⟩)) v=match cellsOf v with | some vs=>(qJy rs[j]? off n vs).map fun r=>h++rs.set j r | none=>none:=by
  cases hv:cellsOf v with
  | none=>simp [qBu,hv]
  | some vs =>
    simp only [qBu,hv,Heap.row?,qJy,List.getElem?_append_right (Nat.le_add_right h.length j),Nat.add_sub_cancel_left];cases hr:rs[j]? with
    | none=>rfl
    | some o=>cases o with
      | row r =>
        by_cases hr:r.ver=0
        . simp only [hr,if_true]
          split
          . simp only [Option.map_some]
            rw [List.set_append_right _ _ (Nat.le_add_right _ _),Nat.add_sub_cancel_left]
          . rfl
        . simp only [hr,if_false,Option.map_none]
      | _=>rfl
theorem qAa:qBu (h++rs) n (.pointer (some ⟨h.length,off,some 0⟩)) v=match cellsOf v with | some vs=>(qJy rs[0]? off n vs).map fun r=>h++rs.set 0 r | none=>none:=qAd (j:=0)
theorem qAi:qSn (some (bx cs e)) off=cs[off]?:=by simp [qSn,bx]
theorem qAf:qOh (some (bx cs e)) off n=if off+n≤cs.length then some ((cs.drop off).take n) else none:=by simp [qOh,bx]
theorem qAc:qJy (some (bx cs e)) off n vs=if vs.length=n∧off+vs.length≤cs.length then some (bx (setAll cs off vs) e) else none:=by simp [qJy,bx]
end
theorem qAm {h:Heap} {rs:List Ob}:∃ g,h++rs=h++g:=⟨rs,rfl⟩
theorem qAj {x k:Nat}:((x:Int)=(no_index (OfNat.ofNat k:Int)))↔x=(OfNat.ofNat k:Nat):=by
  show (x:Int)=((k:Nat):Int)↔x=k;omega
theorem qAr:IntKind.i64.wrap 1=1:=by decide +kernel
theorem qAq:IntKind.i64.wrap 2=2:=by decide +kernel
theorem qAp:IntKind.i64.wrap 3=3:=by decide +kernel
theorem qAo:IntKind.i64.wrap 4=4:=by decide +kernel
theorem qSx {P:Program} {a:AC} {Q:Exit→Fr→Heap→Prop} {fr:Fr} {h:Heap} (n:Nat) (k:rounds (pwp P a) Q n fr h):pwp P (.loop a) Q fr h:=⟨n,k⟩
theorem qKt {P:Program} {a:AC} {Q:Exit→Fr→Heap→Prop} {fr:Fr} {h:Heap} {n:Nat}:rounds (pwp P a) Q (n+1) fr h=pwp P a (SeqK (rounds (pwp P a) Q n) Q) fr h:=rfl
end Pm
