/- Rows of at most two numbers: sorted, and like ones left out.
   No condition: plain lemmas. -/
import Derived.Test.YtdiggaadgjkgkaaGreatDoorZNPmCfgC
import Derived.Test.YtdiggaadgjkgkaaGreatDoorZNPmCfg2
import Derived.Test.YtdiggaadgjkgkaaGreatDoorZNPmLaw
namespace Pm
set_option linter.unusedSimpArgs false
set_option linter.unusedVariables false
open Go Am
open Go.Proofs.Tryz (prog)

def qDd {α:Type} (f:α→Value) (H:Heap) (k ver:Nat) (l:List α):Prop:=H[k]?=some (.row ⟨l.map f,1,ver,true⟩)
section
variable {α : Type} {f : α → Value} {H : Heap} {k ver : Nat} {l : List α}
theorem qDd.cell (h:qDd f H k ver l) (i:Nat):H.cell? k i ver=(l[i]?).map f:=by simp [qDd] at h; simp [Heap.cell?,Heap.row?,h]
theorem qDd.lt (h:qDd f H k ver l):k < H.length:=(List.getElem?_eq_some_iff.1 h).1
theorem qDd.store (h:qDd f H k ver l) {i:Nat} (hi:i < l.length) {x:α} (hx:cellsOf (f x)=some [f x]) :
    ∃ H',qBu H 1 (.pointer (some ⟨k,i,some ver⟩)) (f x)=some H'∧qDd f H' k ver (l.set i x)∧(∀ j,j≠k→H'[j]?=H[j]?)∧H'.length=H.length:=by
  have hlt:=h.lt;refine ⟨H.set k (.row ⟨(l.set i x).map f,1,ver,true⟩),?_,by simp [qDd,hlt],fun j hj=>by rw [List.getElem?_set_ne (Ne.symm hj)],by simp⟩
  simp only [qDd] at h;have hi':i+1≤l.length:=hi;simp [qBu,hx,Heap.row?,h,hi',setAll]
end

def Same (H:Heap) (k:Nat) (H':Heap):Prop:=(∀ j,j≠k→H'[j]?=H[j]?)∧H'.length=H.length
theorem Same.refl (H:Heap) (k:Nat):Same H k H:=⟨fun _ _=>rfl,rfl⟩
theorem Same.trans {H H1 H2:Heap} {k:Nat} (h:Same H k H1) (h':Same H1 k H2):Same H k H2:=⟨fun j hj=>by rw [h'.1 j hj,h.1 j hj],h'.2.trans h.2⟩

section
variable {h : Heap} {K : Value → Heap → Prop}
theorem isNaN_call {x:Int} (hk:K (.bool false) h):qBl prog 136 [vI x] h K:=by
  refine call_isNaNI (by simp) ?_
  simp [c_isNaNI,qAs,qAu,resV,retV];exact hk
theorem Less_call {x y:Int} (hk:K (.bool (decide (x < y))) h):qBl prog 122 [vI x,vI y] h K:=by
  refine call_LessI (by simp) ?_
  simp [c_LessI];refine isNaN_call ?_;simp [callK_def,qAs,qAu,resV,retV];exact hk

def srt:List Int→List Int
  | [x,y]=>if y < x then [y,x] else [x,y]
  | l=>l
theorem srt_len (l:List Int):(srt l).length=l.length:=by
  unfold srt
  split
  . split<;>rfl
  . rfl

theorem ins_call {k ver:Nat} {l:List Int} (hl:l.length≤2) (hr:qDd vI h k ver l) (hk:∀ H' u,qDd vI H' k ver (srt l)→Same h k H'→K u H') :
    qBl prog 116 [.slice (some ⟨k,0,none⟩) l.length ver,vI 0,vI l.length] h K:=by
  refine call_insI (by simp) ?_
  have w1:IntKind.i64.wrap 1=1:=by decide
  have w2:IntKind.i64.wrap 2=2:=by decide
  have w0:IntKind.i64.wrap 0=0:=by decide
  match l,hl,hr,hk with
  | [],_,hr,hk =>
    simp [qSd,w1];refine qEb (σ:=Unit) (fun _ fr h'=>h'=h∧fr 6=vI 1∧fr 2=vI 0) (fun _=>0) ?_ () ⟨rfl,by simp,by simp⟩
    rintro _ fr h' ⟨rfl,h6,h2⟩;simp [h6,h2,qAs,qAu,retV];exact hk _ _ hr (.refl _ _)
  | [x],_,hr,hk =>
    simp [qSd,w1];refine qEb (σ:=Unit) (fun _ fr h'=>h'=h∧fr 6=vI 1∧fr 2=vI 1) (fun _=>0) ?_ () ⟨rfl,by simp,by simp⟩
    rintro _ fr h' ⟨rfl,h6,h2⟩;simp [h6,h2,qAs,qAu,retV];exact hk _ _ hr (.refl _ _)
  | [x,y],_,hr,hk =>
    simp [qSd,w1];refine qEb (σ:=Bool) (fun b fr h'=>fr 0=.slice (some ⟨k,0,none⟩) 2 ver∧fr 1=vI 0∧fr 2=vI 2∧(match b with | false=>h'=h∧fr 6=vI 1 | true=>Same h k h'∧qDd vI h' k ver (srt [x,y])∧fr 6=vI 2)) (fun b=>if b then 0 else 1) ?_ false ⟨by simp,by simp,by simp,rfl,by simp⟩
    rintro b fr h' ⟨h0,h1,h2,hb⟩;cases b with
    | true =>
      obtain ⟨q1,q2,q3⟩:=hb;simp [h2,q3,qAs,qAu,retV];exact hk _ _ q2 q1
    | false =>
      obtain ⟨rfl,h6⟩:=hb;simp [h0,h1,h2,h6];refine qEb (σ:=Bool) (fun b fr h''=>fr 0=.slice (some ⟨k,0,none⟩) 2 ver∧fr 1=vI 0∧fr 2=vI 2∧fr 6=vI 1∧(match b with | false=>h''=h'∧fr 7=vI 1 | true=>srt [x,y]=[y,x]∧Same h' k h''∧qDd vI h'' k ver [y,x]∧fr 7=vI 0)) (fun b=>if b then 0 else 1) ?_ false ⟨by simp [h0],by simp [h1],by simp [h2],by simp [h6],rfl,by simp⟩
      clear h0 h1 h2 h6 fr;rintro b fr h'' ⟨h0,h1,h2,h6,hb⟩;cases b with
      | true =>
        obtain ⟨q0,q1,q2,q3⟩:=hb;simp [h0,h1,h2,h6,q3,w2];exact .go true (by simp) ⟨by simp [h0],by simp [h1],by simp [h2],q1,by rw [q0]; exact q2,by simp⟩
      | false =>
        obtain ⟨rfl,h7⟩:=hb;simp [h0,h1,h2,h6,h7,w0,hr.cell];refine Less_call ?_
        by_cases hyx:y < x
        . obtain ⟨H1,s1,r1,e1,l1⟩:=hr.store (i:=1) (by simp) (x:=x) rfl
          obtain ⟨H2,s2,r2,e2,l2⟩:=r1.store (i:=0) (by simp) (x:=y) rfl
          simp [callK_def,h0,h1,h2,h6,h7,w0,hr.cell,hyx,s1,s2];exact .go true (by simp) ⟨by simp [h0],by simp [h1],by simp [h2],by simp [h6],by simp [srt,hyx],Same.trans ⟨e1,l1⟩ ⟨e2,l2⟩,r2,by simp⟩
        . simp [callK_def,h0,h1,h2,h6,h7,w0,hr.cell,hyx,w2]
          exact .go true (by simp) ⟨by simp [h0],by simp [h1],by simp [h2],.refl _ _,by simpa [srt,hyx] using hr,by simp⟩
theorem pdq_call {k ver:Nat} {n:Int} {l:List Int} (hl:l.length≤2) (hr:qDd vI h k ver l) (hk:∀ H' u,qDd vI H' k ver (srt l)→Same h k H'→K u H') :
    qBl prog 84 [.slice (some ⟨k,0,none⟩) l.length ver,vI 0,vI l.length,vI n] h K:=by
  refine call_pdqI (by simp) ?_
  have w:IntKind.i64.wrap (l.length:Int)=l.length:=wrap_i64 (by omega) (by omega)
  have h12:(l.length:Int)≤12:=by omega
  simp [c_pdqI];refine qEb (σ:=Unit) (fun _ fr h'=>h'=h∧fr 0=.slice (some ⟨k,0,none⟩) l.length ver∧fr 1=vI 0∧fr 2=vI l.length) (fun _=>0) ?_ () ⟨rfl,by simp,by simp,by simp⟩
  rintro _ fr h' ⟨rfl,h0,h1,h2⟩;simp [h0,h1,h2,w,h12];refine ins_call hl hr fun H' u r1 r2=>?_
  simp [callK_def,qAs,qAu,retV];exact hk _ _ r1 r2
theorem len8_at {n:Nat} (hn:n < 256):∃ b:UInt8,qPb[n]?=some b:=by
  have hs:qPb.size=256:=by decide +kernel
  exact ⟨_,getElem?_pos qPb n (by rw [hs]; exact hn)⟩
theorem len64_call {n:Nat} (hn:n≤255) (hk:∀ m:Int,K (vI m) h):qBl prog 126 [vU n] h K:=by
  refine call_Len64 (by simp) ?_
  have h1:¬ (4294967296:Int)≤n:=by omega
  have h2:¬ (65536:Int)≤n:=by omega
  have h3:¬ (256:Int)≤n:=by omega
  have w8:IntKind.u8.wrap (n:Int)=(n:Int):=qGk (by omega) (by omega)
  simp [c_Len64,h1,h2,h3,w8];obtain ⟨b,hb⟩:=len8_at (n:=n) (by omega)
  simp [hb,qAs,qAu,resV,retV];exact hk _
theorem Sort_call {k ver:Nat} {l:List Int} (hl:l.length≤2) (hr:qDd vI h k ver l) (hk:∀ H' u,qDd vI H' k ver (srt l)→Same h k H'→K u H') :
    qBl prog 42 [.slice (some ⟨k,0,none⟩) l.length ver] h K:=by
  refine call_SortI (by simp) ?_
  have w:IntKind.u64.wrap (l.length:Int)=(l.length:Int):=wrap_u64 (by omega) (by omega)
  simp [c_SortI,w];have hcall:∀ K:Value→Heap→Prop,(∀ m:Int,K (vI m) h)→qBl prog 85 [vU l.length] h K:=by
    intro K hK;refine call_LenU (by simp) ?_
    simp [c_LenU];refine len64_call (by omega) fun m=>?_
    simp [callK_def,qAs,qAu,resV,retV];exact hK m
  refine hcall _ fun m=>?_
  simp [callK_def];refine pdq_call hl hr fun H' u r1 r2=>?_
  simp [callK_def,qAs,qAu,retV];exact hk _ _ r1 r2

def qGz:List Int→List Int
  | [x,y]=>if x=y then [x] else [x,y]
  | l=>l
theorem Compact_call {k ver:Nat} {l:List Int} (h0:0 < l.length) (hl:l.length≤2) (hr:qDd vI h k ver l) (hk:∀ (H':Heap) (l':List Int),qDd vI H' k ver l'→Same h k H'→l'.take (qGz l).length=qGz l→(qGz l).length≤l'.length→K (.slice (some ⟨k,0,none⟩) (qGz l).length ver) H') :
    qBl prog 43 [.slice (some ⟨k,0,none⟩) l.length ver] h K:=by
  refine call_CompactI (by simp) ?_
  have w0:IntKind.i64.wrap 0=0:=by decide
  have w2:IntKind.i64.wrap 2=2:=by decide
  match l,h0,hl,hr,hk with
  | [x],_,_,hr,hk =>
    simp [qLj,qAs,qAu,resV,retV];exact hk _ _ hr (.refl _ _) rfl (Nat.le_refl _)
  | [x,y],_,_,hr,hk =>
    simp [qLj];refine qEb (σ:=Bool) (fun b fr h'=>h'=h∧fr 0=.slice (some ⟨k,0,none⟩) 2 ver∧(if b then qGz [x,y]=[x,y]∧fr 3=vI 2 else fr 3=vI 1)) (fun b=>if b then 0 else 1) ?_ false ⟨rfl,by simp,by simp⟩
    rintro b fr h' ⟨rfl,h0,hb⟩;cases b with
    | true =>
      obtain ⟨q1,q2⟩:=hb;simp [h0,q2,qAs,qAu,resV,retV];rw [q1] at hk;exact hk _ _ hr (.refl _ _) rfl (Nat.le_refl _)
    | false =>
      have h3:fr 3=vI 1:=by simpa using hb
      by_cases hxy:x=y
      . subst hxy
        simp [h0,h3,w0,hr.cell,qBi];have hr2:h'.row? k ver=some ⟨[x,x].map vI,1,ver,true⟩:=by simp only [qDd] at hr; simp [Heap.row?,hr]
        simp [hr2];refine qEb (σ:=Unit) (fun _ fr h''=>h''=h'∧fr 0=.slice (some ⟨k,0,none⟩) 2 ver∧fr 3=vI 1∧fr 5=vI 1∧fr 4=.slice (some ⟨k,1,none⟩) 1 ver) (fun _=>0) ?_ () ⟨rfl,by simp [h0],by simp [h3],by simp,by simp⟩
        clear h0 h3 hb fr;rintro _ fr h'' ⟨rfl,h0,h3,h5,h4⟩;obtain ⟨H2,hst,r2,s2⟩:∃ H2,qIf h'' [.int .i64 0] (.slice (some ⟨k,1,none⟩) 1 ver)=some H2∧qDd vI H2 k ver [x,0]∧Same h'' k H2 :=
          ⟨h''.set k (.row ⟨[x,0].map vI,1,ver,true⟩),by simp [qIf,hr2,rep],by simp [qDd,hr.lt],fun j hj=>by rw [List.getElem?_set_ne (Ne.symm hj)],by simp⟩
        have hr3:H2.row? k ver=some ⟨[x,0].map vI,1,ver,true⟩:=by simp only [qDd] at r2; simp [Heap.row?,r2]
        have e:qGz [x,x]=[x]:=by simp [qGz]
        rw [e] at hk;simp [h0,h3,h4,h5,qBi,hr2,hst,hr3,qAs,qAu,resV,retV];exact hk H2 [x,0] r2 s2 rfl (by simp)
      . have hyx:¬ y=x:=fun e=>hxy e.symm
        simp [h0,h3,w0,w2,hr.cell,hyx];exact .go true (by simp) ⟨rfl,by simp [h0],by simp [qGz,hxy]⟩
end
end Pm

/- Code: which places may be next, by the program and by the document's answer.
   No condition: plain lemmas. -/
namespace Pm
set_option linter.unusedSimpArgs false
set_option linter.unusedVariables false
open Go Am
open Go.Proofs.Tryz (prog)

def qCu (i:Nat) (x:Ins):List Int:=qGz (srt (if x.op=10 then [x.a] else if x.op=11 then [((i+1:Nat):Int),x.b] else [((i+1:Nat):Int)]))
def succs (code:List Ins):List (List Int):=code.mapIdx qCu
theorem qBt (code:List Ins):(succs code).length=code.length:=by simp [succs]
theorem qIo (code:List Ins) (i:Nat):(succs code)[i]?=(code[i]?).map (qCu i):=by simp [succs]
theorem cmpct_len (l:List Int):(qGz l).length≤l.length:=by
  unfold qGz
  split
  . split<;>simp
  . exact Nat.le_refl _
theorem nextsOf_len (i:Nat) (x:Ins):(qCu i x).length≤2:=by
  unfold qCu;refine Nat.le_trans (cmpct_len _) ?_;rw [srt_len]
  split
  . simp
  . split<;>simp

def fo:Option (List Int)→Value
  | none=>nilS
  | some l=>vL vI l
theorem closedC_fo:∀ o,qCf (fo o)=true:=by intro o; cases o<;>rfl
def part (l:List (List Int)) (i:Nat):List (Option (List Int)):=(l.take i).map some++List.replicate (l.length - i) none
theorem qOq (l:List (List Int)) {i:Nat} (hi:i≤l.length):(part l i).length=l.length:=by simp [part]; omega
theorem part_set {l:List (List Int)} {i:Nat} (hi:i < l.length):(part l i).set i (some l[i])=part l (i+1):=by
  unfold part;have e:i - ((l.take i).map some).length=0:=by simp; omega
  rw [List.set_append_right _ _ (by simp; omega),e,show l.length - i=(l.length - (i+1))+1 by omega,List.replicate_succ,List.set_cons_zero,show l.take (i+1)=l.take i++[l[i]] from (List.take_append_getElem hi).symm,List.map_append,List.append_assoc]
  rfl
theorem part_all (l:List (List Int)):(part l l.length).map fo=l.map (vL vI):=by simp [part,fo]

section
variable {α : Type} {f : α → Value} {H : Heap} {k ver : Nat} {l : List α}
theorem qDd.push (h:qDd f H k ver l) (hl:l.length < lim) (x:α):∃ H2,pApp (Am.newRow H [f x] 1) 1 (.slice (some ⟨k,0,none⟩) l.length ver) (.slice (some ⟨H.length,0,none⟩) 1 0)=some (.slice (some ⟨k,0,none⟩) (l.length+1) (ver+1),H2) ∧
    qDd f H2 k (ver+1) (l++[x])∧(∀ j,j < H.length→j≠k→H2[j]?=H[j]?)∧H.length≤H2.length:=by
  have hk:=h.lt;have hn:(Am.newRow H [f x] 1)[k]?=some (.row ⟨l.map f,1,ver,true⟩):=by unfold Am.newRow; rw [List.getElem?_append_left hk]; exact h
  have he:qCv (Am.newRow H [f x] 1) 1 (.slice (some ⟨H.length,0,none⟩) 1 0)=some (1,[f x]):=by simp [qAz,Heap.cells?,Heap.row?,Am.newRow]
  refine ⟨(Am.newRow H [f x] 1).set k (.row ⟨(l++[x]).map f,1,ver+1,true⟩),?_,?_,fun j h1 h2=>?_,by simp [Am.newRow]⟩
  . simp only [pApp,he,qJg,Heap.row?,hn,if_true]
    rw [if_pos ⟨trivial,trivial,by simp,hl⟩]
    simp [List.take_of_length_le]
  . have:k < (Am.newRow H [f x] 1).length:=by simp [Am.newRow]; omega
    simp [qDd,this]
  . rw [List.getElem?_set_ne (Ne.symm h2)]; unfold Am.newRow; rw [List.getElem?_append_left h1]
theorem qDd.keep {H':Heap} (h:qDd f H k ver l) (e:H'[k]?=H[k]?):qDd f H' k ver l:=by unfold qDd; rw [e]; exact h
theorem qDd.inl {b:Nat} (h:qDd f H k ver l) (hb:b≤k) (hc:∀ x,qCf (f x)=true) {n:Nat} (hn:n=l.length):Inl b H (.slice (some ⟨k,0,none⟩) n ver) (vL f l):=by
  subst hn;simp only [qDd] at h;exact .row (r:=⟨l.map f,1,ver,true⟩) hb (by simp [Heap.row?,h]) (by simp) (by simp) fun j c c' h5 h6=>by
    simp only [Nat.zero_add] at h5;rw [h5] at h6; cases h6;obtain ⟨y,_,rfl⟩:=List.mem_map.1 (List.mem_of_getElem? h5);exact .cell (hc y)
theorem qDd.frz (h:qDd f H k ver l) (hc:∀ x,qCf (f x)=true) {n e:Nat} (hn:n≤l.length):∃ H',frzV H e (.slice (some ⟨k,0,none⟩) n ver)=some (vL f (l.take n),H')∧Same H k H':=by
  have hk:=h.lt;have hs:seg (l.map f) 0 (n * 1)=(l.take n).map f:=by simp [seg]
  refine ⟨H.set k (.row ⟨l.map f,1,ver,false⟩),?_,fun j hj=>by rw [List.getElem?_set_ne (Ne.symm hj)],by simp⟩
  simp only [qDd] at h;have h2:((l.take n).map f).all qCf=true:=qHa hc _;simp only [frzV,frzC,Heap.row?,h,if_true,hs,h2];rw [if_pos ⟨by simpa using hn,trivial⟩]
  simp only [vL,List.length_take];rw [Nat.min_eq_left hn]
end

section
variable {h : Heap} {K : Value → Heap → Prop}
set_option maxHeartbeats 1000000 in
theorem Succs_call {code:List Ins} (hl:code.length < lim) (hk:K (vL (vL vI) (succs code)) h):qBl prog 18 [vM 4 vIns code] h K:=by
  refine qBl.forget ?_;refine call_Succs (by simp) ?_
  have hlim:(code.length:Int)≤lim:=by omega
  simp [c_Succs,qIc,hlim,qKv,Am.newRow];refine qEb (σ:=Nat) (fun i fr h'=>qDd fo h' h.length 0 (part (succs code) i)∧qBs h.length h h'∧fr 3=.slice (some ⟨h.length,0,none⟩) code.length 0∧fr 10=vM 4 vIns code∧fr 11=vI code.length∧fr 12=vI i∧i≤code.length) (fun i=>code.length - i) ?_ 0
    ⟨by simp [qDd,part,qBt,fo],.app,by simp,by simp,by simp,by simp,by simp⟩
  rintro i fr h' ⟨hr,hkp,h3,h10,h11,h12,hi⟩
  by_cases hlt:i < code.length
  . obtain ⟨x,hx⟩:∃ x,code[i]=x:=⟨_,rfl⟩
    have hx?:code[i]?=some x:=by rw [← hx]; exact List.getElem?_eq_getElem hlt
    obtain ⟨i1,hi1,wi⟩:=qBr (show i < lim by omega)
    have hif:(i:Int) < code.length:=by omega
    simp [h10,h11,h12,hlt,-qAt];rw [qAt];simp [h3,h10,h11,h12,hlt,hif,-qAt];rw [qAt];simp [h3,h10,h11,h12,hx?,hif,vIns,wi,Am.newRow,qBu,Heap.row?,-qAt];refine qLw (fun fr H=>∃ (ver k:Nat) (l:List Int),h'.length≤k∧qDd vI H k ver l∧(∀ j,j < h'.length→H[j]?=h'[j]?)∧h'.length≤H.length∧0 < l.length∧l.length≤2∧qCu i x=qGz (srt l)∧fr 3=.slice (some ⟨h.length,0,none⟩) code.length 0∧fr 10=vM 4 vIns code∧fr 11=vI code.length∧fr 12=vI i∧fr 4=vI i∧fr 6=.slice (some ⟨k,0,none⟩) l.length ver) ?_ ?_
    . obtain ⟨xr,hxr⟩:∃ r:Row,r=⟨[v8 x.op,vI x.a,vI x.b,vI x.c],4,0,true⟩:=⟨_,rfl⟩
      have hcell:∀ (g:Heap) (o:Nat),(h'++Ob.row xr :: g).cell? h'.length o 0=(vIns x)[o]?:=by intro g o; rw [hxr]; simp [Heap.cell?,Heap.row?]; rfl
      rw [← hxr];obtain ⟨lr,hlr⟩:∃ r:Row,r=⟨[vI i1],1,0,true⟩:=⟨_,rfl⟩;rw [← hlr];have hr1:qDd vI (h'++[Ob.row xr,Ob.row lr]) (h'.length+1) 0 [(i1:Int)]:=by simp [qDd,hlr]
      have low:∀ j,j < h'.length→(h'++[Ob.row xr,Ob.row lr])[j]?=h'[j]?:=fun j hj=>List.getElem?_append_left hj
      by_cases o10:x.op=10
      . obtain ⟨H',s1,s2,s3,s4⟩:=hr1.store (i:=0) (by simp) (x:=x.a) rfl
        simp [h3,h10,h11,h12,hcell,vIns,o10,s1];refine ⟨0,h'.length+1,by omega,[x.a],s2,fun j hj=>by rw [s3 j (by omega),low j hj],by rw [s4]; simp,by simp,by simp,?_,by simp⟩
        simp [qCu,o10]
      . have o10':¬ (x.op:Int)=10:=by omega
        by_cases o11:x.op=11
        . obtain ⟨H2,s1,s2,s3,s4⟩:=hr1.push (by simp [lim]) x.b
          simp [Am.newRow] at s1;have o11':((x.op:Int)=11):=by omega
          simp [h3,h10,h11,h12,hcell,vIns,o10',o11,s1,Am.newRow];refine ⟨1,h'.length+1,by omega,[(i1:Int),x.b],s2,fun j hj=>by rw [s3 j (by simp; omega) (by omega),low j hj],by simp at s4; omega,by simp,by simp,?_,by simp⟩
          simp [qCu,o11,hi1]
        . have o11':¬ (x.op:Int)=11:=by omega
          simp [h3,h10,h11,h12,hcell,vIns,o10',o11'];refine ⟨0,h'.length+1,by omega,[(i1:Int)],hr1,low,?_⟩
          simp [qCu,o10,o11,hi1]
    . rintro fr H ⟨ver,k,l,hk1,hrl,hlow,hlen,hl1,hl2,hnx,g3,g10,g11,g12,g4,g6⟩
      have hb:h.length < h'.length:=hr.lt;have hrH:qDd fo H h.length 0 (part (succs code) i):=hr.keep (hlow _ hb);simp [g6];refine Sort_call hl2 hrl fun H1 u r1 e1=>?_
      have hrH1:qDd fo H1 h.length 0 (part (succs code) i):=hrH.keep (e1.1 _ (by omega))
      simp [callK_def,g3,g4,g6];have hsl:(srt l).length=l.length:=srt_len l;rw [← hsl];refine Compact_call (by omega) (by omega) r1 fun H2 l' r2 e2 ht hle=>?_
      have hrH2:qDd fo H2 h.length 0 (part (succs code) i):=hrH1.keep (e2.1 _ (by omega))
      obtain ⟨H3,z1,e3⟩:=r2.frz (f:=vI) (by simp) (e:=1) hle
      rw [ht,← hnx] at z1;have hnl:(qGz (srt l)).length=(qCu i x).length:=by rw [hnx]
      rw [hnl];have hrH3:qDd fo H3 h.length 0 (part (succs code) i):=hrH2.keep (e3.1 _ (by omega))
      have hil:i < (succs code).length:=by rw [qBt]; exact hlt
      have hsi:(succs code)[i]=qCu i x:=by
        have:=qIo code i;rw [List.getElem?_eq_getElem hil,hx?] at this;exact Option.some.inj this
      obtain ⟨H4,s4,r4,e4,l4⟩:=hrH3.store (i:=i) (by rw [qOq _ (by omega)]; exact hil) (x:=some (qCu i x)) rfl
      rw [← hsi,part_set hil] at r4;have s4:qBu H3 1 (.pointer (some ⟨h.length,i,some 0⟩)) (vL vI (qCu i x))=some H4:=s4;simp [callK_def,g3,g4,g6,g11,g12,hif,z1,s4,wi];refine .go i1 (by omega) ⟨by rw [hi1]; exact r4,?_,by simp [g3],by simp [g10],by simp [g11],by simp,by omega⟩
      refine ⟨?_,fun j hj=>?_⟩
      . have:=hkp.1
        have h1:=e1.2; have h2:=e2.2; have h3:=e3.2;omega
      . rw [e4 j (by omega),e3.1 j (by omega),e2.1 j (by omega),e1.1 j (by omega),hlow j (by omega),hkp.2 j hj]
  . have hi2:i=code.length:=by omega
    subst hi2;simp [h3,h11,h12,qAs,qAu,resV,retV];refine ⟨hkp.ext,vL (vL vI) (succs code),?_,hk⟩;have:=hr.inl (b:=h.length) (Nat.le_refl _) closedC_fo (n:=code.length) (by rw [qOq _ (by rw [qBt]; exact Nat.le_refl _),qBt])
    have e:vL fo (part (succs code) code.length)=vL (vL vI) (succs code):=by
      have h1:=part_all (succs code);have h2:=qOq (succs code) (Nat.le_refl _);rw [qBt] at h1 h2;unfold vL;rw [h1,h2,← qBt code]; rfl
    rw [e] at this;exact this
end
end Pm
