/- Instructions: what each is, by the program's table; the registers that one sets or uses.
   No condition: plain lemmas. -/
import Derived.Test.YtdiggaadgjkgkaaDoorZMPmBox
import Derived.Test.YtdiggaadgjkgkaaDoorZMPmCfgC
import Derived.Test.YtdiggaadgjkgkaaDoorZMPmCfg3
namespace Pm
set_option linter.unusedSimpArgs false
set_option linter.unusedVariables false
open Go Am
open Go.Proofs.Tryd (prog)

def nameL:List (List Nat):=[[110,111,112],[99,111,110,115,116],[109,111,118,101],[97,100,100],[115,117,98],[109,117,108],[108,101,115,115],[108,111,97,100],[115,116,111,114,101],[112,114,105,110,116],[106,117,109,112],[122,101,114,111],[103,111],[108,111,99,107],[117,110,108,111,99,107],[114,108,111,99,107],[114,117,110,108,111,99,107],[114,101,97,100],[119,114,105,116,101],[98,117,109,112],[115,101,110,100],[114,101,99,118],[112,111,108,108],[99,108,111,115,101],[103,114,111,119],[119,97,105,116],[98,101,103,105,110],[101,110,100]]
def nameOf (op:Nat):ByteArray:=⟨((nameL[op]?.getD []).map UInt8.ofNat).toArray⟩
def wordsOf:Nat→List Nat
  | 1=>[2,1,0] | 2=>[2,3,0] | 3=>[2,3,3] | 4=>[2,3,3] | 5=>[2,3,3] | 6=>[2,3,3] | 7=>[2,4,0] | 8=>[4,3,0] | 9=>[3,0,0] | 10=>[5,0,0] | 11=>[3,5,0] | 12=>[6,0,0]
  | 13=>[7,0,0] | 14=>[7,0,0] | 15=>[7,0,0] | 16=>[7,0,0] | 17=>[2,8,0] | 18=>[8,3,0] | 19=>[2,8,3] | 20=>[9,3,0] | 21=>[2,9,0] | 22=>[2,9,2] | 23=>[9,0,0] | 24=>[10,1,0]
  | 25=>[10,0,0] | 26=>[2,11,0] | 27=>[11,0,0] | _=>[0,0,0]
def qFk (op:Nat):Bool:=decide (op≤8)
def acqOp (op:Nat):Bool:=[13,15,17,19,20,21,22,25,26].contains op
def relOp (op:Nat):Bool:=[12,14,16,18,19,20,21,22,23,24,27].contains op
def qIj (op k:Nat):Nat:=(wordsOf op)[k]?.getD 0
def qCe (op:Nat):List Value:=if op < 28 then [.string (nameOf op),v8 (qIj op 0),v8 (qIj op 1),v8 (qIj op 2),.bool (qFk op),.bool (acqOp op),.bool (relOp op)] else [.string ⟨#[]⟩,v8 0,v8 0,v8 0,.bool false,.bool false,.bool false]
instance : Flat qCe 7 := ⟨fun x => by unfold qCe; split <;> rfl⟩
def qJs:List Nat:=List.range 28

set_option maxRecDepth 100000 in
theorem shapes_pure:Pure prog 86 [] (.agg (qJs.flatMap qCe).toArray) :=
  closed_run (by kernel_rfl) (tab:=tput 86 (qCc c_shapes) (tput 90 (qCc c_shapes1) (tput 91 (qCc c_shapes2) tnil)))
    (qMt.put (qMt.put (qMt.put .nil (by kernel_rfl) c_shapes2_is) (by kernel_rfl) c_shapes1_is) (by kernel_rfl) c_shapes_is)
    (fn:=fun f=>Nat.beq f 90 || Nat.beq f 91) (by
      intro f hf;rcases Bool.or_eq_true_iff.1 hf with h | h
      . rw [Nat.eq_of_beq_eq_true h]; kernel_rfl
      . rw [Nat.eq_of_beq_eq_true h]; kernel_rfl) (k:=10) (n:=5) (by kernel_rfl)

theorem closed_shape (op:Nat):(qCe op).all qBw=true:=by unfold qCe; split<;>rfl
theorem qIe (op:Nat):(qCe op).all cellLike=true:=by unfold qCe; split<;>rfl
theorem cell_shapes:(qJs.flatMap qCe).all cellLike=true:=by
  rw [List.all_eq_true];intro c hc;obtain ⟨x,_,hx⟩:=List.mem_flatMap.1 hc;exact List.all_eq_true.1 (qIe x) c hx

section
variable {h : Heap} {K : Value → Heap → Prop}
theorem irOf_call {op:Nat} (ho:op≤255) (hk:K (.tuple #[.agg (qCe op).toArray,.bool (decide (op < 28))]) h):qBj prog 77 [v8 op] h K:=by
  refine qBj.forget ?_;refine call_irOf (by simp) ?_
  have w:IntKind.i64.wrap (op:Int)=op:=wrap_i64 (by omega) (by omega)
  obtain ⟨zr,hzr⟩:∃ r:Row,r=⟨[.string ⟨#[]⟩,.int .u8 0,.int .u8 0,.int .u8 0,.bool false,.bool false,.bool false],7,0,true⟩:=⟨_,rfl⟩;have hz196:z196.length=196:=by decide +kernel
  have r0:RowV (Am.newRow h zr.cells 7) h.length 0 7 zr.cells:=.new;have r1:RowV (Am.newRow (Am.newRow h zr.cells 7) z196 7) (h.length+1) 0 7 z196:=by have:=RowV.new (h:=Am.newRow h zr.cells 7) (z:=z196) (esz:=7); rw [qNp] at this; exact this
  obtain ⟨H2,s2,r2,e2⟩:=r1.store hz196 (cs:=qJs.flatMap qCe) (by rw [qCx (e:=7) Flat.len]; rfl) cell_shapes
  have r2':RowM 7 qCe H2 (h.length+1) 0 7 qJs:=r2;have r02:RowV H2 h.length 0 7 zr.cells:=(r0.old (e:=7)).same e2 (by omega)
  have k2:qBn h.length h H2:=(qBn.new (qBn.new (.refl _ _) (Nat.le_refl _) zr.cells 7) (Nat.le_refl _) z196 7).trans (e2.keeps (by omega))
  have hzc:zr.cells=[.string ⟨#[]⟩,.int .u8 0,.int .u8 0,.int .u8 0,.bool false,.bool false,.bool false]:=by rw [hzr]
  obtain ⟨H3,s3,r3,e3⟩:=r02.store (n:=7) (by rw [hzc]; rfl) (cs:=qCe op) (Flat.len op) (qIe op)
  have k3:qBn h.length h H3:=k2.trans (e3.keeps (Nat.le_refl _));have hfin:(∃ g,H3=h++g)∧∃ p,Inl h.length H3 (.tuple #[.agg (qCe op).toArray,.bool (decide (op < 28))]) p∧K p h :=
    ⟨k3.ext,_,Inls.tup (xs:=[.agg (qCe op).toArray,.bool (decide (op < 28))]) (ys:=[.agg (qCe op).toArray,.bool (decide (op < 28))]) ⟨.self (closed_shape op),.cell rfl,trivial⟩,hk⟩
  have hres:=r3.cells (n:=7) (Flat.len op).symm;simp [qRm];rw [← hzc];refine shapes_pure.go ?_;simp [callK_def,qNp,s2]
  by_cases h28:op < 28
  . have c1:¬ (28:Int)≤op:=by omega
    have c2:(op:Int) < 28:=by omega
    have hop:qJs[op]?=some op:=by simp [qJs,h28]
    have hcl:=r2'.cells hop;rw [decide_eq_true h28] at hfin;simp [w,c1,c2,hcl,s3,hres,qAs,qAt,resV,retV];exact hfin
  . have c1:(28:Int)≤op:=by omega
    have hsh:qCe op=zr.cells:=by unfold qCe; rw [if_neg h28,hzc]; rfl
    rw [decide_eq_false h28] at hfin;rw [hsh] at s3 hres hfin;simp [w,c1,s3,hres,qAs,qAt,resV,retV];exact hfin
def qFi (w:Nat) (i:Ins) (n:Nat):Nat:=(List.range n).foldl (fun s k=>if qIj i.op k=w then s ||| bitN ([i.a,i.b,i.c][k]?.getD 0) else s) 0
def qJb (i:Ins):Nat:=qFi 2 i 3
def qHc (i:Ins):Nat:=qFi 3 i 3
theorem regsOf_succ (w:Nat) (i:Ins) (n:Nat):qFi w i (n+1)=if qIj i.op n=w then qFi w i n ||| bitN ([i.a,i.b,i.c][n]?.getD 0) else qFi w i n:=by
  simp [qFi,List.range_succ]
theorem qHg (w:Nat) (i:Ins):∀ n,qFi w i n < big
  | 0=>by simp [qFi]
  | n+1=>by
    rw [regsOf_succ]
    split
    . exact qRz (qHg w i n) (qOt _)
    . exact qHg w i n
theorem shapeOf_word {op k:Nat} (hk:k < 3):(qCe op)[1+k]?=some (v8 (qIj op k)):=by
  unfold qCe
  split
  . have:k=0∨k=1∨k=2:=by omega
    rcases this with rfl | rfl | rfl<;>rfl
  . rename_i h
    have e:qIj op k=0:=by
      unfold qIj wordsOf;have:k=0∨k=1∨k=2:=by omega
      rcases this with rfl | rfl | rfl<;>(split<;>first | omega | rfl)
    rw [e];have:k=0∨k=1∨k=2:=by omega
    rcases this with rfl | rfl | rfl<;>rfl
set_option maxHeartbeats 1000000 in
theorem registers_call {i:Ins} {w:Nat} (ho:i.op≤255) (hk:K (vU (qFi w i 3)) h):qBj prog 55 [.agg (vIns i).toArray,v8 w] h K:=by
  refine Pure.go (Pure.one (p:=vU (qFi w i 3)) rfl fun h=>?_) hk
  refine call_registers (by simp) ?_
  simp [qIw,vIns];have r0:RowV (Am.newRow h (vIns i) 4) h.length 0 4 (vIns i):=.new;have hc:∀ j,(Am.newRow h [v8 i.op,vI i.a,vI i.b,vI i.c] 4).cell? h.length j 0=(vIns i)[j]?:=r0.cell;simp [hc,vIns];refine irOf_call ho ?_;obtain ⟨z7,hz7⟩:∃ z:List Value,z=[.string ⟨#[]⟩,.int .u8 0,.int .u8 0,.int .u8 0,.bool false,.bool false,.bool false]:=⟨_,rfl⟩;have r1:RowV (Am.newRow (Am.newRow h (vIns i) 4) z7 7) (h.length+1) 0 7 z7:=by have:=RowV.new (h:=Am.newRow h (vIns i) 4) (z:=z7) (esz:=7); rw [qNp] at this; exact this
  obtain ⟨H2,s2,r2,e2⟩:=r1.store (n:=7) (by rw [hz7]; rfl) (cs:=qCe i.op) (Flat.len i.op) (qIe i.op)
  have r02:RowV H2 h.length 0 4 (vIns i):=(r0.old (e:=7)).same e2 (by omega)
  have k2:qBn h.length h H2:=(qBn.new (qBn.new (.refl _ _) (Nat.le_refl _) (vIns i) 4) (Nat.le_refl _) z7 7).trans (e2.keeps (by omega))
  have hc2:∀ j,H2.cell? h.length j 0=(vIns i)[j]?:=r02.cell;have s2':qBx (Am.newRow (Am.newRow h [v8 i.op,vI i.a,vI i.b,vI i.c] 4) z7 7) 7 (.pointer (some ⟨h.length+1,0,some 0⟩)) (.agg (qCe i.op).toArray)=some H2:=s2;rw [hz7] at s2';simp [callK_def,qNp,s2',hc2,vIns];refine qIl (σ:=Nat×Heap) (fun x fr h'=>h'=x.2∧qBn h.length h h'∧RowV h' (h.length+1) 0 7 (qCe i.op)∧fr 1=v8 w∧fr 5=.pointer (some ⟨h.length+1,0,some 0⟩)∧fr 22=.agg #[vI i.a,vI i.b,vI i.c]∧fr 23=vI x.1∧x.1≤3∧fr 7=vU (qFi w i x.1))
    (fun x=>3 - x.1) ?_ (0,H2) ⟨rfl,k2,r2,by simp,by simp,by simp,by simp,by simp,by simp [qFi]⟩
  rintro ⟨k,_⟩ fr h' ⟨rfl,kk,rr,h1,h5,h22,h23,hk3,h7⟩;simp only at kk rr h23 hk3 h7
  by_cases hlt:k < 3
  . obtain ⟨k1,hk1,wk⟩:=qCg (show k < lim by simp [lim]; omega)
    have hkf:(k:Int) < 3:=by omega
    have hw:=shapeOf_word (op:=i.op) hlt;have hcw:h'.cell? (h.length+1) (1+k) 0=some (v8 (qIj i.op k)):=by rw [rr.cell]; exact hw
    obtain ⟨n,hn⟩:∃ n,[i.a,i.b,i.c][k]?=some n:=⟨_,List.getElem?_eq_getElem (by simpa using hlt)⟩
    have hn':(#[vI i.a,vI i.b,vI i.c]:Array Value)[k]?=some (vI n):=by
      have:k=0∨k=1∨k=2:=by omega
      rcases this with rfl | rfl | rfl<;>(simp at hn; subst hn; rfl)
    have hs:=regsOf_succ w i k;rw [hn] at hs;obtain ⟨s,hs0⟩:∃ s,s=qFi w i k:=⟨_,rfl⟩;have hsl:=qHg w i k;rw [← hs0] at hs hsl h7;obtain ⟨wd,hwd⟩:∃ x,x=qIj i.op k:=⟨_,rfl⟩;rw [← hwd] at hs hcw
    by_cases hww:wd=w
    . have hww':(wd:Int)=w:=by omega
      rw [if_pos hww] at hs;simp [h1,h5,h22,h23,h7,hkf,hn',hcw,hww];refine qJo (l:=[n]) hsl (by simp [lim]) ?_
      have e:qEe s [n]=qFi w i k1:=by rw [hk1,hs]; rfl
      rw [e];obtain ⟨s1,hs1⟩:∃ x,x=qFi w i k1:=⟨_,rfl⟩;simp [callK_def,h1,h5,h22,h23,← hs1,wk];exact .go (k1,_) (by simp; omega) ⟨rfl,kk.trans ⟨by simp,fun j hj=>List.getElem?_append_left (by have:=kk.1; omega)⟩,rr.keep (List.getElem?_append_left rr.lt),by simp [h1],by simp [h5],by simp [h22],by simp,(by simp; omega),by simp [hs1]⟩
    . have hww':¬ (wd:Int)=w:=by omega
      rw [if_neg hww] at hs;simp [h1,h5,h22,h23,h7,hkf,hn',hcw,hww',wk];exact .go (k1,h') (by simp; omega) ⟨rfl,kk,rr,by simp [h1],by simp [h5],by simp [h22],by simp,(by simp; omega),by simp [h7,hk1,hs]⟩
  . have:k=3:=by omega
    subst this;simp [h23,h7,qAs,qAt,resV,retV];exact kk.ext
theorem irSets_call {i:Ins} (ho:i.op≤255) (hk:K (vU (qJb i)) h):qBj prog 32 [.agg (vIns i).toArray] h K:=by
  refine Pure.go (Pure.one (p:=vU (qJb i)) rfl fun h=>?_) hk
  refine call_irSets (by simp) ?_
  simp [qOi,vIns];have r0:RowV (Am.newRow h (vIns i) 4) h.length 0 4 (vIns i):=.new;have hc:(Am.newRow h [v8 i.op,vI i.a,vI i.b,vI i.c] 4).cells? h.length 0 0 4=some [v8 i.op,vI i.a,vI i.b,vI i.c]:=r0.cells rfl;simp [hc];refine registers_call (w:=2) ho ?_;simp [callK_def,qAs,qAt,resV,retV,qJb,Am.newRow]
end
end Pm

/- Instructions, by the document: the row of each, the registers.
   No condition: plain lemmas. -/
namespace Pm
set_option linter.unusedSimpArgs false
set_option linter.unusedVariables false
open Go Am
open Go.Proofs.Tryd (prog)

theorem hasB_and {s:Nat} {i:Int}:decide (s &&& bitN i=0)=!hasB s i:=by
  by_cases h:0≤i∧i < 64
  . obtain ⟨n,rfl⟩:∃ n:Nat,i=n:=⟨i.toNat,by omega⟩
    rw [qLf (by omega)]
    have e:bitN (n:Int)=2 ^ n:=by simp [bitN]; omega
    have e2:s &&& 2 ^ n=if s.testBit n then 2 ^ n else 0:=by
      apply Nat.eq_of_testBit_eq;intro j;rw [Nat.testBit_and,Nat.testBit_two_pow]
      by_cases hj:n=j
      . subst hj
        cases hb:s.testBit n<;>simp
      . cases hb:s.testBit n<;>simp [hj,Nat.testBit_two_pow]
    rw [e,e2];cases s.testBit n with
    | false=>simp
    | true =>
      have:=Nat.two_pow_pos n;simp
  . have e:bitN i=0:=by unfold bitN; rw [if_neg h]
    have e2:hasB s i=false:=by
      unfold hasB
      by_cases h0:0≤i
      . have:¬ i < 64:=fun k=>h ⟨h0,k⟩
        simp [this]
      . simp [h0]
    simp [e,e2]
section
variable {h : Heap} {K : Value → Heap → Prop}
theorem qEv {s:Nat} {i:Int} (hs:s < big) (hk:K (.bool (hasB s i)) h):qBj prog 31 [vU s,vI i] h K:=by
  refine call_bHas (by simp) ?_
  simp [qRn];refine bit_call ?_;have e:=qOs hs (qOt i);have e2:=hasB_and (s:=s) (i:=i);obtain ⟨x,hx⟩:∃ x,x=s &&& bitN i:=⟨_,rfl⟩;rw [← hx] at e e2;have e3:(decide ((x:Int)=0))=!hasB s i:=by rw [← e2]; by_cases h0:x=0<;>simp [h0]
  have e4:hasB s i=!decide ((x:Int)=0):=by rw [e3]; simp
  rw [e4] at hk
  by_cases h0:(x:Int)=0
  . simp [callK_def,e,h0,qAs,qAt,resV,retV] at hk ⊢
    exact hk
  . simp [callK_def,e,h0,qAs,qAt,resV,retV] at hk ⊢
    exact hk
end
end Pm
