/- Instructions: what each is, by the program's table; the registers that one sets or uses.
   No condition: plain lemmas. -/
import Derived.Test.YtdiggaadgjkgkaaGreatDoorZNPmBox
import Derived.Test.YtdiggaadgjkgkaaGreatDoorZNPmCfgC
import Derived.Test.YtdiggaadgjkgkaaGreatDoorZNPmLoop
namespace Pm
set_option linter.unusedSimpArgs false
set_option linter.unusedVariables false
open Go Am
open Go.Proofs.Tryz (prog)

def nameL:List (List Nat):=[[110,111,112],[99,111,110,115,116],[109,111,118,101],[97,100,100],[115,117,98],[109,117,108],[108,101,115,115],[108,111,97,100],[115,116,111,114,101],[112,114,105,110,116],[106,117,109,112],[122,101,114,111],[103,111],[108,111,99,107],[117,110,108,111,99,107],[114,108,111,99,107],[114,117,110,108,111,99,107],[114,101,97,100],[119,114,105,116,101],[98,117,109,112],[115,101,110,100],[114,101,99,118],[112,111,108,108],[99,108,111,115,101],[103,114,111,119],[119,97,105,116],[98,101,103,105,110],[101,110,100]]
def nameOf (op:Nat):ByteArray:=⟨((nameL[op]?.getD []).map UInt8.ofNat).toArray⟩
def qKo:Nat→List Nat
  | 1=>[2,1,0] | 2=>[2,3,0] | 3=>[2,3,3] | 4=>[2,3,3] | 5=>[2,3,3] | 6=>[2,3,3] | 7=>[2,4,0] | 8=>[4,3,0] | 9=>[3,0,0] | 10=>[5,0,0] | 11=>[3,5,0] | 12=>[6,0,0]
  | 13=>[7,0,0] | 14=>[7,0,0] | 15=>[7,0,0] | 16=>[7,0,0] | 17=>[2,8,0] | 18=>[8,3,0] | 19=>[2,8,3] | 20=>[9,3,0] | 21=>[2,9,0] | 22=>[2,9,2] | 23=>[9,0,0] | 24=>[10,1,0]
  | 25=>[10,0,0] | 26=>[2,11,0] | 27=>[11,0,0] | _=>[0,0,0]
def qDa (op:Nat):Bool:=decide (op≤8)
def acqOp (op:Nat):Bool:=[13,15,17,19,20,21,22,25,26].contains op
def relOp (op:Nat):Bool:=[12,14,16,18,19,20,21,22,23,24,27].contains op
def qGp (op k:Nat):Nat:=(qKo op)[k]?.getD 0
def qCo (op:Nat):List Value:=if op < 28 then [.string (nameOf op),v8 (qGp op 0),v8 (qGp op 1),v8 (qGp op 2),.bool (qDa op),.bool (acqOp op),.bool (relOp op)] else [.string ⟨#[]⟩,v8 0,v8 0,v8 0,.bool false,.bool false,.bool false]
instance : Flat qCo 7 := ⟨fun x => by unfold qCo; split <;> rfl⟩
def qKr:List Nat:=List.range 28

set_option maxRecDepth 100000 in
theorem shapes_pure:Pure prog 137 [] (.agg (qKr.flatMap qCo).toArray) :=
  closed_run (by kernel_rfl) (tab:=tput 137 (qCb c_shapes) (tput 141 (qCb c_shapes1) (tput 142 (qCb c_shapes2) tnil)))
    (qOb.put (qOb.put (qOb.put .nil (by kernel_rfl) c_shapes2_is) (by kernel_rfl) c_shapes1_is) (by kernel_rfl) c_shapes_is)
    (fn:=fun f=>Nat.beq f 141 || Nat.beq f 142) (by
      intro f hf;rcases Bool.or_eq_true_iff.1 hf with h | h
      . rw [Nat.eq_of_beq_eq_true h]; kernel_rfl
      . rw [Nat.eq_of_beq_eq_true h]; kernel_rfl) (k:=10) (n:=5) (by kernel_rfl)

theorem closed_shape (op:Nat):(qCo op).all qCf=true:=by unfold qCo; split<;>rfl
theorem qJa (op:Nat):(qCo op).all cellLike=true:=by unfold qCo; split<;>rfl
theorem cell_shapes:(qKr.flatMap qCo).all cellLike=true:=by
  rw [List.all_eq_true];intro c hc;obtain ⟨x,_,hx⟩:=List.mem_flatMap.1 hc;exact List.all_eq_true.1 (qJa x) c hx

section
variable {h : Heap} {K : Value → Heap → Prop}
theorem irOf_call {op:Nat} (ho:op≤255) (hk:K (.tuple #[.agg (qCo op).toArray,.bool (decide (op < 28))]) h):qBl prog 128 [v8 op] h K:=by
  refine qBl.forget ?_;refine call_irOf (by simp) ?_
  have w:IntKind.i64.wrap (op:Int)=op:=wrap_i64 (by omega) (by omega)
  obtain ⟨zr,hzr⟩:∃ r:Row,r=⟨[.string ⟨#[]⟩,.int .u8 0,.int .u8 0,.int .u8 0,.bool false,.bool false,.bool false],7,0,true⟩:=⟨_,rfl⟩;have hz196:z196.length=196:=by decide +kernel
  have r0:RowV (Am.newRow h zr.cells 7) h.length 0 7 zr.cells:=.new;have r1:RowV (Am.newRow (Am.newRow h zr.cells 7) z196 7) (h.length+1) 0 7 z196:=by have:=RowV.new (h:=Am.newRow h zr.cells 7) (z:=z196) (esz:=7); rw [qPa] at this; exact this
  obtain ⟨H2,s2,r2,e2⟩:=r1.store hz196 (cs:=qKr.flatMap qCo) (by rw [qDs (e:=7) Flat.len]; rfl) cell_shapes
  have r2':RowM 7 qCo H2 (h.length+1) 0 7 qKr:=r2;have r02:RowV H2 h.length 0 7 zr.cells:=(r0.old (e:=7)).same e2 (by omega)
  have k2:qBs h.length h H2:=(qBs.new (qBs.new (.refl _ _) (Nat.le_refl _) zr.cells 7) (Nat.le_refl _) z196 7).trans (e2.keeps (by omega))
  have hzc:zr.cells=[.string ⟨#[]⟩,.int .u8 0,.int .u8 0,.int .u8 0,.bool false,.bool false,.bool false]:=by rw [hzr]
  obtain ⟨H3,s3,r3,e3⟩:=r02.store (n:=7) (by rw [hzc]; rfl) (cs:=qCo op) (Flat.len op) (qJa op)
  have k3:qBs h.length h H3:=k2.trans (e3.keeps (Nat.le_refl _));have hfin:(∃ g,H3=h++g)∧∃ p,Inl h.length H3 (.tuple #[.agg (qCo op).toArray,.bool (decide (op < 28))]) p∧K p h :=
    ⟨k3.ext,_,Inls.tup (xs:=[.agg (qCo op).toArray,.bool (decide (op < 28))]) (ys:=[.agg (qCo op).toArray,.bool (decide (op < 28))]) ⟨.self (closed_shape op),.cell rfl,trivial⟩,hk⟩
  have hres:=r3.cells (n:=7) (Flat.len op).symm;simp [qTg];rw [← hzc];refine shapes_pure.go ?_;simp [callK_def,qPa,s2]
  by_cases h28:op < 28
  . have c1:¬ (28:Int)≤op:=by omega
    have c2:(op:Int) < 28:=by omega
    have hop:qKr[op]?=some op:=by simp [qKr,h28]
    have hcl:=r2'.cells hop;rw [decide_eq_true h28] at hfin;simp [w,c1,c2,hcl,s3,hres,qAs,qAu,resV,retV];exact hfin
  . have c1:(28:Int)≤op:=by omega
    have hsh:qCo op=zr.cells:=by unfold qCo; rw [if_neg h28,hzc]; rfl
    rw [decide_eq_false h28] at hfin;rw [hsh] at s3 hres hfin;simp [w,c1,s3,hres,qAs,qAu,resV,retV];exact hfin
def qDy (w:Nat) (i:Ins) (n:Nat):Nat:=(List.range n).foldl (fun s k=>if qGp i.op k=w then s ||| bitN ([i.a,i.b,i.c][k]?.getD 0) else s) 0
def qGg (i:Ins):Nat:=qDy 2 i 3
def qEj (i:Ins):Nat:=qDy 3 i 3
theorem qJm (w:Nat) (i:Ins) (n:Nat):qDy w i (n+1)=if qGp i.op n=w then qDy w i n ||| bitN ([i.a,i.b,i.c][n]?.getD 0) else qDy w i n:=by
  simp [qDy,List.range_succ]
theorem qGq (w:Nat) (i:Ins):∀ n,qDy w i n < big
  | 0=>by simp [qDy]
  | n+1=>by
    rw [qJm]
    split
    . exact qTv (qGq w i n) (qQn _)
    . exact qGq w i n
theorem shapeOf_word {op k:Nat} (hk:k < 3):(qCo op)[1+k]?=some (v8 (qGp op k)):=by
  unfold qCo
  split
  . have:k=0∨k=1∨k=2:=by omega
    rcases this with rfl | rfl | rfl<;>rfl
  . rename_i h
    have e:qGp op k=0:=by
      unfold qGp qKo;have:k=0∨k=1∨k=2:=by omega
      rcases this with rfl | rfl | rfl<;>(split<;>first | omega | rfl)
    rw [e];have:k=0∨k=1∨k=2:=by omega
    rcases this with rfl | rfl | rfl<;>rfl
set_option maxHeartbeats 1000000 in
theorem registers_call {i:Ins} {w:Nat} (ho:i.op≤255) (hk:K (vU (qDy w i 3)) h):qBl prog 93 [.agg (vIns i).toArray,v8 w] h K:=by
  refine Pure.go (Pure.one (p:=vU (qDy w i 3)) rfl fun h=>?_) hk
  refine call_registers (by simp) ?_
  simp [qJu,vIns];have r0:RowV (Am.newRow h (vIns i) 4) h.length 0 4 (vIns i):=.new;have hc:∀ j,(Am.newRow h [v8 i.op,vI i.a,vI i.b,vI i.c] 4).cell? h.length j 0=(vIns i)[j]?:=r0.cell;simp [hc,vIns];refine irOf_call ho ?_;obtain ⟨z7,hz7⟩:∃ z:List Value,z=[.string ⟨#[]⟩,.int .u8 0,.int .u8 0,.int .u8 0,.bool false,.bool false,.bool false]:=⟨_,rfl⟩;have r1:RowV (Am.newRow (Am.newRow h (vIns i) 4) z7 7) (h.length+1) 0 7 z7:=by have:=RowV.new (h:=Am.newRow h (vIns i) 4) (z:=z7) (esz:=7); rw [qPa] at this; exact this
  obtain ⟨H2,s2,r2,e2⟩:=r1.store (n:=7) (by rw [hz7]; rfl) (cs:=qCo i.op) (Flat.len i.op) (qJa i.op)
  have r02:RowV H2 h.length 0 4 (vIns i):=(r0.old (e:=7)).same e2 (by omega)
  have k2:qBs h.length h H2:=(qBs.new (qBs.new (.refl _ _) (Nat.le_refl _) (vIns i) 4) (Nat.le_refl _) z7 7).trans (e2.keeps (by omega))
  have hc2:∀ j,H2.cell? h.length j 0=(vIns i)[j]?:=r02.cell;have s2':qBu (Am.newRow (Am.newRow h [v8 i.op,vI i.a,vI i.b,vI i.c] 4) z7 7) 7 (.pointer (some ⟨h.length+1,0,some 0⟩)) (.agg (qCo i.op).toArray)=some H2:=s2;rw [hz7] at s2';simp [callK_def,qPa,s2',hc2,vIns];refine qEb (σ:=Nat×Heap) (fun x fr h'=>h'=x.2∧qBs h.length h h'∧RowV h' (h.length+1) 0 7 (qCo i.op)∧fr 1=v8 w∧fr 5=.pointer (some ⟨h.length+1,0,some 0⟩)∧fr 22=.agg #[vI i.a,vI i.b,vI i.c]∧fr 23=vI x.1∧x.1≤3∧fr 7=vU (qDy w i x.1))
    (fun x=>3 - x.1) ?_ (0,H2) ⟨rfl,k2,r2,by simp,by simp,by simp,by simp,by simp,by simp [qDy]⟩
  rintro ⟨k,_⟩ fr h' ⟨rfl,kk,rr,h1,h5,h22,h23,hk3,h7⟩;simp only at kk rr h23 hk3 h7
  by_cases hlt:k < 3
  . obtain ⟨k1,hk1,wk⟩:=qBr (show k < lim by simp [lim]; omega)
    have hkf:(k:Int) < 3:=by omega
    have hw:=shapeOf_word (op:=i.op) hlt;have hcw:h'.cell? (h.length+1) (1+k) 0=some (v8 (qGp i.op k)):=by rw [rr.cell]; exact hw
    obtain ⟨n,hn⟩:∃ n,[i.a,i.b,i.c][k]?=some n:=⟨_,List.getElem?_eq_getElem (by simpa using hlt)⟩
    have hn':(#[vI i.a,vI i.b,vI i.c]:Array Value)[k]?=some (vI n):=by
      have:k=0∨k=1∨k=2:=by omega
      rcases this with rfl | rfl | rfl<;>(simp at hn; subst hn; rfl)
    have hs:=qJm w i k;rw [hn] at hs;obtain ⟨s,hs0⟩:∃ s,s=qDy w i k:=⟨_,rfl⟩;have hsl:=qGq w i k;rw [← hs0] at hs hsl h7;obtain ⟨wd,hwd⟩:∃ x,x=qGp i.op k:=⟨_,rfl⟩;rw [← hwd] at hs hcw
    by_cases hww:wd=w
    . have hww':(wd:Int)=w:=by omega
      rw [if_pos hww] at hs;simp [h1,h5,h22,h23,h7,hkf,hn',hcw,hww];refine qKm (l:=[n]) hsl (by simp [lim]) ?_
      have e:qDi s [n]=qDy w i k1:=by rw [hk1,hs]; rfl
      rw [e];obtain ⟨s1,hs1⟩:∃ x,x=qDy w i k1:=⟨_,rfl⟩;simp [callK_def,h1,h5,h22,h23,← hs1,wk];exact .go (k1,_) (by simp; omega) ⟨rfl,kk.trans ⟨by simp,fun j hj=>List.getElem?_append_left (by have:=kk.1; omega)⟩,rr.keep (List.getElem?_append_left rr.lt),by simp [h1],by simp [h5],by simp [h22],by simp,(by simp; omega),by simp [hs1]⟩
    . have hww':¬ (wd:Int)=w:=by omega
      rw [if_neg hww] at hs;simp [h1,h5,h22,h23,h7,hkf,hn',hcw,hww',wk];exact .go (k1,h') (by simp; omega) ⟨rfl,kk,rr,by simp [h1],by simp [h5],by simp [h22],by simp,(by simp; omega),by simp [h7,hk1,hs]⟩
  . have:k=3:=by omega
    subst this;simp [h23,h7,qAs,qAu,resV,retV];exact kk.ext
theorem irSets_call {i:Ins} (ho:i.op≤255) (hk:K (vU (qGg i)) h):qBl prog 51 [.agg (vIns i).toArray] h K:=by
  refine Pure.go (Pure.one (p:=vU (qGg i)) rfl fun h=>?_) hk
  refine call_irSets (by simp) ?_
  simp [qPz,vIns];have r0:RowV (Am.newRow h (vIns i) 4) h.length 0 4 (vIns i):=.new;have hc:(Am.newRow h [v8 i.op,vI i.a,vI i.b,vI i.c] 4).cells? h.length 0 0 4=some [v8 i.op,vI i.a,vI i.b,vI i.c]:=r0.cells rfl;simp [hc];refine registers_call (w:=2) ho ?_;simp [callK_def,qAs,qAu,resV,retV,qGg,Am.newRow]
end
end Pm

/- Instructions, by the document: the row of each, the registers.
   No condition: plain lemmas. -/
namespace Pm
set_option linter.unusedSimpArgs false
set_option linter.unusedVariables false
open Go Am
open Go.Proofs.Tryz (prog)

theorem hasB_and {s:Nat} {i:Int}:decide (s &&& bitN i=0)=!hasB s i:=by
  by_cases h:0≤i∧i < 64
  . obtain ⟨n,rfl⟩:∃ n:Nat,i=n:=⟨i.toNat,by omega⟩
    rw [qIz (by omega)]
    have e:bitN (n:Int)=2 ^ n:=by simp [bitN]; omega
    have e2:s &&& 2 ^ n=if s.testBit n then 2 ^ n else 0:=by
      apply Nat.eq_of_testBit_eq;intro j;rw [Nat.testBit_and,Nat.testBit_two_pow]
      by_cases hj:n=j
      . subst hj
        cases hb:s.testBit n<;>simp
      . cases hb:s.testBit n<;>simp [hj,Nat.testBit_two_pow]
    rw [e,e2];cases s.testBit n with
    | false=>simp
    | true =>
      have:=Nat.two_pow_pos n;simp
  . have e:bitN i=0:=by unfold bitN; rw [if_neg h]
    have e2:hasB s i=false:=by
      unfold hasB
      by_cases h0:0≤i
      . have:¬ i < 64:=fun k=>h ⟨h0,k⟩
        simp [this]
      . simp [h0]
    simp [e,e2]
theorem one_list {h:Heap} {l:List Int} {cs:List Value} {n k:Nat} (hn:n=l.length) (hk:k=h.length) (hc:cs=l.map vI):qBs h.length h (h++[bx cs 1])∧AccL vI h.length (h++[bx cs 1]) (.slice (some ⟨k,0,none⟩) n 0) l :=
  ⟨.app,by subst hn hk hc; exact .inr ⟨_,0,rfl,Nat.le_refl _,by simp [bx],by simp⟩⟩
def rowL (op:Nat):List Int:=(qKo op).map fun x:Nat=>(x:Int)
section
variable {h : Heap} {K : Value → Heap → Prop}
theorem qFg {s:Nat} {i:Int} (hs:s < big) (hk:K (.bool (hasB s i)) h):qBl prog 50 [vU s,vI i] h K:=by
  refine call_bHas (by simp) ?_
  simp [qTh];refine bit_call ?_;have e:=qQm hs (qQn i);have e2:=hasB_and (s:=s) (i:=i);obtain ⟨x,hx⟩:∃ x,x=s &&& bitN i:=⟨_,rfl⟩;rw [← hx] at e e2;have e3:(decide ((x:Int)=0))=!hasB s i:=by rw [← e2]; by_cases h0:x=0<;>simp [h0]
  have e4:hasB s i=!decide ((x:Int)=0):=by rw [e3]; simp
  rw [e4] at hk
  by_cases h0:(x:Int)=0
  . simp [callK_def,e,h0,qAs,qAu,resV,retV] at hk ⊢
    exact hk
  . simp [callK_def,e,h0,qAs,qAu,resV,retV] at hk ⊢
    exact hk
set_option maxHeartbeats 4000000 in
theorem R2row_pure (op:Nat):Pure prog 59 [v8 op] (vL vI (rowL op)):=by
  refine Pure.list (fun _=>rfl) fun h=>?_
  refine call_R2row (by simp) ?_
  by_cases h28:op < 28
  . have hc:op=0∨op=1∨op=2∨op=3∨op=4∨op=5∨op=6∨op=7∨op=8∨op=9∨op=10∨op=11∨op=12∨op=13∨op=14∨op=15∨op=16∨op=17∨op=18∨op=19∨op=20∨op=21∨op=22∨op=23∨op=24∨op=25∨op=26∨op=27:=by omega
    rcases hc with rfl | rfl | rfl | rfl | rfl | rfl | rfl | rfl | rfl | rfl | rfl | rfl | rfl | rfl | rfl | rfl | rfl | rfl | rfl | rfl | rfl | rfl | rfl | rfl | rfl | rfl | rfl | rfl <;>
    . simp [qAk,qAn,qAl,qAh,qAg,qAe,qAb,qAd,qAa,qAi,qAf,qAc,qAs,qAu,resV,retV,qAm,qAj,qAr,qAq,qAp,qAo,qQc]
      exact one_list (l:=[_,_,_]) rfl rfl rfl
  . have hr:rowL op=[0,0,0]:=by unfold rowL qKo; split<;>first | omega | rfl
    rw [hr];have n0:¬ op=0:=by omega
    have n1:¬ op=1:=by omega
    have n2:¬ op=2:=by omega
    have n3:¬ op=3:=by omega
    have n4:¬ op=4:=by omega
    have n5:¬ op=5:=by omega
    have n6:¬ op=6:=by omega
    have n7:¬ op=7:=by omega
    have n8:¬ op=8:=by omega
    have n9:¬ op=9:=by omega
    have n10:¬ op=10:=by omega
    have n11:¬ op=11:=by omega
    have n12:¬ op=12:=by omega
    have n13:¬ op=13:=by omega
    have n14:¬ op=14:=by omega
    have n15:¬ op=15:=by omega
    have n16:¬ op=16:=by omega
    have n17:¬ op=17:=by omega
    have n18:¬ op=18:=by omega
    have n19:¬ op=19:=by omega
    have n20:¬ op=20:=by omega
    have n21:¬ op=21:=by omega
    have n22:¬ op=22:=by omega
    have n23:¬ op=23:=by omega
    have n24:¬ op=24:=by omega
    have n25:¬ op=25:=by omega
    have n26:¬ op=26:=by omega
    have n27:¬ op=27:=by omega
    simp [qAk,qAn,qAl,qAh,qAg,qAe,qAb,qAd,qAa,qAi,qAf,qAc,qAs,qAu,resV,retV,qAm,qAj,qAr,qAq,qAp,qAo,qQc,n0,n1,n2,n3,n4,n5,n6,n7,n8,n9,n10,n11,n12,n13,n14,n15,n16,n17,n18,n19,n20,n21,n22,n23,n24,n25,n26,n27];exact one_list (l:=[_,_,_]) rfl rfl rfl
theorem R2num_pure (i:Ins):Pure prog 60 [.agg (vIns i).toArray] (vL vI [i.a,i.b,i.c]):=by
  refine Pure.list (fun _=>rfl) fun h=>?_
  refine call_R2num (by simp) ?_
  simp [qAk,qAn,qAl,qAh,qAg,qAe,qAb,qAd,qAa,qAi,qAf,qAc,qAs,qAu,resV,retV,qAm,qAj,qAr,qAq,qAp,qAo,qRq,vIns];exact ⟨(qBs.app (g:=[_,_])),.inr ⟨_,0,rfl,by simp,by simp [bx],by simp⟩⟩
theorem rowL_at {op k:Nat} (hk:k < 3):(rowL op)[k]?=some (qGp op k:Int):=by
  have hl:(qKo op).length=3:=by unfold qKo; split<;>rfl
  unfold rowL qGp;rw [List.getElem?_map,List.getElem?_eq_getElem (by omega)]
  simp
set_option maxHeartbeats 1000000 in
theorem R2of_call {i:Ins} {w:Nat} (hk:K (vU (qDy w i 3)) h):qBl prog 112 [.agg (vIns i).toArray,vI w] h K:=by
  refine Pure.go (Pure.one (p:=vU (qDy w i 3)) rfl fun h=>?_) hk
  refine call_R2of (by simp) ?_
  simp [qTj,vIns];have r0:RowV (Am.newRow h (vIns i) 4) h.length 0 4 (vIns i):=.new;have hc:∀ j,(Am.newRow h [v8 i.op,vI i.a,vI i.b,vI i.c] 4).cell? h.length j 0=(vIns i)[j]?:=r0.cell;have hcs:(Am.newRow h [v8 i.op,vI i.a,vI i.b,vI i.c] 4).cells? h.length 0 0 4=some (vIns i):=r0.cells rfl;simp [hc,vIns];refine (R2row_pure i.op).go ?_;simp [callK_def,hcs];refine (R2num_pure i).go ?_;simp [callK_def]
  refine qEb (σ:=Nat) (fun k fr h'=>qBs h.length h h'∧fr 1=vI w∧fr 6=vL vI (rowL i.op)∧fr 7=vL vI [i.a,i.b,i.c]∧fr 8=vI k∧k≤3∧fr 5=vU (qDy w i k))
    (fun k=>3 - k) ?_ 0 ⟨(qBs.refl _ _).new (Nat.le_refl _) _ _,by simp,by simp,by simp,by simp,by simp,by simp [qDy]⟩
  rintro k fr h' ⟨kk,h1,h6,h7,h8,hk3,h5⟩
  by_cases hlt:k < 3
  . obtain ⟨k1,hk1,wk⟩:=qBr (show k < lim by simp [lim]; omega)
    have hkf:(k:Int) < 3:=by omega
    have hw:=rowL_at (op:=i.op) hlt;obtain ⟨n,hn⟩:∃ n,[i.a,i.b,i.c][k]?=some n:=⟨_,List.getElem?_eq_getElem (by simpa using hlt)⟩
    have hs:=qJm w i k;rw [hn] at hs;obtain ⟨s,hs0⟩:∃ s,s=qDy w i k:=⟨_,rfl⟩;have hsl:=qGq w i k;rw [← hs0] at hs hsl h5;obtain ⟨wd,hwd⟩:∃ x,x=qGp i.op k:=⟨_,rfl⟩;rw [← hwd] at hs hw
    by_cases hww:wd=w
    . rw [if_pos hww] at hs
      simp [h1,h5,h6,h7,h8,hkf,hn,hw,hww];refine RWith_call (l:=[n]) hsl (by simp [lim]) ?_
      have e:qDi s [n]=qDy w i k1:=by rw [hk1,hs]; rfl
      rw [e];obtain ⟨s1,hs1⟩:∃ x,x=qDy w i k1:=⟨_,rfl⟩;simp [callK_def,h1,h5,h6,h7,h8,← hs1,wk];exact .go k1 (by omega) ⟨kk.trans ⟨by simp,fun j hj=>List.getElem?_append_left (by have:=kk.1; omega)⟩,by simp [h1],by simp [h6],by simp [h7],by simp,(by omega),by simp [hs1]⟩
    . have hww':¬ (wd:Int)=w:=by omega
      rw [if_neg hww] at hs;simp [h1,h5,h6,h7,h8,hkf,hn,hw,hww',wk];exact .go k1 (by omega) ⟨kk,by simp [h1],by simp [h6],by simp [h7],by simp,(by omega),by simp [h5,hk1,hs]⟩
  . have:k=3:=by omega
    subst this;simp [h8,h5,qAs,qAu,resV,retV];exact kk.ext
theorem R2Sets_call {i:Ins} (hk:K (vU (qGg i)) h):qBl prog 75 [.agg (vIns i).toArray] h K:=by
  refine Pure.go (Pure.one (p:=vU (qGg i)) rfl fun h=>?_) hk
  refine call_R2Sets (by simp) ?_
  simp [qAk,qAn,qAl,qAh,qAg,qAe,qAb,qAd,qAa,qAi,qAf,qAc,qAs,qAu,resV,retV,qAm,qAj,qAr,qAq,qAp,qAo,qQe,vIns];refine R2of_call (i:=i) (w:=2) ?_;simp [qAk,qAn,qAl,qAh,qAg,qAe,qAb,qAd,qAa,qAi,qAf,qAc,qAs,qAu,resV,retV,qAm,qAj,qAr,qAq,qAp,qAo,callK_def,qGg]
end
end Pm
