/- The abstract machine: the numbers of a set, one behind the other.
   No condition: plain lemmas. -/
import Derived.KernelRfl
import Derived.Test.YtdiggaadgjkgkaaGreatDoorZNAmTz
import Derived.Test.YtdiggaadgjkgkaaGreatDoorZNAmRange3
import Derived.Test.YtdiggaadgjkgkaaGreatDoorZNAmRep
import Derived.Test.YtdiggaadgjkgkaaGreatDoorZNAmDoms
import Derived.Test.YtdiggaadgjkgkaaGreatDoorZNAmWalk
import Derived.Test.YtdiggaadgjkgkaaGreatDoorProg
namespace Am
set_option linter.unusedSimpArgs false
set_option linter.unusedVariables false
open Go
open Go.Proofs.Tryz (prog)

def qNg:AC :=
 (.seq (.seq (.ops [⟨(some 3),none,.q (.load (.tmp 1)),[]⟩,
 ⟨(some 4),none,.q (.bin .neq (.tmp 3) (.const (.int .u64 0))),[]⟩])
 (.cond (.tmp 4)
 .skip
 (.exit 0)))
 (.seq (.block 1 (.seq (.ops [⟨(some 9),none,.q (.val (.tmp 0)),[]⟩,
 ⟨(some 10),none,.q (.load (.tmp 1)),[]⟩,
 ⟨(some 11),none,.call 115 [(.tmp 10)],[]⟩,
 ⟨(some 12),none,.callv (.tmp 9) [(.tmp 11)],[]⟩,
 ⟨(some 13),none,.q (.not (.tmp 12)),[]⟩])
 (.cond (.tmp 13)
 .ret
 .skip)))
 (.ops [⟨(some 5),none,.q (.load (.tmp 1)),[]⟩,
 ⟨(some 6),none,.q (.load (.tmp 1)),[]⟩,
 ⟨(some 7),none,.q (.bin .sub (.tmp 6) (.const (.int .u64 1))),[]⟩,
 ⟨(some 8),none,.q (.bin .and (.tmp 5) (.tmp 7)),[]⟩,
 ⟨none,none,.e (.store 1 (.tmp 1) (.tmp 8)),[]⟩])))
def c_each1:AC:=.block 0 (.loop qNg)
abbrev uB (s:Nat):Ob:=.row ⟨[.int .u64 s],1,0,true⟩
theorem ldV_box {H:Heap} {b s:Nat} (h:H[b]?=some (uB s)):ldV H (.pointer (some ⟨b,0,some 0⟩))=some (.int .u64 s):=by
  simp [ldV,Heap.cell?,Heap.row?,h]
theorem storeV_box {H:Heap} {b s t:Nat} (h:H[b]?=some (uB s)):qBu H 1 (.pointer (some ⟨b,0,some 0⟩)) (.int .u64 t)=some (H.set b (uB t)):=by
  simp [qBu,Heap.row?,h,cellsOf,setAll]
theorem sub_and {s:Nat} (h0:s≠0) (h:s < 18446744073709551616):binV .sub (.int .u64 s) (.int .u64 1)=some (.int .u64 ((s - 1:Nat):Int)):=by
  have:IntKind.u64.wrap ((s:Int) - 1)=((s - 1:Nat):Int):=by rw [wrap_u64 (by omega) (by omega)]; omega
  simp [binV,isSh,binI,this]
theorem and_u64 {a b:Nat} (ha:a < 18446744073709551616) (hb:b < 18446744073709551616):binV .and (.int .u64 a) (.int .u64 b)=some (.int .u64 ((a &&& b:Nat):Int)):=by
  simp [qQm ha hb]

theorem each1_call {l:Nat} {Y:YSem} (I:Nat→Heap→Prop) (X:Code→Heap→Prop) {b:Nat}
    (hbox:∀ s H,I s H→s < 18446744073709551616∧H[b]?=some (uB s))
    (hround:∀ s H K,I s H→s≠0→(∀ H',H'[b]?=some (uB s)→I (s &&& (s - 1)) (H'.set b (uB (s &&& (s - 1))))→K none H')→(∀ c H',X c H'→K (some c) H')→Y [.int .i64 (Go.Lib.ctz 64 s)] H K)
    {s:Nat} {H:Heap} (h0:I s H):qRw prog l Y 114 [.func (.yield l) #[] #[],.pointer (some ⟨b,0,some 0⟩)] H fun st H'=>match st with | none=>I 0 H' | some c=>X c H':=by
  refine cally_of (x:=c_each1) Go.Proofs.Tryz.func114 rfl rfl (by kernel_rfl) rfl (by show 2≤14; decide) ?_
  obtain ⟨Q,hQ⟩:∃ Q:qHw,Q=qUk fun st H'=>match st with | none=>I 0 H' | some c=>X c H':=⟨_,rfl⟩
  rw [← hQ];have key:∀ (n s:Nat) (H:Heap) (fr:Fr),s < n→I s H→fr 0=.func (.yield l) #[] #[]→fr 1=.pointer (some ⟨b,0,some 0⟩)→qKu (ywp prog l Y qNg) (qHs 0 Q) n none fr H:=by
    intro n
    induction n with
    | zero=>intro s H fr h; omega
    | succ n ih =>
      intro s H fr hs hI f0 f1;obtain ⟨hlt,hb⟩:=hbox s H hI;have hl:=ldV_box hb;show ywp prog l Y qNg (seqY (qKu (ywp prog l Y qNg) (qHs 0 Q) n) (qHs 0 Q)) none fr H
      generalize qKu (ywp prog l Y qNg) (qHs 0 Q) n=R at ih ⊢
      by_cases h0:s=0
      . subst h0
        have hn:binV .neq (.int .u64 ((0:Nat):Int)) (.int .u64 0)=some (.bool false):=rfl;simp [qNg,ywp,yOps,seqY,qHs,qLh,f1,hl];rw [hQ];exact hI
      . have h0':¬ (s:Int)=0:=by omega
        simp [qNg,ywp,yOps,seqY,qHs,qLh,f1,hl,h0,h0'];refine tz_call hlt ?_;simp [callK_def,f0,f1];refine hround s H _ hI h0 (fun H' hb' hI'=>?_) (fun c H' hX=>?_)
        . have hc':H'.cell? b 0 0=some (.int .u64 s):=ldV_box hb'
          have hlt1:s - 1 < 18446744073709551616:=by omega
          have hst:=storeV_box (t:=s &&& (s - 1)) hb';have hsub:=sub_and h0 hlt;have hand:=and_u64 hlt hlt1;rw [binV_sub] at hsub;rw [binV_and] at hand;simp only [Option.some.injEq,Value.int.injEq,true_and] at hsub hand;have hl':ldV H' (.pointer (some ⟨b,0,some 0⟩))=some (.int .u64 s):=hc';simp [hc',hl',f0,f1,hsub,hand,hst];refine ih _ _ _ ?_ hI' (by simp [f0]) (by simp [f1])
          have:s &&& (s - 1)≤s - 1:=Nat.and_le_right;omega
        . simp
          rw [hQ];exact hX
  exact ⟨s+1,key (s+1) s H _ (by omega) h0 rfl rfl⟩
end Am

/- The abstract machine: the numbers of a set as a list.
   No condition: plain lemmas. -/
namespace Am
set_option linter.unusedSimpArgs false
set_option linter.unusedVariables false
open Go
open Go.Proofs.Tryz (prog)

theorem ctz_split {s:Nat} (h0:s≠0) (h:s < 18446744073709551616):∃ m,s=2 ^ Go.Lib.ctz 64 s * (2 * m+1)∧Go.Lib.ctz 64 s < 64:=by
  obtain ⟨m,hm,hk⟩:=Go.Lib.ctzFrom_spec 64 s (by omega) h
  have e:Go.Lib.ctz 64 s=Go.Lib.ctzFrom 64 s:=by simp [Go.Lib.ctz,h0]
  rw [e];exact ⟨m,hm,hk⟩
theorem bit_split {k m i:Nat}:(2 ^ k * (2 * m+1)).testBit i=(decide (i=k) || (decide (k < i) && m.testBit (i - k - 1))):=by
  rw [Nat.mul_comm,Nat.testBit_mul_two_pow]
  by_cases h1:k≤i
  . by_cases h2:i=k
    . subst h2; simp [Nat.testBit_zero]
    . obtain ⟨j,rfl⟩:∃ j,i=k+(j+1):=⟨i - k - 1,by omega⟩
      have e:k+(j+1) - k=j+1:=by omega
      have e2:k+(j+1) - k - 1=j:=by omega
      have e3:(2 * m+1) / 2=m:=by omega
      rw [e2];simp [e,Nat.testBit_succ,e3]
  . have:¬ i=k:=by omega
    have:¬ k < i:=by omega
    simp [*]
theorem clear_low {s:Nat} (h0:s≠0) (h:s < 18446744073709551616) (i:Nat):(s &&& (s - 1)).testBit i=(s.testBit i && !decide (i=Go.Lib.ctz 64 s)):=by
  obtain ⟨m,hm,hk⟩:=ctz_split h0 h;obtain ⟨k,hkk⟩:∃ k,k=Go.Lib.ctz 64 s:=⟨_,rfl⟩;rw [← hkk] at hm hk ⊢;rw [Nat.testBit_and];have e1:s - 1=2 ^ k * (2 * m)+(2 ^ k - 1):=by
    have:0 < 2 ^ k:=Nat.two_pow_pos k;rw [hm,Nat.mul_add]; omega
  have e2:(s - 1).testBit i=if i < k then true else if i=k then false else m.testBit (i - k - 1):=by
    rw [e1]
    by_cases h1:i < k
    . rw [if_pos h1,Nat.testBit_two_pow_mul_add (b:=2 ^ k - 1) (2 * m) (by have:=Nat.two_pow_pos k; omega) i,if_pos h1]
      rw [Nat.testBit_two_pow_sub_one]; simp [h1]
    . rw [if_neg h1,Nat.testBit_two_pow_mul_add (b:=2 ^ k - 1) (2 * m) (by have:=Nat.two_pow_pos k; omega) i,if_neg h1]
      by_cases h2:i=k
      . subst h2; simp [Nat.testBit_zero]
      . rw [if_neg h2]
        obtain ⟨j,rfl⟩:∃ j,i=k+(j+1):=⟨i - k - 1,by omega⟩
        have e:k+(j+1) - k=j+1:=by omega
        have e2:k+(j+1) - k - 1=j:=by omega
        rw [e2,e,Nat.testBit_succ]
        congr 1; omega
  rw [e2,hm,bit_split]
  by_cases h1:i < k
  . have h2:¬ i=k:=by omega
    have h3:¬ k < i:=by omega
    simp [h1,h2,h3]
  . by_cases h2:i=k
    . subst h2; simp
    . have h3:k < i:=by omega
      simp [h1,h2,h3]
def qCc (s:Nat):List Int:=((List.range 64).filter fun i=>s.testBit i).map fun i:Nat=>(i:Int)
theorem bitsI_cons {s:Nat} (h0:s≠0) (h:s < 18446744073709551616):qCc s=((Go.Lib.ctz 64 s:Nat):Int) :: qCc (s &&& (s - 1)):=by
  obtain ⟨m,hm,hk⟩:=ctz_split h0 h;have hc:=clear_low h0 h;obtain ⟨k,hkk⟩:∃ k,k=Go.Lib.ctz 64 s:=⟨_,rfl⟩;rw [← hkk] at hm hk hc ⊢;have hb:∀ i,s.testBit i=(decide (i=k) || (decide (k < i) && m.testBit (i - k - 1))):=fun i=>by rw [hm]; exact bit_split
  have e:List.range 64=List.range' 0 k++k :: List.range' (k+1) (63 - k):=by
    rw [List.range_eq_range',show (64:Nat)=k+(1+(63 - k)) by omega,← List.range'_append_1,← List.range'_append_1]
    simp
  unfold qCc;rw [e,List.filter_append,List.filter_append,List.filter_cons,List.filter_cons];have z1:(List.range' 0 k).filter (fun i=>s.testBit i)=[]:=by
    rw [List.filter_eq_nil_iff];intro i hi;have h0:=List.mem_range'_1.1 hi;rw [hb];have h1:¬ i=k:=by omega
    have h2:¬ k < i:=by omega
    simp [h1,h2]
  have z2:(List.range' 0 k).filter (fun i=>(s &&& (s - 1)).testBit i)=[]:=by
    rw [List.filter_eq_nil_iff];intro i hi;have h0:=List.mem_range'_1.1 hi;rw [hc,hb];have h1:¬ i=k:=by omega
    have h2:¬ k < i:=by omega
    simp [h1,h2]
  have z3:(List.range' (k+1) (63 - k)).filter (fun i=>(s &&& (s - 1)).testBit i)=(List.range' (k+1) (63 - k)).filter (fun i=>s.testBit i):=by
    apply List.filter_congr;intro i hi;have h0:=List.mem_range'_1.1 hi;rw [hc];have h1:¬ i=k:=by omega
    simp [h1]
  have y1:s.testBit k=true:=by rw [hb]; simp
  have y2:(s &&& (s - 1)).testBit k=false:=by rw [hc]; simp
  rw [z1,z2,z3,if_pos y1,if_neg (by rw [y2]; simp)]
  simp
end Am

/- The abstract machine: the numbers of a set, collected.
   No condition: plain lemmas. -/
namespace Am
set_option linter.unusedSimpArgs false
set_option linter.unusedVariables false
open Go
open Go.Proofs.Tryz (prog)

def xs0:AC:=.ops [⟨some 2,none,.e (.box 1 1 (.tmp 0)),[]⟩,⟨some 4,none,.q (.val (.const (.slice none 0 0))),[]⟩]
def xs1:AC:=.ops [⟨some 6,none,.q (.val (.tmp 1)),[]⟩]
def xsA:AC:=.ops [⟨some 5,none,.q (.val (.tmp 7)),[]⟩]
def xsB:AC:=.block 1 (.ops [⟨some 8,none,.q (.load (.tmp 2)),[]⟩,⟨some 9,none,.q (.val (.tmp 5)),[]⟩,⟨some 10,none,.e (.lit [(.int .i64 0)] 1 1 [(0,1,(.tmp 9))]),[]⟩,
  ⟨some 11,none,.e (.app 1 (.tmp 8) (.tmp 10)),[]⟩,⟨none,none,.e (.store 1 (.tmp 2) (.tmp 11)),[]⟩])
def xs2:AC:=.seq (.ops [⟨some 12,none,.q (.load (.tmp 2)),[]⟩,⟨some 4,none,.q (.val (.tmp 12)),[]⟩]) .ret

abbrev iV (x:Int):Value:=.int .i64 x
def OwnI (b:Nat) (H:Heap) (v:Value) (l:List Int):Prop :=
  (v=.slice none 0 0∧l=[])∨∃ id ver,v=.slice (some ⟨id,0,none⟩) l.length ver∧b < id∧H[id]?=some (.row ⟨l.map iV,1,ver,true⟩)
structure SeqI (H0:Heap) (b s:Nat) (t:Nat) (H:Heap) (v:Value) (pre:List Int):Prop where
  lt:t < 18446744073709551616
  box:H[b]?=some (uB t)
  row:H[H0.length]?=some (.row ⟨[v],1,0,true⟩)
  own:OwnI H0.length H v pre
  all:qCc s=pre++qCc t
  same:∀ i,i < H0.length→i≠b→H[i]?=H0[i]?
  len:H0.length < H.length
theorem bitsI_len (s:Nat):(qCc s).length≤64:=by
  unfold qCc;rw [List.length_map];exact Nat.le_trans (List.length_filter_le _ _) (by simp)

theorem qRw.mono {P:Program} {l:Nat} {Y:YSem} {f:FuncId} {args:List Value} {H:Heap} {K K':Option Code→Heap→Prop} (h:qRw P l Y f args H K) (hk:∀ s H,K s H→K' s H):qRw P l Y f args H K' :=
  fun G m0 H0 w0 hG hY m w cargs g hA hK hv=>(h G m0 H0 w0 hG hY m w cargs g hA hK hv).mono fun _ _ ⟨v,s,H',m',e,q,r⟩=>⟨v,s,H',m',e,hk _ _ q,r⟩

theorem qMk {α:Type} {l:List α} {i j:Nat} {x:α} (h:i≠j):(l.set i x)[j]?=l[j]?:=List.getElem?_set_ne h
theorem qSu {α:Type} {l:List α} {i:Nat} {x:α} (h:i < l.length):(l.set i x)[i]?=some x:=List.getElem?_set_self h
theorem seqI_push {H0:Heap} {b s t:Nat} {H:Heap} {v:Value} {pre:List Int} (w:SeqI H0 b s t H v pre) (hbl:b < H0.length) (h0:t≠0) :
    ∃ v' H2 H3,appV (newRow H [iV (Go.Lib.ctz 64 t:Nat)] 1) 1 v (.slice (some ⟨H.length,0,none⟩) 1 0)=some (v',H2)∧qBu H2 1 (.pointer (some ⟨H0.length,0,some 0⟩)) v'=some H3∧H3[b]?=some (uB t) ∧
      SeqI H0 b s (t &&& (t - 1)) (H3.set b (uB (t &&& (t - 1)))) v' (pre++[((Go.Lib.ctz 64 t:Nat):Int)]):=by
  obtain ⟨x,hx⟩:∃ x:Int,x=((Go.Lib.ctz 64 t:Nat):Int):=⟨_,rfl⟩;have hall:qCc s=(pre++[x])++qCc (t &&& (t - 1)):=by rw [w.all,bitsI_cons h0 w.lt,hx]; simp
  have hpre:pre.length+1≤64:=by
    have h1:=bitsI_len s;rw [hall] at h1;simp at h1; omega
  rw [← hx];have hlen:=w.len;obtain ⟨H1,hH1⟩:∃ H1,H1=newRow H [iV x] 1:=⟨_,rfl⟩;have g1:∀ i,i < H.length→H1[i]?=H[i]?:=fun i hi=>by rw [hH1]; simp [newRow,hi,List.getElem?_append_left]
  have g2:H1[H.length]?=some (.row ⟨[iV x],1,0,true⟩):=by rw [hH1]; simp [newRow]
  have g3:H1.length=H.length+1:=by rw [hH1]; simp [newRow]
  have hel:qDz H1 1 (.slice (some ⟨H.length,0,none⟩) 1 0)=some (1,[iV x]):=by
    simp [qDz,Heap.cells?,Heap.row?,g2]
  have hlt:t &&& (t - 1) < 18446744073709551616:=by
    have:t &&& (t - 1)≤t:=Nat.and_le_left;have:=w.lt;omega
  have hcl:∀ (v':Value) (H2:Heap),cellsOf v'=some [v']→H2.length ≥ H.length→(∀ i,i≤H0.length→H2[i]?=H[i]?)→OwnI H0.length H2 v' (pre++[x])→
      ∃ H3,qBu H2 1 (.pointer (some ⟨H0.length,0,some 0⟩)) v'=some H3∧H3[b]?=some (uB t)∧SeqI H0 b s (t &&& (t - 1)) (H3.set b (uB (t &&& (t - 1)))) v' (pre++[x]):=by
    intro v' H2 hc hl hs ho;have hr:H2[H0.length]?=some (.row ⟨[v],1,0,true⟩):=by rw [hs _ (Nat.le_refl _)]; exact w.row
    refine ⟨H2.set H0.length (.row ⟨[v'],1,0,true⟩),by simp [qBu,Heap.row?,hr,hc,setAll],?_,hlt,?_,?_,?_,hall,fun i hi hib=>?_,by simp; omega⟩
    . rw [qMk (by omega),hs _ (by omega)]; exact w.box
    . rw [qSu (by simp; omega)]
    . rw [qMk (by omega),qSu (by omega)]
    . rcases ho with ⟨h1,h2⟩ | ⟨id,ver,h1,h2,h3⟩
      . exact .inl ⟨h1,h2⟩
      . exact .inr ⟨id,ver,h1,h2,by rw [qMk (by omega),qMk (by omega)]; exact h3⟩
    . rw [qMk (fun e=>hib e.symm),qMk (by omega),hs _ (by omega)]; exact w.same i hi hib
  rcases w.own with ⟨rfl,rfl⟩ | ⟨id,ver,rfl,h2,h3⟩
  . obtain ⟨H3,k1,k2,k3⟩:=hcl (.slice (some ⟨H1.length,0,none⟩) 1 0) (newRow H1 [iV x] 1) rfl (by simp [newRow]; omega) (fun i hi=>by rw [← g1 i (by omega)]; simp [newRow]; rw [List.getElem?_append_left (by omega)]) (.inr ⟨H1.length,0,rfl,by omega,by simp [newRow]⟩)
    rw [← hH1];refine ⟨_,_,H3,?_,k1,k2,k3⟩;simp [appV,hel,lim]
  . have hid:id < H.length:=(List.getElem?_eq_some_iff.1 h3).1
    have h3':H1[id]?=some (.row ⟨pre.map iV,1,ver,true⟩):=by rw [g1 id hid]; exact h3
    obtain ⟨H3,k1,k2,k3⟩:=hcl (.slice (some ⟨id,0,none⟩) (pre.length+1) (ver+1)) (H1.set id (.row ⟨(pre++[x]).map iV,1,ver+1,true⟩)) rfl (by simp; omega) (fun i hi=>by rw [qMk (by omega)]; exact g1 i (by omega)) (.inr ⟨id,ver+1,by simp,h2,by rw [qSu (by omega)]⟩)
    rw [← hH1];refine ⟨_,_,H3,?_,k1,k2,k3⟩;have ht:(pre.map iV).take pre.length=pre.map iV:=List.take_of_length_le (by simp)
    have hlm:pre.length+1≤1048576:=by omega
    simp [appV,hel,Heap.row?,h3',lim,hlm,ht]
theorem appendSeq_call {s:Nat} (hs:s < 18446744073709551616) {H:Heap} {b:Nat} (hb:H[b]?=some (uB s)) {K:Value→Heap→Prop}
    (hk:∀ v H',L1 iV (From H.length) H' v (qCc s)→(∀ i,i < H.length→i≠b→H'[i]?=H[i]?)→H.length≤H'.length→K v H') :
    qCq prog 113 [.slice none 0 0,.func (.func 114) #[] #[.pointer (some ⟨b,0,some 0⟩)]] H K:=by
  refine acall_range (x0:=xs0) (x1:=xs1) (x2:=xs2) (xa:=xsA) (xb:=xsB) (r:=[.tmp 4]) Go.Proofs.Tryz.func113 rfl (by kernel_rfl) (by kernel_rfl) (by kernel_rfl) (by kernel_rfl) (by kernel_rfl) (by kernel_rfl) (by kernel_rfl) (by kernel_rfl) rfl (by show 2≤13; decide) ?_
  have hbl:b < H.length:=(List.getElem?_eq_some_iff.1 hb).1;simp [xs0,xs1,ywp,yOps,seqY,qBv,cellsOf];refine ⟨_,#[],_,⟨rfl,rfl,rfl⟩,by kernel_rfl,fun l=>?_⟩
  refine (each1_call (b:=b) (fun t H'=>∃ v pre,SeqI H b s t H' v pre) (fun _ _=>False) (fun t H' ⟨v,pre,w⟩=>⟨w.lt,w.box⟩) ?_ (s:=s) ⟨.slice none 0 0,[],⟨hs,?_,?_,.inl ⟨rfl,rfl⟩,rfl,fun i hi _=>?_,?_⟩⟩).mono ?_
  . rintro t H' K' ⟨v,pre,w⟩ h0 k1 k2
    refine ⟨rfl,?_⟩;have hl1:H'.cell? H.length 0 0=some v:=by simp [Heap.cell?,Heap.row?,w.row]
    obtain ⟨v',H2,H3,q1,q2,q3,q4⟩:=seqI_push w hbl h0;simp [xsA,xsB,ywp,yOps,seqY,qHs,qRd,qBv,hl1,qEa,setAll,cellsOf,q1,q2];exact k1 H3 q3 ⟨v',_,q4⟩
  . simp only [newRow]
    rw [List.getElem?_append_left hbl]; exact hb
  . simp [newRow]
  . simp [newRow,hi,List.getElem?_append_left]
  . simp [newRow]
  . rintro st H' hst
    cases st with
    | none =>
      obtain ⟨v,pre,w⟩:=hst;have hl1:H'.cell? H.length 0 0=some v:=by simp [Heap.cell?,Heap.row?,w.row]
      simp [qTm,qHs,seqY,xs2,ywp,yOps,qBv,hl1,qRx,qAu,resV,retV];refine hk v H' ?_ w.same (Nat.le_of_lt w.len);have e:qCc s=pre:=by rw [w.all]; simp [qCc]
      rw [e];rcases w.own with ⟨h1,h2⟩ | ⟨id,ver,h1,h2,h3⟩
      . rw [h1,h2]; exact .nil
      . rw [h1]; exact .ofRow h3 (Nat.le_of_lt h2)
    | some c=>exact hst.elim
end Am

/- Codes of the program's functions, as a program printed them, and that they are what the program's functions are compiled to.
   No condition: plain facts. -/
namespace Am
open Go
set_option maxRecDepth 100000
def qSe:AFn :=
⟨(.seq (.ops [⟨(some 1),none,.e (.box 1 1 (.tmp 0)),[]⟩,
 ⟨(some 2),none,.q (.val (.const .nilFunc)),[]⟩])
 (.seq (.ops [⟨(some 3),none,.q (.fn (.func 114) [(.tmp 1)]),[]⟩,
 ⟨(some 2),none,.q (.val (.tmp 3)),[]⟩])
 .ret)),[.tmp 2],4⟩
theorem c_each_is:qCd Proofs.Tryz.prog Proofs.Tryz.f83=some qSe:=by kernel_rfl
theorem call_each {args:List Value} {H:Heap} {K:Value→Heap→Prop} (hl:args.length≤4) (h:awp Proofs.Tryz.prog qSe.body (qAs qSe.results K) (qBv args) H):qCq Proofs.Tryz.prog 83 args H K :=
  qCp (by kernel_rfl) (by kernel_rfl) c_each_is hl h
def qQa:AFn :=
⟨(.seq (.ops [⟨(some 2),none,.q (.val (.const (.slice none 0 0))),[]⟩])
 (.seq (.ops [⟨(some 3),none,.q (.val (.tmp 0)),[]⟩,
 ⟨(some 4),none,.call 83 [(.tmp 3)],[]⟩,
 ⟨(some 5),none,.call 82 [(.tmp 4)],[]⟩,
 ⟨(some 2),none,.q (.val (.tmp 5)),[]⟩])
 .ret)),[.tmp 2],6⟩
theorem c_bList_is:qCd Proofs.Tryz.prog Proofs.Tryz.f40=some qQa:=by kernel_rfl
theorem call_bList {args:List Value} {H:Heap} {K:Value→Heap→Prop} (hl:args.length≤6) (h:awp Proofs.Tryz.prog qQa.body (qAs qQa.results K) (qBv args) H):qCq Proofs.Tryz.prog 40 args H K :=
  qCp (by kernel_rfl) (by kernel_rfl) c_bList_is hl h
def qKl:AFn :=
⟨(.seq (.ops [⟨(some 2),none,.q (.val (.const (.slice none 0 0))),[]⟩])
 (.seq (.ops [⟨(some 3),none,.q (.val (.tmp 0)),[]⟩,
 ⟨(some 4),none,.call 113 [(.const (.slice none 0 0)),(.tmp 3)],[]⟩,
 ⟨(some 2),none,.q (.val (.tmp 4)),[]⟩])
 .ret)),[.tmp 2],5⟩
theorem c_Collect_is:qCd Proofs.Tryz.prog Proofs.Tryz.f82=some qKl:=by kernel_rfl
theorem call_Collect {args:List Value} {H:Heap} {K:Value→Heap→Prop} (hl:args.length≤5) (h:awp Proofs.Tryz.prog qKl.body (qAs qKl.results K) (qBv args) H):qCq Proofs.Tryz.prog 82 args H K :=
  qCp (by kernel_rfl) (by kernel_rfl) c_Collect_is hl h
end Am

/- The abstract machine: a set's numbers as a list, and the first of them from one on.
   No condition: plain lemmas. -/
namespace Am
set_option linter.unusedSimpArgs false
set_option linter.unusedVariables false
open Go
open Go.Proofs.Tryz (prog)

abbrev eachV (b:Nat):Value:=.func (.func 114) #[] #[.pointer (some ⟨b,0,some 0⟩)]
theorem each_call {s:Nat} {H:Heap} {K:Value→Heap→Prop} (hk:K (eachV H.length) (H++[uB s])):qCq prog 83 [.int .u64 s] H K:=by
  refine call_each (by simp) ?_
  simp [qSe,qBv,cellsOf,newRow,qAs,qAu,resV,retV];exact hk
theorem Collect_call {s:Nat} (hs:s < 18446744073709551616) {H:Heap} {b:Nat} (hb:H[b]?=some (uB s)) {K:Value→Heap→Prop}
    (hk:∀ v H',L1 iV (From H.length) H' v (qCc s)→(∀ i,i < H.length→i≠b→H'[i]?=H[i]?)→H.length≤H'.length→K v H') :
    qCq prog 82 [eachV b] H K:=by
  refine call_Collect (by simp) ?_
  simp [qKl,qBv];refine appendSeq_call hs hb fun v H' h1 h2 h3=>?_
  simp [callK_def,qAs,qAu,resV,retV];exact hk v H' h1 h2 h3
theorem List_spec {s:Nat} (hs:s < 18446744073709551616) {H:Heap} {K:Value→Heap→Prop}
    (hk:∀ v H',L1 iV (From H.length) H' v (qCc s)→(∀ i,i < H.length→H'[i]?=H[i]?)→H.length≤H'.length→K v H') :
    qCq prog 40 [.int .u64 s] H K:=by
  refine call_bList (by simp) ?_
  simp [qQa,qBv];refine each_call ?_;simp [callK_def];refine Collect_call hs (b:=H.length) (by simp) fun v H' h1 h2 h3=>?_
  simp [callK_def,qAs,qAu,resV,retV];simp only [List.length_append,List.length_cons,List.length_nil] at h1 h2 h3;refine hk v H' (h1.mono (fun i hi=>(by have:H.length+(0+1)≤i:=hi; show H.length≤i; omega)) fun _ _=>rfl) (fun i hi=>?_) (by omega)
  rw [h2 i (by omega) (by omega),List.getElem?_append_left hi]

def fs2:AC:=.seq (.ops [⟨none,none,.e (.store 1 (.tmp 4) (.const (.int .i64 (-1)))),[]⟩]) .ret
end Am
