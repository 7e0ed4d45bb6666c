/- Graphs: what each can not be come to without: the law of the reckoning, with no program in sight.
   No condition: plain lemmas. -/
import Derived.Test.YtmdnkninbkcmkaaZVAmPreds
import Derived.Test.YtmdnkninbkcmkaaZVAmRep
import Derived.Test.YtmdnkninbkcmkaaZVAmCfgC
import Derived.Test.YtmdnkninbkcmkaaZVAmRun
namespace Am
set_option linter.unusedSimpArgs false
set_option linter.unusedVariables false
open Go

inductive Away (s:List (List Int)) (k:Nat):Nat→Prop
  | start (h:0 < s.length) (hk:0≠k):Away s k 0
  | step {i j:Nat} {l:List Int} (h:Away s k i) (hl:s[i]?=some l) (hj:(j:Int)∈l) (hlt:j < s.length) (hk:j≠k):Away s k j
theorem Away.come {s:List (List Int)} {k i:Nat} (h:Away s k i):Come s i:=by
  induction h with
  | start h _=>exact .start h
  | step _ hl hj hlt _ ih=>exact .step ih hl hj hlt
theorem Come.lt {s:List (List Int)} {i:Nat} (h:Come s i):i < s.length:=by cases h<;>assumption

def qSd (s:List (List Int)) (k i:Nat):Prop:=k < s.length∧Come s i∧¬ Away s k i
structure DomsOf (s:List (List Int)) (d:List Nat):Prop where
  len:d.length=s.length
  lt:∀ x∈d,x < 18446744073709551616
  bit:∀ i x k,d[i]?=some x→(x.testBit k=true↔qSd s k i)

def FB (s:List (List Int)) (out:List Nat) (i k:Nat):Prop:=k=i∨(k < s.length∧∀ (p y:Nat),(p:Int)∈qFq s s.length i→Come s p→out[p]?=some y→y.testBit k=true)
structure DI (s:List (List Int)) (out:List Nat):Prop where
  len:out.length=s.length
  lt:∀ x∈out,x < 18446744073709551616
  zero:0 < s.length→out[0]?=some 1
  none:∀ i x,¬ Come s i→out[i]?=some x→x=0
  above:∀ i x k,out[i]?=some x→qSd s k i→x.testBit k=true
  post:∀ i x k,0 < i→out[i]?=some x→Come s i→FB s out i k→x.testBit k=true

theorem FB.mono {s:List (List Int)} {out out':List Nat} {i k:Nat} (h:FB s out' i k) (hle:∀ (p y:Nat),out[p]?=some y→∃ y',out'[p]?=some y'∧(y'.testBit k=true→y.testBit k=true)):FB s out i k:=by
  rcases h with h | ⟨h1,h2⟩
  . exact .inl h
  . refine .inr ⟨h1,fun p y hp hc hy=>?_⟩
    obtain ⟨y',e1,e2⟩:=hle p y hy;exact e2 (h2 p y' hp hc e1)

theorem back_of {s:List (List Int)} {i p:Nat}:(p:Int)∈qFq s s.length i↔∃ l,s[p]?=some l∧(i:Int)∈l:=by
  rw [qJe];constructor
  . rintro ⟨a,h1,h2,h3⟩
    have:a=p:=by omega
    subst this;exact ⟨s[a],List.getElem?_eq_getElem h2,by simpa [qEd,h2] using h3⟩
  . rintro ⟨l,h1,h2⟩
    exact ⟨p,rfl,(List.getElem?_eq_some_iff.1 h1).1,by rw [qHn h1]; exact h2⟩

theorem le_of_bits {a b:Nat} (h:∀ k,a.testBit k=true→b.testBit k=true):a≤b:=by
  have e:a &&& b=a:=by
    apply Nat.eq_of_testBit_eq;intro k;rw [Nat.testBit_and];cases hk:a.testBit k with
    | false=>rfl
    | true=>rw [h k hk]; rfl
  rw [← e]; exact Nat.and_le_right

theorem DI.set {s:List (List Int)} {out:List Nat} (h:DI s out) {i x y:Nat} (hi:0 < i) (hc:Come s i) (hx:out[i]?=some x) (hy:∀ k,y.testBit k=true↔FB s out i k) (hne:y≠x):DI s (out.set i y)∧(out.set i y).sum < out.sum:=by
  have hil:=(List.getElem?_eq_some_iff.1 hx).1;have hsub:∀ k,y.testBit k=true→x.testBit k=true:=fun k hk=>h.post i x k hi hx hc ((hy k).1 hk)
  have hle:=le_of_bits hsub;have hat:∀ {j z:Nat},(out.set i y)[j]?=some z→(j=i∧z=y)∨(j≠i∧out[j]?=some z):=by
    intro j z hz
    by_cases e:j=i
    . subst e; rw [List.getElem?_set_self hil] at hz; exact .inl ⟨rfl,(Option.some.inj hz).symm⟩
    . rw [List.getElem?_set_ne (Ne.symm e)] at hz; exact .inr ⟨e,hz⟩
  have hdown:∀ (k p z:Nat),out[p]?=some z→∃ z',(out.set i y)[p]?=some z'∧(z'.testBit k=true→z.testBit k=true):=by
    intro k p z hz
    by_cases e:p=i
    . subst e
      rw [hx] at hz; cases hz;exact ⟨y,List.getElem?_set_self hil,hsub k⟩
    . exact ⟨z,by rw [List.getElem?_set_ne (Ne.symm e)]; exact hz,fun h=>h⟩
  have hsum:=sum_set out i x y hx;refine ⟨⟨by simp [h.len],fun z hz=>?_,fun h0=>?_,fun j z hj hz=>?_,fun j z k hz hd=>?_,fun j z k hj hz hcj hf=>?_⟩,by omega⟩
  . obtain ⟨j,hj⟩:=List.mem_iff_getElem?.1 hz
    rcases hat hj with ⟨rfl,rfl⟩ | ⟨_,e⟩
    . have:=h.lt x (List.mem_of_getElem? hx); omega
    . exact h.lt z (List.mem_of_getElem? e)
  . rw [List.getElem?_set_ne (by omega)]; exact h.zero h0
  . rcases hat hz with ⟨rfl,rfl⟩ | ⟨_,e⟩
    . exact absurd hc hj
    . exact h.none j z hj e
  . rcases hat hz with ⟨rfl,rfl⟩ | ⟨_,e⟩
    . refine (hy k).2 ?_
      by_cases hk:k=j
      . exact .inl hk
      . refine .inr ⟨hd.1,fun p z hp hcp hz=>h.above p z k hz ⟨hd.1,hcp,fun ha=>hd.2.2 ?_⟩⟩
        obtain ⟨l,h1,h2⟩:=back_of.1 hp;exact .step ha h1 h2 hc.lt (Ne.symm hk)
    . exact h.above j z k e hd
  . have hf':=hf.mono (hdown k)
    rcases hat hz with ⟨rfl,rfl⟩ | ⟨_,e⟩
    . exact (hy k).2 hf'
    . exact h.post j z k hj e hcj hf'

theorem DI.done {s:List (List Int)} {out:List Nat} (h:DI s out) (hfix:∀ i x,0 < i→Come s i→out[i]?=some x→∀ k,x.testBit k=true↔FB s out i k):DomsOf s out:=by
  have key:∀ {k i:Nat},Away s k i→∀ x,out[i]?=some x→x.testBit k=false:=by
    intro k i ha
    induction ha with
    | start h0 hk =>
      intro x hx;rw [h.zero h0] at hx; cases hx;rw [show (1:Nat)=2 ^ 0 from rfl,Nat.testBit_two_pow]; simp; omega
    | @step p j l hp hl hj hlt hk ih =>
      intro x hx;cases hb:x.testBit k with
      | false=>rfl
      | true =>
        exfalso;rcases Nat.eq_zero_or_pos j with rfl | hj0
        . rw [h.zero (by omega)] at hx; cases hx
          rw [show (1:Nat)=2 ^ 0 from rfl,Nat.testBit_two_pow] at hb;exact hk (by simpa using hb)
        . have hcj:Come s j:=.step hp.come hl hj hlt
          rcases (hfix j x hj0 hcj hx k).1 hb with h1 | ⟨h1,h2⟩
          . exact hk h1.symm
          . have hpl:=hp.come.lt
            obtain ⟨y,hy⟩:∃ y,out[p]?=some y:=⟨_,List.getElem?_eq_getElem (by rw [h.len]; exact hpl)⟩
            have:=h2 p y (back_of.2 ⟨l,hl,hj⟩) hp.come hy;rw [ih y hy] at this; cases this
  refine ⟨h.len,h.lt,fun i x k hx=>⟨fun hb=>?_,fun hd=>h.above i x k hx hd⟩⟩
  have hil:i < s.length:=by rw [← h.len]; exact (List.getElem?_eq_some_iff.1 hx).1
  by_cases hc:Come s i
  . refine ⟨?_,hc,fun ha=>by rw [key ha x hx] at hb; cases hb⟩
    rcases Nat.eq_zero_or_pos i with rfl | hi0
    . rw [h.zero hil] at hx; cases hx
      rw [show (1:Nat)=2 ^ 0 from rfl,Nat.testBit_two_pow] at hb;have:0=k:=by simpa using hb
      omega
    . rcases (hfix i x hi0 hc hx k).1 hb with h1 | h1
      . omega
      . exact h1.1
  . rw [h.none i x hc hx] at hb; simp at hb

theorem qSx (n k:Nat):(2 ^ n - 1).testBit k=decide (k < n):=Nat.testBit_two_pow_sub_one n k

theorem DI.new {s:List (List Int)} {out:List Nat} (hlen:out.length=s.length) (hn:s.length≤64) (h0:0 < s.length→out[0]?=some 1)
    (hout:∀ i x,0 < i→out[i]?=some x→(Come s i→x=2 ^ s.length - 1)∧(¬ Come s i→x=0)):DI s out:=by
  have hbig:2 ^ s.length - 1 < 18446744073709551616:=by
    have h1:2 ^ s.length≤2 ^ 64:=Nat.pow_le_pow_right (by omega) hn
    have h2:0 < 2 ^ s.length:=Nat.two_pow_pos _;omega
  refine ⟨hlen,fun x hx=>?_,h0,fun i x hc hx=>?_,fun i x k hx hd=>?_,fun i x k hi hx hc hf=>?_⟩
  . obtain ⟨i,hi⟩:=List.mem_iff_getElem?.1 hx
    have hil:i < s.length:=by rw [← hlen]; exact (List.getElem?_eq_some_iff.1 hi).1
    rcases Nat.eq_zero_or_pos i with rfl | hp
    . rw [h0 hil] at hi; cases hi; omega
    . by_cases hc:Come s i
      . rw [(hout i x hp hi).1 hc]; exact hbig
      . rw [(hout i x hp hi).2 hc]; omega
  . rcases Nat.eq_zero_or_pos i with rfl | hp
    . have hil:0 < s.length:=by rw [← hlen]; exact (List.getElem?_eq_some_iff.1 hx).1
      exact absurd (Come.start hil) hc
    . exact (hout i x hp hx).2 hc
  . rcases Nat.eq_zero_or_pos i with rfl | hp
    . have hil:0 < s.length:=by rw [← hlen]; exact (List.getElem?_eq_some_iff.1 hx).1
      rw [h0 hil] at hx; cases hx;have:k=0:=by
        rcases Nat.eq_zero_or_pos k with h | h
        . exact h
        . exact absurd (Away.start hil (by omega)) hd.2.2
      subst this; rfl
    . rw [(hout i x hp hx).1 hd.2.1,qSx]; simpa using hd.1
  . rw [(hout i x hi hx).1 hc,qSx]
    rcases hf with h | h
    . subst h; simpa using hc.lt
    . simpa using h.1

def MB (s:List (List Int)) (out:List Nat) (i t k:Nat):Prop:=k < s.length∧∀ (p y:Nat),(p:Int)∈(qFq s s.length i).take t→Come s p→out[p]?=some y→y.testBit k=true
theorem MB.zero {s:List (List Int)} {out:List Nat} {i k:Nat}:(2 ^ s.length - 1).testBit k=true↔MB s out i 0 k:=by
  rw [qSx,decide_eq_true_iff];exact ⟨fun h=>⟨h,fun p y hp=>by simp at hp⟩,fun h=>h.1⟩
theorem MB.skip {s:List (List Int)} {out:List Nat} {i t p:Nat} (ht:t < (qFq s s.length i).length) (hp:(qFq s s.length i)[t]=(p:Int)) (hc:¬ Come s p) {x:Nat} (h:∀ k,x.testBit k=true↔MB s out i t k):∀ k,x.testBit k=true↔MB s out i (t+1) k:=by
  intro k;rw [h k];refine ⟨fun h=>⟨h.1,fun q y hq hcq hy=>?_⟩,fun h=>⟨h.1,fun q y hq=>h.2 q y ((qHm ht).2 (.inl hq))⟩⟩
  rcases (qHm ht).1 hq with hq | hq
  . exact h.2 q y hq hcq hy
  . have:q=p:=by rw [hp] at hq; omega
    subst this; exact absurd hcq hc
theorem MB.and {s:List (List Int)} {out:List Nat} {i t p z:Nat} (ht:t < (qFq s s.length i).length) (hp:(qFq s s.length i)[t]=(p:Int)) (hc:Come s p) (hz:out[p]?=some z) {x:Nat} (h:∀ k,x.testBit k=true↔MB s out i t k) :
    ∀ k,(x &&& z).testBit k=true↔MB s out i (t+1) k:=by
  intro k;rw [Nat.testBit_and,Bool.and_eq_true,h k];refine ⟨fun ⟨h,hk⟩=>⟨h.1,fun q y hq hcq hy=>?_⟩,fun h=>⟨⟨h.1,fun q y hq=>h.2 q y ((qHm ht).2 (.inl hq))⟩,h.2 p z ((qHm ht).2 (.inr hp.symm)) hc hz⟩⟩
  rcases (qHm ht).1 hq with hq | hq
  . exact h.2 q y hq hcq hy
  . have:q=p:=by rw [hp] at hq; omega
    subst this;rw [hz] at hy; cases hy; exact hk
theorem MB.done {s:List (List Int)} {out:List Nat} {i x:Nat} (h:∀ k,x.testBit k=true↔MB s out i (qFq s s.length i).length k):∀ k,(x ||| 2 ^ i).testBit k=true↔FB s out i k:=by
  intro k;rw [Nat.testBit_or,Nat.testBit_two_pow,Bool.or_eq_true,h k,decide_eq_true_iff];unfold MB FB;rw [List.take_length];constructor
  . rintro (h | h)
    . exact .inr h
    . exact .inl h.symm
  . rintro (h | h)
    . exact .inr h.symm
    . exact .inl h
end Am

/- Small sets: what the program's functions on them yield.
   No condition: plain lemmas. -/
namespace Am
set_option linter.unusedSimpArgs false
set_option linter.unusedVariables false
open Go
open Go.Proofs.Try (prog)

abbrev vU (s:Nat):Value:=.int .u64 s
theorem qHw (n:Nat):IntKind.u64.wrap (n:Int)=((n % 18446744073709551616:Nat):Int):=by
  simp [IntKind.wrap,IntKind.bits,IntKind.signed]
theorem qSu {a b:Nat} (ha:a < 18446744073709551616) (hb:b < 18446744073709551616):bits .u64 .or (a:Int) (b:Int)=((a ||| b:Nat):Int):=by
  have hab:a ||| b < 2 ^ 64:=Nat.or_lt_two_pow (by omega) (by omega)
  have e:bits .u64 .or (a:Int) (b:Int)=IntKind.u64.wrap (((BitVec.ofInt 64 (a:Int) ||| BitVec.ofInt 64 (b:Int)).toNat:Nat):Int):=rfl
  rw [e,BitVec.ofInt_natCast,BitVec.ofInt_natCast,BitVec.toNat_or,BitVec.toNat_ofNat,BitVec.toNat_ofNat,Nat.mod_eq_of_lt (a:=a) (by omega),Nat.mod_eq_of_lt (a:=b) (by omega),qHw,Nat.mod_eq_of_lt (by omega)]
theorem bits_and {a b:Nat} (ha:a < 18446744073709551616) (hb:b < 18446744073709551616):bits .u64 .and (a:Int) (b:Int)=((a &&& b:Nat):Int):=by
  have hab:a &&& b≤a:=Nat.and_le_left;have e:bits .u64 .and (a:Int) (b:Int)=IntKind.u64.wrap (((BitVec.ofInt 64 (a:Int) &&& BitVec.ofInt 64 (b:Int)).toNat:Nat):Int):=rfl;rw [e,BitVec.ofInt_natCast,BitVec.ofInt_natCast,BitVec.toNat_and,BitVec.toNat_ofNat,BitVec.toNat_ofNat,Nat.mod_eq_of_lt (a:=a) (by omega),Nat.mod_eq_of_lt (a:=b) (by omega),qHw,Nat.mod_eq_of_lt (by omega)]
theorem qRs {i:Nat} (h:i < 64):2 ^ i < 18446744073709551616:=by
  have:2 ^ i < 2 ^ 64:=Nat.pow_lt_pow_right (by omega) h
  omega
theorem shl_one {i:Nat} (h:i < 64):binV .shl (.int .u64 1) (.int .i64 (i:Int))=some (vU (2 ^ i)):=by
  rw [binV_shl (by omega)]
  have e:min ((i:Int).toNat) IntKind.u64.bits=i:=by simp [IntKind.bits]; omega
  rw [e,Int.one_mul];have:((2:Int) ^ i)=((2 ^ i:Nat):Int):=by simp
  rw [this,qHw,Nat.mod_eq_of_lt (qRs h)]

def bitN (i:Int):Nat:=if 0≤i∧i < 64 then 2 ^ i.toNat else 0
theorem qSv (i:Int):bitN i < 18446744073709551616:=by
  unfold bitN
  split
  . exact qRs (by omega)
  . omega
theorem bitN_nat {i:Nat} (h:i < 64):bitN i=2 ^ i:=by unfold bitN; rw [if_pos ⟨by omega,by omega⟩]; rfl

theorem bit_spec {H:Heap} {i:Int} {K:Value→Heap→Prop} (h:K (vU (bitN i)) H):qEp prog 65 [.int .i64 i] H K:=by
  refine call_bit (by simp) ?_
  by_cases h0:i < 0
  . have e:bitN i=0:=by unfold bitN; rw [if_neg (by omega)]
    rw [e] at h;simp [qTq,qDq,h0,qAu,qAv,resV,retV];exact h
  . by_cases h1:64≤i
    . have e:bitN i=0:=by unfold bitN; rw [if_neg (by omega)]
      rw [e] at h;simp [qTq,qDq,h0,h1,qAu,qAv,resV,retV];exact h
    . obtain ⟨j,rfl⟩:∃ j:Nat,i=j:=⟨i.toNat,by omega⟩
      rw [bitN_nat (by omega)] at h
      simp [qTq,qDq,h0,h1,shl_one (i:=j) (by omega),qAu,qAv,resV,retV]
      simpa using h

def allN (n:Nat):Nat:=2 ^ n - 1
theorem All_spec {H:Heap} {n:Nat} {K:Value→Heap→Prop} (hn:n≤64) (h:K (vU (allN n)) H):qEp prog 41 [.int .i64 n] H K:=by
  refine call_All (by simp) ?_
  rcases Nat.eq_zero_or_pos n with rfl | hp
  . simp [qTr,qDq,qAu,qAv,resV,retV]
    exact h
  . have h0:¬ (n:Int)≤0:=by omega
    by_cases h1:n=64
    . subst h1
      simp [qTr,qDq,qAu,qAv,resV,retV];exact h
    . have h2:¬ (64:Int)≤(n:Int):=by omega
      have hw:IntKind.u64.wrap (((2 ^ n:Nat):Int) - 1)=((allN n:Nat):Int):=by
        have hp:=qRs (i:=n) (by omega)
        have h3:1≤2 ^ n:=Nat.one_le_two_pow;have:(((2 ^ n:Nat):Int) - 1)=((2 ^ n - 1:Nat):Int):=by omega
        rw [this,qHw,Nat.mod_eq_of_lt (by omega)]; rfl
      have hp':n≠0:=by omega
      obtain ⟨x,hx⟩:∃ x,x=2 ^ n:=⟨_,rfl⟩;have hs:=shl_one (i:=n) (by omega)
      rw [← hx] at hs hw;simp [qTr,qDq,h0,h2,hp',hs,hw,qAu,qAv,resV,retV];exact h

def qPe (s:Nat) (l:List Int):Nat:=l.foldl (fun s i=>s ||| bitN i) s
theorem qUo {a b:Nat} (ha:a < 18446744073709551616) (hb:b < 18446744073709551616):a ||| b < 18446744073709551616:=by
  have:a ||| b < 2 ^ 64:=Nat.or_lt_two_pow (by omega) (by omega)
  omega
theorem qPv:∀ (l:List Int) (s:Nat),s < 18446744073709551616→qPe s l < 18446744073709551616
  | [],s,h=>h
  | i :: l,s,h=>qPv l _ (qUo h (qSv i))
theorem withN_step {l:List Int} {k:Nat} (hk:k < l.length) (s:Nat):qPe s (l.take k) ||| bitN l[k]=qPe s (l.take (k+1)):=by
  rw [← List.take_append_getElem hk];simp only [qPe,List.foldl_append,List.foldl_cons,List.foldl_nil]

set_option maxHeartbeats 1000000 in
theorem With_spec {H:Heap} {s:Nat} {v:Value} {l:List Int} {S:Nat→Prop} {K:Value→Heap→Prop} (hs:s < 18446744073709551616) (hv:L1 vI S H v l) (hl:l.length < lim) (h:K (vU (qPe s l)) H) :
    qEp prog 42 [vU s,v] H K:=by
  refine call_With (by simp) ?_
  have hlim:lim=1048576:=rfl;simp [qTj,qDq,hv.len];refine loop_rule (fun m fr H'=>H'=H∧fr 7=v∧fr 8=.int .i64 l.length∧∃ k:Nat,fr 9=.int .i64 k∧fr 0=vU (qPe s (l.take k))∧m=l.length - k∧k≤l.length) ?_ (n:=l.length) ?_
  . rintro m fr H' ⟨rfl,h7,h8,k,h9,h0,rfl,hk⟩
    obtain ⟨k',hk'⟩:∃ j,j=k+1:=⟨_,rfl⟩;have wk:IntKind.i64.wrap ((k:Int)+1)=(k':Int):=by rw [qCo (by omega) (by omega)]; omega
    by_cases hkl:k < l.length
    . obtain ⟨p,e1,e2⟩:=L1.at hv (List.getElem?_eq_getElem hkl)
      have e3:=qSu (qPv (l.take k) s hs) (qSv l[k]);simp [h7,h8,h9,h0,hkl,e1,e2];refine bit_spec ?_;simp [callK_def,h7,h8,h9,h0,e3,wk];exact ⟨_,by omega,k',rfl,by rw [withN_step hkl,hk'],rfl,by omega⟩
    . have:k=l.length:=by omega
      subst this;rw [List.take_length] at h0;simp [h7,h8,h9,h0,qAu,qAv,resV,retV];exact h
  . simp [qDq]
    exact ⟨0,rfl,rfl,by simp⟩

theorem two_spec {H:Heap} {i:Nat} {K:Value→Heap→Prop} (hi:i < 64) (h:K (vU (2 ^ i)) H):qEp prog 52 [.int .i64 i] H K:=by
  refine call_two (by simp) ?_
  simp [qUr,qDq];refine loop_rule (fun m fr H'=>H'=H∧fr 0=.int .i64 i∧∃ (k:Nat) (x:Nat),fr 4=.int .i64 k∧fr 3=vU x∧x=2 ^ k∧m=i - k∧k≤i) ?_ (n:=i) ?_
  . rintro m fr H' ⟨rfl,h0,k,x,h4,h3,hx,rfl,hk⟩
    obtain ⟨k',hk'⟩:∃ j,j=k+1:=⟨_,rfl⟩;have wk:IntKind.i64.wrap ((k:Int)+1)=(k':Int):=by rw [qCo (by omega) (by omega)]; omega
    by_cases hkl:k < i
    . have hp:=qRs (i:=k') (by omega)
      obtain ⟨y,hy⟩:∃ y,y=2 * x:=⟨_,rfl⟩;have hy':y=2 ^ k':=by rw [hy,hx,hk',Nat.pow_succ,Nat.mul_comm]
      have wx:IntKind.u64.wrap (2 * (x:Int))=(y:Int):=by
        have:2 * (x:Int)=((2 * x:Nat):Int):=by simp
        rw [this,qHw,← hy,Nat.mod_eq_of_lt (by omega)]
      simp [h0,h4,h3,hkl,wk,wx];exact ⟨_,by omega,k',rfl,y,rfl,hy',rfl,by omega⟩
    . have:k=i:=by omega
      subst this;rw [← hx] at h;simp [h0,h4,h3,qAu,qAv,resV,retV];exact h
  . simp [qDq]
    exact ⟨0,rfl,1,rfl,rfl,by simp⟩

end Am

/- Graphs: what each can not be come to without: the walk.
   No condition: plain lemmas. -/
namespace Am
set_option linter.unusedSimpArgs false
set_option linter.unusedVariables false
open Go
open Go.Proofs.Try (prog)

theorem sum_le:∀ (l:List Nat) (M:Nat),(∀ x∈l,x≤M)→l.sum≤l.length * M
  | [],M,_=>by simp
  | a :: l,M,h=>by
    have h1:=h a (by simp)
    have h2:=sum_le l M fun x hx=>h x (by simp [hx])
    simp only [List.sum_cons,List.length_cons,Nat.succ_mul];omega

theorem L1.one {H:Heap} {id ver:Nat} {x:Int} {rw:Bool} (h:H[id]?=some (.row ⟨[.int .i64 x],1,ver,rw⟩)):L1 vI Any H (.slice (some ⟨id,0,none⟩) 1 ver) [x]:=L1.ofRow (l:=[x]) h trivial

theorem DI.sum {s:List (List Int)} {out:List Nat} (h:DI s out) (hn:s.length≤64):out.sum < 65 * 18446744073709551616:=by
  have:=sum_le out 18446744073709551616 fun x hx=>Nat.le_of_lt (h.lt x hx)
  have:out.length * 18446744073709551616≤64 * 18446744073709551616:=Nat.mul_le_mul_right _ (by rw [h.len]; exact hn)
  omega

end Am
