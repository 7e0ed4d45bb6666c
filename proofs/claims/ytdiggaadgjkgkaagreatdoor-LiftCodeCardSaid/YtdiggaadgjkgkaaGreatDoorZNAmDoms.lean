/- Graphs: what each can not be come to without: the law of the reckoning, with no program in sight.
   No condition: plain lemmas. -/
import Derived.Test.YtdiggaadgjkgkaaGreatDoorZNAmPreds
import Derived.Test.YtdiggaadgjkgkaaGreatDoorZNAmRep
import Derived.Test.YtdiggaadgjkgkaaGreatDoorZNAmCfgC
import Derived.Test.YtdiggaadgjkgkaaGreatDoorZNAmCfgBack
namespace Am
set_option linter.unusedSimpArgs false
set_option linter.unusedVariables false
open Go

inductive Away (s:List (List Int)) (k:Nat):Nat→Prop
  | start (h:0 < s.length) (hk:0≠k):Away s k 0
  | step {i j:Nat} {l:List Int} (h:Away s k i) (hl:s[i]?=some l) (hj:(j:Int)∈l) (hlt:j < s.length) (hk:j≠k):Away s k j
theorem Away.come {s:List (List Int)} {k i:Nat} (h:Away s k i):Come s i:=by
  induction h with
  | start h _=>exact .start h
  | step _ hl hj hlt _ ih=>exact .step ih hl hj hlt
theorem Away.ne {s:List (List Int)} {k i:Nat} (h:Away s k i):i≠k:=by cases h<;>assumption
theorem Come.lt {s:List (List Int)} {i:Nat} (h:Come s i):i < s.length:=by cases h<;>assumption

def qIm (s:List (List Int)) (k i:Nat):Prop:=k < s.length∧Come s i∧¬ Away s k i
structure DomsOf (s:List (List Int)) (d:List Nat):Prop where
  len:d.length=s.length
  lt:∀ x∈d,x < 18446744073709551616
  bit:∀ i x k,d[i]?=some x→(x.testBit k=true↔qIm s k i)

def FB (s:List (List Int)) (out:List Nat) (i k:Nat):Prop:=k=i∨(k < s.length∧∀ (p y:Nat),(p:Int)∈qDc s s.length i→Come s p→out[p]?=some y→y.testBit k=true)
structure DI (s:List (List Int)) (out:List Nat):Prop where
  len:out.length=s.length
  lt:∀ x∈out,x < 18446744073709551616
  zero:0 < s.length→out[0]?=some 1
  none:∀ i x,¬ Come s i→out[i]?=some x→x=0
  above:∀ i x k,out[i]?=some x→qIm s k i→x.testBit k=true
  post:∀ i x k,0 < i→out[i]?=some x→Come s i→FB s out i k→x.testBit k=true

theorem FB.mono {s:List (List Int)} {out out':List Nat} {i k:Nat} (h:FB s out' i k) (hle:∀ (p y:Nat),out[p]?=some y→∃ y',out'[p]?=some y'∧(y'.testBit k=true→y.testBit k=true)):FB s out i k:=by
  rcases h with h | ⟨h1,h2⟩
  . exact .inl h
  . refine .inr ⟨h1,fun p y hp hc hy=>?_⟩
    obtain ⟨y',e1,e2⟩:=hle p y hy;exact e2 (h2 p y' hp hc e1)

theorem back_of {s:List (List Int)} {i p:Nat}:(p:Int)∈qDc s s.length i↔∃ l,s[p]?=some l∧(i:Int)∈l:=by
  rw [qDw];constructor
  . rintro ⟨a,h1,h2,h3⟩
    have:a=p:=by omega
    subst this;exact ⟨s[a],List.getElem?_eq_getElem h2,by simpa [qDr,h2] using h3⟩
  . rintro ⟨l,h1,h2⟩
    exact ⟨p,rfl,(List.getElem?_eq_some_iff.1 h1).1,by rw [qEe h1]; exact h2⟩

theorem le_of_bits {a b:Nat} (h:∀ k,a.testBit k=true→b.testBit k=true):a≤b:=by
  have e:a &&& b=a:=by
    apply Nat.eq_of_testBit_eq;intro k;rw [Nat.testBit_and];cases hk:a.testBit k with
    | false=>rfl
    | true=>rw [h k hk]; rfl
  rw [← e]; exact Nat.and_le_right

theorem DI.set {s:List (List Int)} {out:List Nat} (h:DI s out) {i x y:Nat} (hi:0 < i) (hc:Come s i) (hx:out[i]?=some x) (hy:∀ k,y.testBit k=true↔FB s out i k) (hne:y≠x):DI s (out.set i y)∧(out.set i y).sum < out.sum:=by
  have hil:=(List.getElem?_eq_some_iff.1 hx).1;have hsub:∀ k,y.testBit k=true→x.testBit k=true:=fun k hk=>h.post i x k hi hx hc ((hy k).1 hk)
  have hle:=le_of_bits hsub;have hat:∀ {j z:Nat},(out.set i y)[j]?=some z→(j=i∧z=y)∨(j≠i∧out[j]?=some z):=by
    intro j z hz
    by_cases e:j=i
    . subst e; rw [List.getElem?_set_self hil] at hz; exact .inl ⟨rfl,(Option.some.inj hz).symm⟩
    . rw [List.getElem?_set_ne (Ne.symm e)] at hz; exact .inr ⟨e,hz⟩
  have hdown:∀ (k p z:Nat),out[p]?=some z→∃ z',(out.set i y)[p]?=some z'∧(z'.testBit k=true→z.testBit k=true):=by
    intro k p z hz
    by_cases e:p=i
    . subst e
      rw [hx] at hz; cases hz;exact ⟨y,List.getElem?_set_self hil,hsub k⟩
    . exact ⟨z,by rw [List.getElem?_set_ne (Ne.symm e)]; exact hz,fun h=>h⟩
  have hsum:=sum_set out i x y hx;refine ⟨⟨by simp [h.len],fun z hz=>?_,fun h0=>?_,fun j z hj hz=>?_,fun j z k hz hd=>?_,fun j z k hj hz hcj hf=>?_⟩,by omega⟩
  . obtain ⟨j,hj⟩:=List.mem_iff_getElem?.1 hz
    rcases hat hj with ⟨rfl,rfl⟩ | ⟨_,e⟩
    . have:=h.lt x (List.mem_of_getElem? hx); omega
    . exact h.lt z (List.mem_of_getElem? e)
  . rw [List.getElem?_set_ne (by omega)]; exact h.zero h0
  . rcases hat hz with ⟨rfl,rfl⟩ | ⟨_,e⟩
    . exact absurd hc hj
    . exact h.none j z hj e
  . rcases hat hz with ⟨rfl,rfl⟩ | ⟨_,e⟩
    . refine (hy k).2 ?_
      by_cases hk:k=j
      . exact .inl hk
      . refine .inr ⟨hd.1,fun p z hp hcp hz=>h.above p z k hz ⟨hd.1,hcp,fun ha=>hd.2.2 ?_⟩⟩
        obtain ⟨l,h1,h2⟩:=back_of.1 hp;exact .step ha h1 h2 hc.lt (Ne.symm hk)
    . exact h.above j z k e hd
  . have hf':=hf.mono (hdown k)
    rcases hat hz with ⟨rfl,rfl⟩ | ⟨_,e⟩
    . exact (hy k).2 hf'
    . exact h.post j z k hj e hcj hf'

theorem DI.done {s:List (List Int)} {out:List Nat} (h:DI s out) (hfix:∀ i x,0 < i→Come s i→out[i]?=some x→∀ k,x.testBit k=true↔FB s out i k):DomsOf s out:=by
  have key:∀ {k i:Nat},Away s k i→∀ x,out[i]?=some x→x.testBit k=false:=by
    intro k i ha
    induction ha with
    | start h0 hk =>
      intro x hx;rw [h.zero h0] at hx; cases hx;rw [show (1:Nat)=2 ^ 0 from rfl,Nat.testBit_two_pow]; simp; omega
    | @step p j l hp hl hj hlt hk ih =>
      intro x hx;cases hb:x.testBit k with
      | false=>rfl
      | true =>
        exfalso;rcases Nat.eq_zero_or_pos j with rfl | hj0
        . rw [h.zero (by omega)] at hx; cases hx
          rw [show (1:Nat)=2 ^ 0 from rfl,Nat.testBit_two_pow] at hb;exact hk (by simpa using hb)
        . have hcj:Come s j:=.step hp.come hl hj hlt
          rcases (hfix j x hj0 hcj hx k).1 hb with h1 | ⟨h1,h2⟩
          . exact hk h1.symm
          . have hpl:=hp.come.lt
            obtain ⟨y,hy⟩:∃ y,out[p]?=some y:=⟨_,List.getElem?_eq_getElem (by rw [h.len]; exact hpl)⟩
            have:=h2 p y (back_of.2 ⟨l,hl,hj⟩) hp.come hy;rw [ih y hy] at this; cases this
  refine ⟨h.len,h.lt,fun i x k hx=>⟨fun hb=>?_,fun hd=>h.above i x k hx hd⟩⟩
  have hil:i < s.length:=by rw [← h.len]; exact (List.getElem?_eq_some_iff.1 hx).1
  by_cases hc:Come s i
  . refine ⟨?_,hc,fun ha=>by rw [key ha x hx] at hb; cases hb⟩
    rcases Nat.eq_zero_or_pos i with rfl | hi0
    . rw [h.zero hil] at hx; cases hx
      rw [show (1:Nat)=2 ^ 0 from rfl,Nat.testBit_two_pow] at hb;have:0=k:=by simpa using hb
      omega
    . rcases (hfix i x hi0 hc hx k).1 hb with h1 | h1
      . omega
      . exact h1.1
  . rw [h.none i x hc hx] at hb; simp at hb

theorem qRt (n k:Nat):(2 ^ n - 1).testBit k=decide (k < n):=Nat.testBit_two_pow_sub_one n k

theorem DI.new {s:List (List Int)} {out:List Nat} (hlen:out.length=s.length) (hn:s.length≤64) (h0:0 < s.length→out[0]?=some 1)
    (hout:∀ i x,0 < i→out[i]?=some x→(Come s i→x=2 ^ s.length - 1)∧(¬ Come s i→x=0)):DI s out:=by
  have hbig:2 ^ s.length - 1 < 18446744073709551616:=by
    have h1:2 ^ s.length≤2 ^ 64:=Nat.pow_le_pow_right (by omega) hn
    have h2:0 < 2 ^ s.length:=Nat.two_pow_pos _;omega
  refine ⟨hlen,fun x hx=>?_,h0,fun i x hc hx=>?_,fun i x k hx hd=>?_,fun i x k hi hx hc hf=>?_⟩
  . obtain ⟨i,hi⟩:=List.mem_iff_getElem?.1 hx
    have hil:i < s.length:=by rw [← hlen]; exact (List.getElem?_eq_some_iff.1 hi).1
    rcases Nat.eq_zero_or_pos i with rfl | hp
    . rw [h0 hil] at hi; cases hi; omega
    . by_cases hc:Come s i
      . rw [(hout i x hp hi).1 hc]; exact hbig
      . rw [(hout i x hp hi).2 hc]; omega
  . rcases Nat.eq_zero_or_pos i with rfl | hp
    . have hil:0 < s.length:=by rw [← hlen]; exact (List.getElem?_eq_some_iff.1 hx).1
      exact absurd (Come.start hil) hc
    . exact (hout i x hp hx).2 hc
  . rcases Nat.eq_zero_or_pos i with rfl | hp
    . have hil:0 < s.length:=by rw [← hlen]; exact (List.getElem?_eq_some_iff.1 hx).1
      rw [h0 hil] at hx; cases hx;have:k=0:=by
        rcases Nat.eq_zero_or_pos k with h | h
        . exact h
        . exact absurd (Away.start hil (by omega)) hd.2.2
      subst this; rfl
    . rw [(hout i x hp hx).1 hd.2.1,qRt]; simpa using hd.1
  . rw [(hout i x hi hx).1 hc,qRt]
    rcases hf with h | h
    . subst h; simpa using hc.lt
    . simpa using h.1

def MB (s:List (List Int)) (out:List Nat) (i t k:Nat):Prop:=k < s.length∧∀ (p y:Nat),(p:Int)∈(qDc s s.length i).take t→Come s p→out[p]?=some y→y.testBit k=true
theorem MB.zero {s:List (List Int)} {out:List Nat} {i k:Nat}:(2 ^ s.length - 1).testBit k=true↔MB s out i 0 k:=by
  rw [qRt,decide_eq_true_iff];exact ⟨fun h=>⟨h,fun p y hp=>by simp at hp⟩,fun h=>h.1⟩
theorem MB.skip {s:List (List Int)} {out:List Nat} {i t p:Nat} (ht:t < (qDc s s.length i).length) (hp:(qDc s s.length i)[t]=(p:Int)) (hc:¬ Come s p) {x:Nat} (h:∀ k,x.testBit k=true↔MB s out i t k):∀ k,x.testBit k=true↔MB s out i (t+1) k:=by
  intro k;rw [h k];refine ⟨fun h=>⟨h.1,fun q y hq hcq hy=>?_⟩,fun h=>⟨h.1,fun q y hq=>h.2 q y ((qFb ht).2 (.inl hq))⟩⟩
  rcases (qFb ht).1 hq with hq | hq
  . exact h.2 q y hq hcq hy
  . have:q=p:=by rw [hp] at hq; omega
    subst this; exact absurd hcq hc
theorem MB.and {s:List (List Int)} {out:List Nat} {i t p z:Nat} (ht:t < (qDc s s.length i).length) (hp:(qDc s s.length i)[t]=(p:Int)) (hc:Come s p) (hz:out[p]?=some z) {x:Nat} (h:∀ k,x.testBit k=true↔MB s out i t k) :
    ∀ k,(x &&& z).testBit k=true↔MB s out i (t+1) k:=by
  intro k;rw [Nat.testBit_and,Bool.and_eq_true,h k];refine ⟨fun ⟨h,hk⟩=>⟨h.1,fun q y hq hcq hy=>?_⟩,fun h=>⟨⟨h.1,fun q y hq=>h.2 q y ((qFb ht).2 (.inl hq))⟩,h.2 p z ((qFb ht).2 (.inr hp.symm)) hc hz⟩⟩
  rcases (qFb ht).1 hq with hq | hq
  . exact h.2 q y hq hcq hy
  . have:q=p:=by rw [hp] at hq; omega
    subst this;rw [hz] at hy; cases hy; exact hk
theorem MB.done {s:List (List Int)} {out:List Nat} {i x:Nat} (h:∀ k,x.testBit k=true↔MB s out i (qDc s s.length i).length k):∀ k,(x ||| 2 ^ i).testBit k=true↔FB s out i k:=by
  intro k;rw [Nat.testBit_or,Nat.testBit_two_pow,Bool.or_eq_true,h k,decide_eq_true_iff];unfold MB FB;rw [List.take_length];constructor
  . rintro (h | h)
    . exact .inr h
    . exact .inl h.symm
  . rintro (h | h)
    . exact .inr h.symm
    . exact .inl h
end Am

/- Small sets: what the program's functions on them yield.
   No condition: plain lemmas. -/
namespace Am
set_option linter.unusedSimpArgs false
set_option linter.unusedVariables false
open Go
open Go.Proofs.Tryz (prog)

abbrev vU (s:Nat):Value:=.int .u64 s
theorem qFw (n:Nat):IntKind.u64.wrap (n:Int)=((n % 18446744073709551616:Nat):Int):=by
  simp [IntKind.wrap,IntKind.bits,IntKind.signed]
theorem bits_or {a b:Nat} (ha:a < 18446744073709551616) (hb:b < 18446744073709551616):bits .u64 .or (a:Int) (b:Int)=((a ||| b:Nat):Int):=by
  have hab:a ||| b < 2 ^ 64:=Nat.or_lt_two_pow (by omega) (by omega)
  have e:bits .u64 .or (a:Int) (b:Int)=IntKind.u64.wrap (((BitVec.ofInt 64 (a:Int) ||| BitVec.ofInt 64 (b:Int)).toNat:Nat):Int):=rfl
  rw [e,BitVec.ofInt_natCast,BitVec.ofInt_natCast,BitVec.toNat_or,BitVec.toNat_ofNat,BitVec.toNat_ofNat,Nat.mod_eq_of_lt (a:=a) (by omega),Nat.mod_eq_of_lt (a:=b) (by omega),qFw,Nat.mod_eq_of_lt (by omega)]
theorem qQm {a b:Nat} (ha:a < 18446744073709551616) (hb:b < 18446744073709551616):bits .u64 .and (a:Int) (b:Int)=((a &&& b:Nat):Int):=by
  have hab:a &&& b≤a:=Nat.and_le_left;have e:bits .u64 .and (a:Int) (b:Int)=IntKind.u64.wrap (((BitVec.ofInt 64 (a:Int) &&& BitVec.ofInt 64 (b:Int)).toNat:Nat):Int):=rfl;rw [e,BitVec.ofInt_natCast,BitVec.ofInt_natCast,BitVec.toNat_and,BitVec.toNat_ofNat,BitVec.toNat_ofNat,Nat.mod_eq_of_lt (a:=a) (by omega),Nat.mod_eq_of_lt (a:=b) (by omega),qFw,Nat.mod_eq_of_lt (by omega)]
theorem qQt {i:Nat} (h:i < 64):2 ^ i < 18446744073709551616:=by
  have:2 ^ i < 2 ^ 64:=Nat.pow_lt_pow_right (by omega) h
  omega
theorem shl_one {i:Nat} (h:i < 64):binV .shl (.int .u64 1) (.int .i64 (i:Int))=some (vU (2 ^ i)):=by
  rw [binV_shl (by omega)]
  have e:min ((i:Int).toNat) IntKind.u64.bits=i:=by simp [IntKind.bits]; omega
  rw [e,Int.one_mul];have:((2:Int) ^ i)=((2 ^ i:Nat):Int):=by simp
  rw [this,qFw,Nat.mod_eq_of_lt (qQt h)]

def bitN (i:Int):Nat:=if 0≤i∧i < 64 then 2 ^ i.toNat else 0
theorem qQn (i:Int):bitN i < 18446744073709551616:=by
  unfold bitN
  split
  . exact qQt (by omega)
  . omega
theorem bitN_nat {i:Nat} (h:i < 64):bitN i=2 ^ i:=by unfold bitN; rw [if_pos ⟨by omega,by omega⟩]; rfl

theorem bit_spec {H:Heap} {i:Int} {K:Value→Heap→Prop} (h:K (vU (bitN i)) H):qCq prog 44 [.int .i64 i] H K:=by
  refine call_bit (by simp) ?_
  by_cases h0:i < 0
  . have e:bitN i=0:=by unfold bitN; rw [if_neg (by omega)]
    rw [e] at h;simp [qSo,qBv,h0,qAs,qAu,resV,retV];exact h
  . by_cases h1:64≤i
    . have e:bitN i=0:=by unfold bitN; rw [if_neg (by omega)]
      rw [e] at h;simp [qSo,qBv,h0,h1,qAs,qAu,resV,retV];exact h
    . obtain ⟨j,rfl⟩:∃ j:Nat,i=j:=⟨i.toNat,by omega⟩
      rw [bitN_nat (by omega)] at h
      simp [qSo,qBv,h0,h1,shl_one (i:=j) (by omega),qAs,qAu,resV,retV]
      simpa using h

def allN (n:Nat):Nat:=2 ^ n - 1
theorem All_spec {H:Heap} {n:Nat} {K:Value→Heap→Prop} (hn:n≤64) (h:K (vU (allN n)) H):qCq prog 78 [.int .i64 n] H K:=by
  refine call_All (by simp) ?_
  rcases Nat.eq_zero_or_pos n with rfl | hp
  . simp [qSp,qBv,qAs,qAu,resV,retV]
    exact h
  . have h0:¬ (n:Int)≤0:=by omega
    by_cases h1:n=64
    . subst h1
      simp [qSp,qBv,qAs,qAu,resV,retV];exact h
    . have h2:¬ (64:Int)≤(n:Int):=by omega
      have hw:IntKind.u64.wrap (((2 ^ n:Nat):Int) - 1)=((allN n:Nat):Int):=by
        have hp:=qQt (i:=n) (by omega)
        have h3:1≤2 ^ n:=Nat.one_le_two_pow;have:(((2 ^ n:Nat):Int) - 1)=((2 ^ n - 1:Nat):Int):=by omega
        rw [this,qFw,Nat.mod_eq_of_lt (by omega)]; rfl
      have hp':n≠0:=by omega
      obtain ⟨x,hx⟩:∃ x,x=2 ^ n:=⟨_,rfl⟩;have hs:=shl_one (i:=n) (by omega)
      rw [← hx] at hs hw;simp [qSp,qBv,h0,h2,hp',hs,hw,qAs,qAu,resV,retV];exact h

def qDi (s:Nat) (l:List Int):Nat:=l.foldl (fun s i=>s ||| bitN i) s
theorem qTv {a b:Nat} (ha:a < 18446744073709551616) (hb:b < 18446744073709551616):a ||| b < 18446744073709551616:=by
  have:a ||| b < 2 ^ 64:=Nat.or_lt_two_pow (by omega) (by omega)
  omega
theorem qHe:∀ (l:List Int) (s:Nat),s < 18446744073709551616→qDi s l < 18446744073709551616
  | [],s,h=>h
  | i :: l,s,h=>qHe l _ (qTv h (qQn i))
theorem withN_step {l:List Int} {k:Nat} (hk:k < l.length) (s:Nat):qDi s (l.take k) ||| bitN l[k]=qDi s (l.take (k+1)):=by
  rw [← List.take_append_getElem hk];simp only [qDi,List.foldl_append,List.foldl_cons,List.foldl_nil]

set_option maxHeartbeats 1000000 in
theorem qNv {H:Heap} {s:Nat} {v:Value} {l:List Int} {S:Nat→Prop} {K:Value→Heap→Prop} (hs:s < 18446744073709551616) (hv:L1 vI S H v l) (hl:l.length < lim) (h:K (vU (qDi s l)) H) :
    qCq prog 19 [vU s,v] H K:=by
  refine call_With (by simp) ?_
  have hlim:lim=1048576:=rfl;simp [qSf,qBv,hv.len];refine loop_rule (fun m fr H'=>H'=H∧fr 7=v∧fr 8=.int .i64 l.length∧∃ k:Nat,fr 9=.int .i64 k∧fr 0=vU (qDi s (l.take k))∧m=l.length - k∧k≤l.length) ?_ (n:=l.length) ?_
  . rintro m fr H' ⟨rfl,h7,h8,k,h9,h0,rfl,hk⟩
    obtain ⟨k',hk'⟩:∃ j,j=k+1:=⟨_,rfl⟩;have wk:IntKind.i64.wrap ((k:Int)+1)=(k':Int):=by rw [wrap_i64 (by omega) (by omega)]; omega
    by_cases hkl:k < l.length
    . obtain ⟨p,e1,e2⟩:=L1.at hv (List.getElem?_eq_getElem hkl)
      have e3:=bits_or (qHe (l.take k) s hs) (qQn l[k]);simp [h7,h8,h9,h0,hkl,e1,e2];refine bit_spec ?_;simp [callK_def,h7,h8,h9,h0,e3,wk];exact ⟨_,by omega,k',rfl,by rw [withN_step hkl,hk'],rfl,by omega⟩
    . have:k=l.length:=by omega
      subst this;rw [List.take_length] at h0;simp [h7,h8,h9,h0,qAs,qAu,resV,retV];exact h
  . simp [qBv]
    exact ⟨0,rfl,rfl,by simp⟩

theorem two_spec {H:Heap} {i:Nat} {K:Value→Heap→Prop} (hi:i < 64) (h:K (vU (2 ^ i)) H):qCq prog 111 [.int .i64 i] H K:=by
  refine call_two (by simp) ?_
  simp [qTy,qBv];refine loop_rule (fun m fr H'=>H'=H∧fr 0=.int .i64 i∧∃ (k:Nat) (x:Nat),fr 4=.int .i64 k∧fr 3=vU x∧x=2 ^ k∧m=i - k∧k≤i) ?_ (n:=i) ?_
  . rintro m fr H' ⟨rfl,h0,k,x,h4,h3,hx,rfl,hk⟩
    obtain ⟨k',hk'⟩:∃ j,j=k+1:=⟨_,rfl⟩;have wk:IntKind.i64.wrap ((k:Int)+1)=(k':Int):=by rw [wrap_i64 (by omega) (by omega)]; omega
    by_cases hkl:k < i
    . have hp:=qQt (i:=k') (by omega)
      obtain ⟨y,hy⟩:∃ y,y=2 * x:=⟨_,rfl⟩;have hy':y=2 ^ k':=by rw [hy,hx,hk',Nat.pow_succ,Nat.mul_comm]
      have wx:IntKind.u64.wrap (2 * (x:Int))=(y:Int):=by
        have:2 * (x:Int)=((2 * x:Nat):Int):=by simp
        rw [this,qFw,← hy,Nat.mod_eq_of_lt (by omega)]
      simp [h0,h4,h3,hkl,wk,wx];exact ⟨_,by omega,k',rfl,y,rfl,hy',rfl,by omega⟩
    . have:k=i:=by omega
      subst this;rw [← hx] at h;simp [h0,h4,h3,qAs,qAu,resV,retV];exact h
  . simp [qBv]
    exact ⟨0,rfl,1,rfl,rfl,by simp⟩

end Am

/- Graphs: what each can not be come to without: the walk.
   No condition: plain lemmas. -/
namespace Am
set_option linter.unusedSimpArgs false
set_option linter.unusedVariables false
open Go
open Go.Proofs.Tryz (prog)

def qKe:AC:=match qLl.body with | .seq _ (.scope _ _ r)=>r | _=>.skip
def qTe:AC:=match qKe with | .seq _ (.seq (.seq _ (.block _ (.loop b))) _)=>b | _=>.skip
def qUg:AC:=match qKe with | .seq _ (.seq _ t)=>t | _=>.skip

theorem allN_lt {n:Nat} (hn:n≤64):allN n < 18446744073709551616:=by
  unfold allN;have h1:2 ^ n≤2 ^ 64:=Nat.pow_le_pow_right (by omega) hn
  have h2:0 < 2 ^ n:=Nat.two_pow_pos _;omega
theorem sum_le:∀ (l:List Nat) (M:Nat),(∀ x∈l,x≤M)→l.sum≤l.length * M
  | [],M,_=>by simp
  | a :: l,M,h=>by
    have h1:=h a (by simp)
    have h2:=sum_le l M fun x hx=>h x (by simp [hx])
    simp only [List.sum_cons,List.length_cons,Nat.succ_mul];omega

theorem L1.one {H:Heap} {id ver:Nat} {x:Int} {rw:Bool} (h:H[id]?=some (.row ⟨[.int .i64 x],1,ver,rw⟩)):L1 vI Any H (.slice (some ⟨id,0,none⟩) 1 ver) [x]:=L1.ofRow (l:=[x]) h trivial

set_option maxHeartbeats 4000000 in
theorem doms_pass {s:List (List Int)} {seen:List Bool} {H2:Heap} {sv pv:Value} {S S':Nat→Prop} (hn:s.length≤64) (hseen:L1 vB S H2 sv seen) (hsl:seen.length=s.length) (hcome:∀ i,seen[i]?=some true↔Come s i) (hpreds:L2 vI S' H2 pv (qFp s))
    {out:List Nat} {g:Heap} (hD:DI s out) {J:Fr→Heap→Prop} {Q:Exit→Fr→Heap→Prop} {fr:Fr} (h3:fr 3=.int .i64 s.length) (h4:fr 4=sv) (h5:fr 5=pv) (h6:fr 6=.slice (some ⟨H2.length,0,none⟩) s.length 0) (h8:fr 8=.int .i64 1)
    (hJ:∀ (fr:Fr) (g:Heap) (out':List Nat),fr 3=.int .i64 s.length→fr 4=sv→fr 5=pv→fr 6=.slice (some ⟨H2.length,0,none⟩) s.length 0→DI s out'→out'.sum < out.sum→J fr (H2++.row ⟨out'.map vU,1,0,true⟩ :: g))
    (hQ:∀ (fr:Fr) (g:Heap),DomsOf s out→fr 2=.slice (some ⟨H2.length,0,none⟩) s.length 0→Q .ret fr (H2++.row ⟨out.map vU,1,0,true⟩ :: g)) :
    awp prog (.loop qTe) (qEu 2 (SeqK (awp prog qUg (qGn 0 J Q)) (qGn 0 J Q))) fr (H2++.row ⟨out.map vU,1,0,true⟩ :: g):=by
  have hlim:lim=1048576:=rfl;refine loop_rule (fun m fr H'=>fr 3=.int .i64 s.length∧fr 4=sv∧fr 5=pv∧fr 6=.slice (some ⟨H2.length,0,none⟩) s.length 0∧∃ (i:Nat) (g:Heap),fr 8=.int .i64 i∧H'=H2++.row ⟨out.map vU,1,0,true⟩ :: g∧m=65 - i∧1≤i∧i≤64 ∧
    ∀ (j x:Nat),0 < j→j < i→Come s j→out[j]?=some x→∀ k,x.testBit k=true↔FB s out j k) ?_ (n:=64) ⟨h3,h4,h5,h6,1,g,h8,rfl,rfl,by omega,by omega,fun j x h1 h2=>by omega⟩
  clear h3 h4 h5 h6 h8 fr g;rintro m fr H' ⟨h3,h4,h5,h6,i,g,h8,rfl,rfl,hi1,hi2,hfix⟩;obtain ⟨i',hi'⟩:∃ j,j=i+1:=⟨_,rfl⟩;have wi:IntKind.i64.wrap ((i:Int)+1)=(i':Int):=by rw [wrap_i64 (by omega) (by omega)]; omega
  have hs4:=hseen.app (.row ⟨out.map vU,1,0,true⟩ :: g);have hp4:=hpreds.app (.row ⟨out.map vU,1,0,true⟩ :: g)
  by_cases hlt:i < s.length
  . obtain ⟨b,hb⟩:∃ b,seen[i]?=some b:=⟨_,List.getElem?_eq_getElem (by omega)⟩
    obtain ⟨p,e1,e2⟩:=L1.at hs4 hb;cases b with
    | false =>
      have hnc:¬ Come s i:=fun hc=>by rw [(hcome i).2 hc] at hb; cases hb
      simp [qTe,qKe,qLl,h3,h4,h5,h6,h8,hlt,e1,e2,wi];exact ⟨65 - i',by omega,i',rfl,rfl,by omega,by omega,fun j x h1 h2 h3 h4=>by
        by_cases e:j=i
        . subst e; exact absurd h3 hnc
        . exact hfix j x h1 (by omega) h3 h4⟩
    | true =>
      have hc:Come s i:=(hcome i).1 hb;obtain ⟨q,w,e3,e4,e5⟩:=L2.at hp4 (qJz hlt);obtain ⟨bl,hbl⟩:∃ bl,bl=qDc s s.length i:=⟨_,rfl⟩;rw [← hbl] at e5;have hblen:bl.length≤64:=by have:=qNu s s.length i; rw [hbl]; omega
      simp [qTe,qKe,qLl,h3,h4,h5,h6,h8,hlt,e1,e2];refine All_spec hn ?_;simp [callK_def,h3,h4,h5,h6,h8,e3,e4,e5.len];obtain ⟨H3,hH3⟩:∃ H3,H3=H2++Ob.row ⟨out.map vU,1,0,true⟩ :: g:=⟨_,rfl⟩;rw [← hH3] at hs4 hp4 e2 e4 e5 ⊢;have hcell:∀ (a x:Nat),out[a]?=some x→H3.cell? H2.length a 0=some (vU x):=by
        intro a x ha;rw [hH3]; simp [Heap.cell?,Heap.row?,ha]
      refine loop_rule (fun m fr H'=>H'=H3∧fr 3=.int .i64 s.length∧fr 4=sv∧fr 5=pv∧fr 6=.slice (some ⟨H2.length,0,none⟩) s.length 0∧fr 8=.int .i64 i∧fr 66=w∧fr 67=.int .i64 bl.length ∧
        ∃ (t x:Nat),fr 68=.int .i64 t∧fr 9=vU x∧m=bl.length - t∧t≤bl.length∧x < 18446744073709551616∧∀ k,x.testBit k=true↔MB s out i t k) ?_ (n:=bl.length) ?_
      . clear h3 h4 h5 h6 h8 fr
        rintro m fr H' ⟨rfl,h3,h4,h5,h6,h8,h66,h67,t,x,h68,h9,rfl,ht,hx,hM⟩;obtain ⟨t',ht'⟩:∃ j,j=t+1:=⟨_,rfl⟩;have wt:IntKind.i64.wrap ((t:Int)+1)=(t':Int):=by rw [wrap_i64 (by omega) (by omega)]; omega
        by_cases htl:t < bl.length
        . obtain ⟨p2,f1,f2⟩:=L1.at e5 (List.getElem?_eq_getElem htl)
          have htl':t < (qDc s s.length i).length:=hbl ▸ htl;obtain ⟨a,ha,hal,_⟩:=qDw.1 (List.getElem_mem htl');have hat:bl[t]=(a:Int):=by simp only [hbl]; exact ha
          rw [hat] at f2;obtain ⟨b,hb'⟩:∃ b,seen[a]?=some b:=⟨_,List.getElem?_eq_getElem (by omega)⟩
          obtain ⟨p3,f3,f4⟩:=L1.at hs4 hb';cases b with
          | false =>
            have hnc:¬ Come s a:=fun hc=>by rw [(hcome a).2 hc] at hb'; cases hb'
            simp [h3,h4,h5,h6,h8,h66,h67,h68,h9,htl,f1,f2,f3,f4,wt];exact ⟨_,by omega,t',rfl,x,rfl,rfl,by omega,hx,by rw [ht']; exact MB.skip htl' ha hnc hM⟩
          | true =>
            have hca:Come s a:=(hcome a).1 hb';obtain ⟨z,hz⟩:∃ z,out[a]?=some z:=⟨_,List.getElem?_eq_getElem (by rw [hD.len]; omega)⟩
            have hzl:=hD.lt z (List.mem_of_getElem? hz);have f5:=hcell a z hz;have f6:=qQm hx hzl;simp [h3,h4,h5,h6,h8,h66,h67,h68,h9,htl,f1,f2,f3,f4,wt,hal,f5,f6];exact ⟨_,by omega,t',rfl,x &&& z,rfl,rfl,by omega,Nat.lt_of_le_of_lt Nat.and_le_left hx,by rw [ht']; exact MB.and htl' ha hca hz hM⟩
        . have htl':t=bl.length:=by omega
          rw [htl',hbl] at hM;have hF:=MB.done hM;simp [h3,h4,h5,h6,h8,h66,h67,h68,h9,htl,qEa,cellsOf,setAll,newRow];have hi64:i < 64:=by omega
          have hwn:qDi x [(i:Int)]=x ||| 2 ^ i:=by simp only [qDi,List.foldl_cons,List.foldl_nil,bitN_nat hi64]
          obtain ⟨y,hy⟩:∃ y,y=x ||| 2 ^ i:=⟨_,rfl⟩
          rw [← hy] at hwn hF;refine qNv hx (L1.one (x:=(i:Int)) (rw:=true) (by simp)) (by simp [lim]) ?_
          rw [hwn];obtain ⟨z,hz⟩:∃ z,out[i]?=some z:=⟨_,List.getElem?_eq_getElem (by rw [hD.len]; omega)⟩
          have hil:i < out.length:=by rw [hD.len]; omega
          have hil':i+1≤out.length:=hil;have hzz:out[i]=z:=(List.getElem?_eq_some_iff.1 hz).2;subst hH3
          by_cases hyz:y=z
          . have hyz':((y:Int)=(z:Int)):=by omega
            simp [callK_def,h3,h4,h5,h6,h8,hlt,Heap.cell?,Heap.row?,hil,hzz,hyz,wi];exact ⟨65 - i',by omega,i',rfl,rfl,by omega,by omega,fun j x' h1 h2 h3 h4=>by
              by_cases e:j=i
              . subst e; rw [hz] at h4; cases h4; rw [← hyz]; exact hF
              . exact hfix j x' h1 (by omega) h3 h4⟩
          . have hyz':¬ ((y:Int)=(z:Int)):=by omega
            obtain ⟨g1,g2⟩:=hD.set hi1 hc hz hF hyz;simp [callK_def,h3,h4,h5,h6,h8,hlt,Heap.cell?,Heap.row?,hil,hil',hzz,hyz,hyz',qBu,cellsOf,setAll];rw [show (List.map vU out).set i (vU y)=(out.set i y).map vU by rw [List.map_set]]
            exact hJ _ _ _ (by simp [h3]) (by simp [h4]) (by simp [h5]) (by simp [h6]) g1 g2
      . simp [h3,h4,h5,h6,h8]
        exact ⟨0,rfl,_,rfl,by simp,by simp,allN_lt hn,fun k=>MB.zero⟩
  . have hdone:DomsOf s out:=hD.done fun j x h1 h2 h3=>hfix j x h1 (by have:=h2.lt; omega) h2 h3
    simp [qTe,qUg,qKe,qLl,h3,h4,h5,h6,h8,hlt];exact hQ _ _ hdone (by simp [h6])

theorem DI.sum {s:List (List Int)} {out:List Nat} (h:DI s out) (hn:s.length≤64):out.sum < 65 * 18446744073709551616:=by
  have:=sum_le out 18446744073709551616 fun x hx=>Nat.le_of_lt (h.lt x hx)
  have:out.length * 18446744073709551616≤64 * 18446744073709551616:=Nat.mul_le_mul_right _ (by rw [h.len]; exact hn)
  omega

structure Init (s:List (List Int)) (out:List Nat) (i:Nat):Prop where
  len:out.length=s.length
  set:∀ j x,0 < j→j < i→out[j]?=some x→(Come s j→x=2 ^ s.length - 1)∧(¬ Come s j→x=0)

def qUj (s:List (List Int)) (H:Heap) (m:Nat) (fr:Fr) (H':Heap):Prop:=∃ (seen:List Bool) (H2:Heap) (sv pv:Value) (S1 S2:Nat→Prop) (out:List Nat) (g:Heap),L1 vB S1 H2 sv seen∧seen.length=s.length∧(∀ i,seen[i]?=some true↔Come s i)∧L2 vI S2 H2 pv (qFp s) ∧
    (∀ i,i < H.length→H2[i]?=H[i]?)∧H.length≤H2.length∧DI s out∧m=out.sum∧fr 3=.int .i64 s.length∧fr 4=sv∧fr 5=pv∧fr 6=.slice (some ⟨H2.length,0,none⟩) s.length 0∧H'=H2++.row ⟨out.map vU,1,0,true⟩ :: g

set_option maxHeartbeats 4000000 in
theorem Doms_spec {H:Heap} {v:Value} {s:List (List Int)} {S:Nat→Prop} (hv:L2 vI S H v s) (hS:∀ i,S i→i < H.length) (hn:s.length≤64) (hsum:(s.map List.length).sum+s.length+1≤lim) :
    qCq prog 37 [v] H fun r H'=>∃ d,DomsOf s d∧L1 vU (From H.length) H' r d∧(∀ i,i < H.length→H'[i]?=H[i]?)∧H.length≤H'.length:=by
  refine call_Doms (by simp) ?_
  have hlim:lim=1048576:=rfl;have hn':¬ (64:Int) < (s.length:Int):=by omega
  simp [qLl,qBv];refine scope_rule (b:=65 * 18446744073709551616) (qUj s H) ?_ ?_
  . rintro m fr H' ⟨seen,H2,sv,pv,S1,S2,out,g,k1,k2,k3,k4,k5,k6,hD,rfl,h3,h4,h5,h6,rfl⟩
    simp;refine doms_pass hn k1 k2 k3 k4 hD (by simp [h3]) (by simp [h4]) (by simp [h5]) (by simp [h6]) (by simp) ?_ ?_
    . intro fr g out' q3 q4 q5 q6 hD' hlt
      exact ⟨out'.sum,hlt,seen,H2,sv,pv,S1,S2,out',g,k1,k2,k3,k4,k5,k6,hD',rfl,q3,q4,q5,q6,rfl⟩
    . intro fr g hdone q2
      simp [qAs,qAu,resV,retV,q2];refine ⟨out,hdone,?_,fun i hi=>by rw [List.getElem?_append_left (by omega)]; exact k5 i hi,by omega⟩
      rw [← hdone.len]; exact L1.ofRow (rw:=true) (by simp) k6
  . simp [qBv,hv.len,hn']
    refine (Reach_spec hv hS hsum).mono fun sv H1=>?_
    rintro ⟨seen,hr,⟨ext,rfl⟩,hsl,hcome⟩;simp [callK_def,qBv];refine (Preds_spec (hv.app ext) (fun i h=>by simp; omega) (by omega) (fun l hl=>by have:=len_le_sum hl; omega)).mono fun pv H2=>?_
    rintro ⟨hp,hlow,hlen⟩;have hs4:=hr.narrow.mono (fun _ h=>h) fun i hi=>(hlow i hi).symm
    have hnl:(s.length:Int)≤lim:=by omega
    simp [callK_def,qBv,qIc,newRow,qKv,hnl];refine loop_rule (fun m fr H'=>fr 3=.int .i64 s.length∧fr 4=sv∧fr 5=pv∧fr 6=.slice (some ⟨H2.length,0,none⟩) s.length 0∧fr 23=.int .i64 s.length∧∃ (i:Nat) (out:List Nat),fr 24=.int .i64 i ∧
      H'=H2++[.row ⟨out.map vU,1,0,true⟩]∧m=s.length - i∧i≤s.length∧Init s out i) ?_ (n:=s.length) ?_
    . rintro m fr H' ⟨h3,h4,h5,h6,h23,i,out,h24,rfl,rfl,hi,hI⟩
      obtain ⟨i',hi'⟩:∃ j,j=i+1:=⟨_,rfl⟩;have wi:IntKind.i64.wrap ((i:Int)+1)=(i':Int):=by rw [wrap_i64 (by omega) (by omega)]; omega
      by_cases hlt:i < s.length
      . have hil:i < out.length:=by rw [hI.len]; exact hlt
        have hil':i+1≤out.length:=hil;have hnext:∀ x,(0 < i→(Come s i→x=2 ^ s.length - 1)∧(¬ Come s i→x=0))→Init s (out.set i x) i':=by
          intro x hx;refine ⟨by simp [hI.len],fun j y h1 h2 h3=>?_⟩
          by_cases e:j=i
          . subst e; rw [List.getElem?_set_self hil] at h3; cases h3; exact hx h1
          . rw [List.getElem?_set_ne (Ne.symm e)] at h3; exact hI.set j y h1 (by omega) h3
        simp [h3,h4,h5,h6,h23,h24,hlt];refine All_spec hn ?_
        by_cases hz:i=0
        . subst hz
          have hpos:(0:Int) < s.length:=by omega
          have hp1:1≤out.length:=hil;simp at wi;have h24:fr 24=.int .i64 0:=h24;simp [callK_def,h3,h4,h5,h6,h23,h24,hlt,hpos,hp1,qBu,cellsOf,setAll,Heap.row?,wi];exact ⟨s.length - i',by omega,i',rfl,out.set 0 0,(by rw [List.map_set]; rfl),rfl,by omega,hnext 0 fun h=>by omega⟩
        . have hz':¬ ((i:Int)=0):=by omega
          obtain ⟨b,hb⟩:∃ b,seen[i]?=some b:=⟨_,List.getElem?_eq_getElem (by omega)⟩
          obtain ⟨p,e1,e2⟩:=L1.at (hs4.app [.row ⟨(out.map vU).set i (vU (allN s.length)),1,0,true⟩]) hb;cases b with
          | true =>
            have hc:=(hcome i).1 hb;simp [callK_def,h3,h4,h5,h6,h23,h24,hlt,qBu,cellsOf,setAll,Heap.row?,hil',hz,hz',wi,e1,e2];exact ⟨s.length - i',by omega,i',rfl,out.set i (allN s.length),by simp,rfl,by omega,hnext _ fun h=>⟨fun _=>rfl,fun h=>absurd hc h⟩⟩
          | false =>
            have hc:¬ Come s i:=fun hc=>by rw [(hcome i).2 hc] at hb; cases hb
            simp [callK_def,h3,h4,h5,h6,h23,h24,hlt,qBu,cellsOf,setAll,Heap.row?,hil',hz,hz',wi,e1,e2];exact ⟨s.length - i',by omega,i',rfl,out.set i 0,(by rw [List.map_set]; rfl),rfl,by omega,hnext 0 fun h=>⟨fun h=>absurd h hc,fun _=>rfl⟩⟩
      . have hi2:i=s.length:=by omega
        subst hi2;have pass:∀ (out:List Nat) (g:Heap) (fr:Fr),DI s out→fr 3=.int .i64 s.length→fr 4=sv→fr 5=pv→fr 6=.slice (some ⟨H2.length,0,none⟩) s.length 0→fr 8=.int .i64 1 →
            awp prog (.loop qTe) (qEu 2 (SeqK (awp prog qUg (qGn 0 (fun fr H'=>∃ k,k < 65 * 18446744073709551616∧qUj s H k fr H') (qAs [RV.tmp 2] fun r H'=>∃ d,DomsOf s d∧L1 vU (From H.length) H' r d∧(∀ i,i < H.length→H'[i]?=H[i]?)∧H.length≤H'.length)))
              (qGn 0 (fun fr H'=>∃ k,k < 65 * 18446744073709551616∧qUj s H k fr H') (qAs [RV.tmp 2] fun r H'=>∃ d,DomsOf s d∧L1 vU (From H.length) H' r d∧(∀ i,i < H.length→H'[i]?=H[i]?)∧H.length≤H'.length))))
              fr (H2++.row ⟨out.map vU,1,0,true⟩ :: g):=by
          intro out g fr hD q3 q4 q5 q6 q8;have hlow2:∀ i,i < H.length→H2[i]?=H[i]?:=fun i hi=>by rw [hlow i (by simp; omega),List.getElem?_append_left hi]
          have hlen2:H.length≤H2.length:=by simp at hlen; omega
          refine doms_pass hn hs4 hsl hcome hp hD q3 q4 q5 q6 q8 ?_ ?_
          . intro fr g out' q3 q4 q5 q6 hD' hlt
            exact ⟨out'.sum,hD'.sum hn,seen,H2,sv,pv,_,_,out',g,hs4,hsl,hcome,hp,hlow2,hlen2,hD',rfl,q3,q4,q5,q6,rfl⟩
          . intro fr g hdone q2
            simp [qAs,qAu,resV,retV,q2];refine ⟨out,hdone,?_,fun i hi=>by rw [List.getElem?_append_left (by omega)]; exact hlow2 i hi,by omega⟩
            rw [← hdone.len]; exact L1.ofRow (rw:=true) (by simp) hlen2
        by_cases hpos:0 < s.length
        . have hpos':(0:Int) < s.length:=by omega
          have hp1:1≤out.length:=by rw [hI.len]; exact hpos
          have hD:DI s (out.set 0 1):=DI.new (by simp [hI.len]) hn (fun _=>List.getElem?_set_self (by omega)) fun i x h1 h2=>by
            rw [List.getElem?_set_ne (by omega)] at h2
            have:=(List.getElem?_eq_some_iff.1 h2).1;exact hI.set i x h1 (by rw [← hI.len]; exact this) h2
          have hw1:qDi 0 [0]=1:=by decide
          simp [h3,h4,h5,h6,h23,h24,hpos,qEa,cellsOf,setAll,newRow];refine qNv (s:=0) (by omega) (L1.one (x:=0) (rw:=true) (by simp)) (by simp [lim]) ?_
          rw [hw1];simp [callK_def,h3,h4,h5,h6,hpos,hpos',hp1,qBu,cellsOf,setAll,Heap.row?];rw [show (List.map vU out).set 0 (vU 1)=(out.set 0 1).map vU by rw [List.map_set]]
          exact pass (out.set 0 1) [.row ⟨[.int .i64 0],1,0,true⟩] _ hD (by simp [h3]) (by simp [h4]) (by simp [h5]) (by simp [h6]) (by simp)
        . have hD:DI s out:=DI.new hI.len hn (fun h=>absurd h hpos) fun i x h1 h2=>by
            have:=(List.getElem?_eq_some_iff.1 h2).1;rw [hI.len] at this; omega
          simp [h3,h4,h5,h6,h23,h24,hpos];exact pass out [] _ hD (by simp [h3]) (by simp [h4]) (by simp [h5]) (by simp [h6]) (by simp)
    . simp
      exact ⟨0,rfl,List.replicate s.length 0,by simp,by simp,by simp,⟨by simp,fun j x h1 h2=>by omega⟩⟩
end Am
