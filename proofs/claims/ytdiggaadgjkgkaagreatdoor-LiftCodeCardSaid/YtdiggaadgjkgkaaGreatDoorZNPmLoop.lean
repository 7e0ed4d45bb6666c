/- Graphs, the document's answer: small sets; what each can not be come to without; and that the program tells the same.
   No condition: plain lemmas. -/
import Derived.Test.YtdiggaadgjkgkaaGreatDoorZNPmCfg2
import Derived.Test.YtdiggaadgjkgkaaGreatDoorZNPmBox
namespace Pm
set_option linter.unusedSimpArgs false
set_option linter.unusedVariables false
open Go Am
open Go.Proofs.Tryz (prog)

abbrev big:Nat:=18446744073709551616
def hasB (s:Nat) (i:Int):Bool:=decide (0≤i) && decide (i < 64) && s.testBit i.toNat
theorem qIz {s i:Nat} (h:i < 64):hasB s i=s.testBit i:=by
  have h1:(0:Int)≤(i:Int):=by omega
  have h2:(i:Int) < 64:=by omega
  simp [hasB,h1,h2]
theorem or_add {s i:Nat} (h:s.testBit i=false):s+2 ^ i=s ||| 2 ^ i:=by
  have hp:0 < 2 ^ i:=Nat.two_pow_pos i;have hq:s / 2 ^ i % 2=0:=by
    rw [Nat.testBit_eq_decide_div_mod_eq] at h;have:=of_decide_eq_false h; omega
  obtain ⟨m,hm⟩:∃ m,s / 2 ^ i=2 * m:=⟨s / 2 ^ i / 2,by omega⟩
  obtain ⟨r,hr⟩:∃ r,r=s % 2 ^ i:=⟨_,rfl⟩;have hr':r < 2 ^ i:=by rw [hr]; exact Nat.mod_lt _ hp
  have hs:s=2 ^ (i+1) * m+r:=by
    have:=Nat.div_add_mod s (2 ^ i);rw [hm,← hr,← Nat.mul_assoc] at this;rw [Nat.pow_succ]; exact this.symm
  have h1:s=2 ^ (i+1) * m ||| r:=by rw [hs]; exact Nat.two_pow_add_eq_or_of_lt (by rw [Nat.pow_succ]; omega) m
  have h2:2 ^ i+r=2 ^ i ||| r:=by simpa using Nat.two_pow_add_eq_or_of_lt hr' 1
  have h3:s+2 ^ i=2 ^ (i+1) * m ||| (2 ^ i+r):=by
    rw [hs,Nat.add_assoc,Nat.add_comm r]; exact Nat.two_pow_add_eq_or_of_lt (by rw [Nat.pow_succ]; omega) m
  rw [h3,h2,h1,Nat.or_assoc,Nat.or_comm r]

section
variable {h : Heap} {K : Value → Heap → Prop}
theorem qIk {s:Nat} {i:Int} (hs:s < big) (hk:K (.bool (hasB s i)) h):qBl prog 74 [vU s,vI i] h K:=by
  refine call_RHas (by simp) ?_
  by_cases h0:0≤i
  . by_cases h2:i < 64
    . obtain ⟨n,rfl⟩:∃ n:Nat,i=n:=⟨i.toNat,by omega⟩
      have h1:n < 64:=by omega
      simp [c_RHas,h2];refine two_call h1 ?_;have hp:=qQt h1;have hp0:0 < 2 ^ n:=Nat.two_pow_pos n;obtain ⟨x,hx⟩:∃ x,x=2 ^ n:=⟨_,rfl⟩;obtain ⟨q,hq⟩:∃ q,q=s / x:=⟨_,rfl⟩;have hx0:¬ x=0:=by omega
      have hbit:s.testBit n=decide (q % 2=1):=by rw [Nat.testBit_eq_decide_div_mod_eq,← hx,← hq]
      rw [qIz h1,hbit] at hk;rw [← hx];have e1:((s:Int)).tdiv (x:Int)=(q:Int):=by rw [Int.tdiv_eq_ediv_of_nonneg (by omega),hq]; rfl
      have e2:((q:Int)).tmod 2=((q % 2:Nat):Int):=by rw [Int.tmod_eq_emod_of_nonneg (by omega)]; rfl
      have hqs:q≤s:=by rw [hq]; exact Nat.div_le_self _ _
      have e3:IntKind.u64.wrap (q:Int)=(q:Int):=by rw [qFw,Nat.mod_eq_of_lt (Nat.lt_of_le_of_lt hqs hs)]
      have e4:((((q % 2:Nat):Int)=1))↔q % 2=1:=by omega
      simp [callK_def,hx0,e1,e3,qAs,qAu,resV,retV];rw [e2]
      simpa only [e4] using hk
    . simp [c_RHas,h0,h2,qAs,qAu,resV,retV]
      simpa [hasB,h0,h2] using hk
  . simp [c_RHas,h0,qAs,qAu,resV,retV]
    simpa [hasB,h0] using hk
theorem withN_if {s:Nat} {i:Int} (hs:s < big):(if 0≤i∧i < 64∧hasB s i=false then s+2 ^ i.toNat else s)=s ||| bitN i:=by
  unfold bitN
  by_cases h0:0≤i∧i < 64
  . rw [if_pos h0]
    by_cases hb:s.testBit i.toNat
    . rw [if_neg (by simp [hasB,h0.1,h0.2,hb])]
      apply Nat.eq_of_testBit_eq;intro j;rw [Nat.testBit_or,Nat.testBit_two_pow]
      by_cases e:i.toNat=j
      . subst e; simp [hb]
      . simp [e]
    . rw [if_pos ⟨h0.1,h0.2,by simp [hasB,hb]⟩]
      exact or_add (by simpa using hb)
  . rw [if_neg (fun x=>h0 ⟨x.1,x.2.1⟩),if_neg h0,Nat.or_zero]
theorem RWith_call {s:Nat} {l:List Int} (hs:s < big) (hl:l.length < lim) (hk:K (vU (qDi s l)) h):qBl prog 109 [vU s,vL vI l] h K:=by
  refine call_RWith (by simp) ?_
  simp [c_RWith];refine qEb (σ:=Nat) (fun k fr h'=>h'=h∧fr 1=vL vI l∧fr 5=vI k∧fr 0=vU (qDi s (l.take k))∧k≤l.length) (fun k=>l.length - k) ?_ 0 ⟨rfl,by simp,by simp,by simp [qDi],by simp⟩
  rintro k fr h' ⟨rfl,h1,h5,h0,hk'⟩
  by_cases hkl:k < l.length
  . obtain ⟨i,hi⟩:∃ i,l[k]=i:=⟨_,rfl⟩
    obtain ⟨k1,hk1,wk⟩:=qBr (show k < lim by omega)
    obtain ⟨t,ht⟩:∃ t,t=qDi s (l.take k):=⟨_,rfl⟩;have htl:t < big:=by rw [ht]; exact qHe _ _ hs
    have hstep:qDi s (l.take k1)=t ||| bitN i:=by rw [hk1,← withN_step hkl,hi,ht]
    rw [← withN_if htl] at hstep;rw [← ht] at h0;have fin:∀ (x:Nat) (fr:Fr),x=qDi s (l.take k1)→fr 1=vL vI l→fr 5=vI k1→fr 0=vU x→Next (fun (k:Nat) fr h_1=>h_1=h'∧fr 1=vL vI l∧fr 5=vI k∧fr 0=vU (qDi s (l.take k))∧k≤l.length) (fun k=>l.length - k) k fr h' :=
      fun x fr hx g1 g5 g0=>.go k1 (by omega) ⟨rfl,g1,g5,by rw [g0,hx],by omega⟩
    by_cases c0:0≤i
    . by_cases c1:i < 64
      . simp [h0,h1,h5,hkl,hi,c0,c1]
        refine qIk htl ?_;cases hb:hasB t i with
        | true =>
          simp [callK_def,h0,h1,h5,hb,wk];refine fin t _ ?_ ?_ ?_ ?_
          . rw [hstep,if_neg (by simp [hb])]
          all_goals simp [h0,h1,h5]
        | false =>
          obtain ⟨n,rfl⟩:∃ n:Nat,i=n:=⟨i.toNat,by omega⟩
          simp [callK_def,h0,h1,h5,hb,hkl,hi];refine two_call (by omega) ?_
          have hlt:t+2 ^ n < big:=by
            have:=qHe (l.take k1) _ hs;rw [hstep,if_pos ⟨c0,c1,hb⟩] at this; simpa using this
          have e:IntKind.u64.wrap ((t:Int)+((2 ^ n:Nat):Int))=((t+2 ^ n:Nat):Int):=by
            rw [show (t:Int)+((2 ^ n:Nat):Int)=((t+2 ^ n:Nat):Int) by simp,qFw,Nat.mod_eq_of_lt hlt]
          obtain ⟨y,hy⟩:∃ y,y=2 ^ n:=⟨_,rfl⟩;rw [← hy] at e ⊢;obtain ⟨z,hz⟩:∃ z,z=t+y:=⟨_,rfl⟩;rw [← hz] at e;simp [callK_def,h0,h1,h5,e,wk];refine fin z _ ?_ ?_ ?_ ?_
          . rw [hstep,if_pos ⟨c0,c1,hb⟩,hz,hy]; simp
          all_goals simp [h0,h1,h5]
      . simp [h0,h1,h5,hkl,hi,c0,c1,wk]
        refine fin t _ ?_ ?_ ?_ ?_
        . rw [hstep,if_neg (fun x=>c1 x.2.1)]
        all_goals simp [h0,h1,h5]
    . simp [h0,h1,h5,hkl,hi,c0,wk]
      refine fin t _ ?_ ?_ ?_ ?_
      . rw [hstep,if_neg (fun x=>c0 x.1)]
      all_goals simp [h0,h1,h5]
  . have:k=l.length:=by omega
    subst this;rw [List.take_length] at h0;simp [h0,h1,h5,qAs,qAu,resV,retV];exact hk
theorem RReach_call {s:List (List Int)} (hl:s.length < lim) (hll:∀ l∈s,l.length < lim) (hk:∀ seen:List Bool,seen.length=s.length→(∀ i,seen[i]?=some true↔Come s i)→K (vL vB seen) h):qBl prog 69 [vL (vL vI) s] h K:=by
  refine call_RReach (by simp) ?_
  simp [c_RReach];refine without_call hl hll fun seen h1 h2=>?_
  simp [callK_def,qAs,qAu,resV,retV];exact hk seen h1 fun i=>(h2 i).trans far_come
structure DUp (s:List (List Int)) (d:Nat) (out:List Nat):Prop where
  len:out.length=s.length
  lt:∀ x∈out,x < big
  bit:∀ i x k,out[i]?=some x→(x.testBit k=true↔k < d∧qIm s k i)
theorem DUp.set {s:List (List Int)} {d:Nat} {out:List Nat} {i x y:Nat} {P:Nat→Prop} (hl:out.length=s.length) (hlt:∀ x∈out,x < big) (hy:y < big) (hP:∀ j x k,out[j]?=some x→(x.testBit k=true↔(k < d∧qIm s k j)∨(k=d∧j < i∧qIm s d j))) (hi:out[i]?=some x)
    (hb:∀ k,y.testBit k=true↔x.testBit k=true∨(k=d∧qIm s d i)):∀ j x k,(out.set i y)[j]?=some x→(x.testBit k=true↔(k < d∧qIm s k j)∨(k=d∧j < i+1∧qIm s d j)):=by
  intro j z k hz;have hil:=(List.getElem?_eq_some_iff.1 hi).1
  by_cases e:j=i
  . subst e
    rw [List.getElem?_set_self hil] at hz; cases hz;rw [hb k,hP _ _ k hi];constructor
    . rintro ((h | ⟨h1,h2,_⟩) | ⟨h1,h2⟩)
      . exact .inl h
      . omega
      . exact .inr ⟨h1,by omega,h2⟩
    . rintro (h | ⟨h1,_,h2⟩)
      . exact .inl (.inl h)
      . exact .inr ⟨h1,h2⟩
  . rw [List.getElem?_set_ne (fun x=>e x.symm)] at hz
    rw [hP _ _ k hz];constructor
    . rintro (h | ⟨h1,h2,h3⟩)
      . exact .inl h
      . exact .inr ⟨h1,by omega,h3⟩
    . rintro (h | ⟨h1,h2,h3⟩)
      . exact .inl h
      . exact .inr ⟨h1,by omega,h3⟩
set_option maxHeartbeats 1000000 in
theorem RDoms_call {s:List (List Int)} (hn:s.length≤64) (hll:∀ l∈s,l.length < lim) (hk:∀ d,DomsOf s d→K (vL vU d) h):qBl prog 68 [vL (vL vI) s] h K:=by
  refine qBl.forget ?_;refine call_RDoms (by simp) ?_
  have hn':¬ (64:Int) < s.length:=by omega
  have hlim:(s.length:Int)≤lim:=by simp [lim]; omega
  have hlim':s.length < lim:=by simp [lim]; omega
  simp [c_RDoms,hn',-qAt];simp [hn'];refine RReach_call hlim' hll fun all ha1 ha2=>?_
  simp [callK_def,qIc,hlim,qKv,Am.newRow]
  let st:List Nat→Heap→Heap:=fun out g=>h++Ob.row ⟨out.map vU,1,0,true⟩ :: g
  refine qEb (σ:=Nat×List Nat×Heap) (fun x fr h'=>fr 0=vL (vL vI) s∧fr 3=vL vB all∧fr 4=.slice (some ⟨h.length,0,none⟩) s.length 0∧fr 5=vI x.1∧h'=h++Ob.row ⟨x.2.1.map vU,1,0,true⟩ :: x.2.2∧x.1≤s.length∧DUp s x.1 x.2.1) (fun x=>s.length - x.1) ?_ (0,List.replicate s.length 0,[])
    ⟨by simp,by simp,by simp,by simp,by simp,by simp,⟨by simp,fun x hx=>by rw [List.eq_of_mem_replicate hx]; decide,fun i x k hi=>by
      have:=List.getElem?_eq_some_iff.1 hi;simp at this;obtain ⟨_,rfl⟩:=this;simp⟩⟩
  rintro ⟨d,out,g⟩ fr h' ⟨h0,h3,h4,h5,rfl,hd,hD⟩;simp only at h5 hd hD
  by_cases hlt:d < s.length
  . simp [h0,h5,hlt]
    refine without_call hlim' hll fun l hl1 hl2=>?_
    have hl2:∀ i,l[i]?=some true↔Away s d i:=fun i=>(hl2 i).trans far_away
    simp [callK_def,h0,h3,h4,h5];refine qEb (σ:=Nat×List Nat×Heap) (fun x fr h'=>fr 0=vL (vL vI) s∧fr 3=vL vB all∧fr 4=.slice (some ⟨h.length,0,none⟩) s.length 0∧fr 5=vI d∧fr 6=vL vB l∧fr 7=vI x.1∧h'=h++Ob.row ⟨x.2.1.map vU,1,0,true⟩ :: x.2.2∧x.1≤s.length∧x.2.1.length=s.length∧(∀ y∈x.2.1,y < big) ∧
        ∀ j y k,x.2.1[j]?=some y→(y.testBit k=true↔(k < d∧qIm s k j)∨(k=d∧j < x.1∧qIm s d j))) (fun x=>s.length - x.1) ?_ (0,out,g)
      ⟨by simp [h0],by simp [h3],by simp [h4],by simp [h5],by simp,by simp,rfl,by simp,hD.len,hD.lt,fun j y k hj=>by rw [hD.bit j y k hj]; simp⟩
    clear h0 h3 h4 h5 fr hD;rintro ⟨i,out1,g1⟩ fr h' ⟨h0,h3,h4,h5,h6,h7,rfl,hi,hol,holt,hob⟩;simp only at h7 hi hol holt hob;obtain ⟨i1,hi1,wi⟩:=qBr (show i < lim by omega)
    by_cases hil:i < s.length
    . have hif:(i:Int) < s.length:=by omega
      obtain ⟨ta,hta⟩:∃ t,all[i]?=some t:=⟨_,List.getElem?_eq_getElem (by omega)⟩
      obtain ⟨tl,htl⟩:∃ t,l[i]?=some t:=⟨_,List.getElem?_eq_getElem (by omega)⟩
      obtain ⟨x,hx⟩:∃ x,out1[i]?=some x:=⟨_,List.getElem?_eq_getElem (by omega)⟩
      have hxb:=holt x (List.mem_of_getElem? hx);have hdom:qIm s d i↔ta=true∧tl=false:=by
        unfold qIm;rw [← ha2 i,← hl2 i,hta,htl];cases ta<;>cases tl<;>simp [hlt]
      by_cases hdi:qIm s d i
      . obtain ⟨e1,e2⟩:=hdom.1 hdi
        subst e1; subst e2;have hl0:(out1[i]?).map vU=some (vU x):=by rw [hx]; rfl
        simp [h0,h3,h4,h5,h6,h7,hif,hta,htl,hl0];refine RWith_call hxb (by simp [lim]) ?_
        have hy:=qHe [(d:Int)] x hxb;obtain ⟨y,hy0⟩:∃ y,qDi x [(d:Int)]=y:=⟨_,rfl⟩;rw [hy0] at hy ⊢;have hst:=fun g=>own_store (f:=vU) (l:=out1) (h:=h) (g:=g) (ver:=0) (off:=i) (x:=y) rfl
        have hio:i < out1.length:=by omega
        simp [callK_def,h0,h3,h4,h5,h6,h7,hif,hst,hio,wi];refine .go (i1,out1.set i y,_) (by simp; omega) ⟨by simp [h0],by simp [h3],by simp [h4],by simp [h5],by simp [h6],by simp,by rw [List.map_set],(by simp; omega),by simpa using hol,fun z hz=>?_,?_⟩
        . rcases List.mem_or_eq_of_mem_set hz with hz | rfl
          . exact holt z hz
          . exact hy
        . simp only [hi1]
          refine DUp.set (P:=fun _=>True) hol holt hy hob hx fun k=>?_
          rw [← hy0];have hd64:d < 64:=by omega
          simp only [qDi,List.foldl_cons,List.foldl_nil,bitN_nat hd64,Nat.testBit_or,Nat.testBit_two_pow,Bool.or_eq_true,decide_eq_true_iff];constructor
          . rintro (h | h)
            . exact .inl h
            . exact .inr ⟨h.symm,hdi⟩
          . rintro (h | ⟨h,_⟩)
            . exact .inl h
            . exact .inr h.symm
      . have hne:(ta && !tl)=false:=by
          cases ta<;>cases tl<;>simp at hdom ⊢;exact hdi hdom
        have fin:∀ fr:Fr,fr 0=vL (vL vI) s→fr 3=vL vB all→fr 4=.slice (some ⟨h.length,0,none⟩) s.length 0→fr 5=vI d→fr 6=vL vB l→fr 7=vI i1→Next (σ:=Nat×List Nat×Heap) (fun x fr h'=>fr 0=vL (vL vI) s∧fr 3=vL vB all∧fr 4=.slice (some ⟨h.length,0,none⟩) s.length 0∧fr 5=vI d∧fr 6=vL vB l∧fr 7=vI x.1∧h'=h++Ob.row ⟨x.2.1.map vU,1,0,true⟩ :: x.2.2∧x.1≤s.length∧x.2.1.length=s.length∧(∀ y∈x.2.1,y < big) ∧
            ∀ j y k,x.2.1[j]?=some y→(y.testBit k=true↔(k < d∧qIm s k j)∨(k=d∧j < x.1∧qIm s d j))) (fun x=>s.length - x.1) (i,out1,g1) fr (h++Ob.row ⟨out1.map vU,1,0,true⟩ :: g1):=by
          intro fr g0 g3 g4 g5 g6 g7;refine .go (i1,out1,g1) (by simp; omega) ⟨g0,g3,g4,g5,g6,g7,rfl,(by simp; omega),hol,holt,fun j y k hj=>?_⟩
          rw [hob j y k hj];simp only [hi1];constructor
          . rintro (h | ⟨h1,h2,h3⟩)
            . exact .inl h
            . exact .inr ⟨h1,by omega,h3⟩
          . rintro (h | ⟨h1,h2,h3⟩)
            . exact .inl h
            . by_cases e:j=i
              . subst e; exact absurd h3 hdi
              . exact .inr ⟨h1,by omega,h3⟩
        cases ta with
        | false =>
          simp [h0,h3,h4,h5,h6,h7,hif,hta,htl,wi];refine fin _ ?_ ?_ ?_ ?_ ?_ ?_<;>simp [h0,h3,h4,h5,h6]
        | true =>
          have:tl=true:=by simpa using hne
          subst this;simp [h0,h3,h4,h5,h6,h7,hif,hta,htl,wi];refine fin _ ?_ ?_ ?_ ?_ ?_ ?_<;>simp [h0,h3,h4,h5,h6]
    . obtain ⟨d1,hd1,wd⟩:=qBr (show d < lim by omega)
      simp [h0,h3,h4,h5,h6,h7,hil,wd];refine .go (d1,out1,g1) (by simp; omega) ⟨by simp [h0],by simp [h3],by simp [h4],by simp,rfl,(by simp; omega),hol,holt,fun j y k hj=>?_⟩
      rw [hob j y k hj];simp only [hd1];have hjl:j < i:=by have:=(List.getElem?_eq_some_iff.1 hj).1; simp only at this; omega
      constructor
      . rintro (⟨h1,h2⟩ | ⟨h1,h2,h3⟩)
        . exact ⟨by omega,h2⟩
        . subst h1; exact ⟨by omega,h3⟩
      . rintro ⟨h1,h2⟩
        by_cases e:k=d
        . subst e; exact .inr ⟨rfl,hjl,h2⟩
        . exact .inl ⟨by omega,h2⟩
  . simp [h0,h4,h5,hlt,qAs,qAu,resV,retV]
    refine ⟨_,qRh (by simp) (Nat.le_refl _) hD.len.symm,hk out ⟨hD.len,hD.lt,fun i x k hi=>?_⟩⟩
    rw [hD.bit i x k hi];exact ⟨fun h=>h.2,fun h=>⟨by have:=h.1; omega,h⟩⟩
end
end Pm

/- The pure machine: loops by what stands in their live slots.
   No condition: plain lemmas. -/
namespace Pm
set_option linter.unusedSimpArgs false
set_option linter.unusedVariables false
open Go Am

def qLs:List (Nat×Value)→Fr→Prop
  | [],_=>True
  | p :: l,fr=>fr p.1=p.2∧qLs l fr
def putF:List (Nat×Value)→Fr→Fr
  | [],fr=>fr
  | p :: l,fr=>upd (putF l fr) p.1 p.2
@[simp] theorem Slots_nil {fr:Fr}:qLs [] fr=True:=Eq.trans rfl rfl
@[simp] theorem Slots_cons {fr:Fr} {t:Nat} {v:Value} {l:List (Nat×Value)}:qLs ((t,v) :: l) fr=(fr t=v∧qLs l fr):=Eq.trans rfl rfl
@[simp] theorem putF_nil {fr:Fr}:putF [] fr=fr:=Eq.trans rfl rfl
@[simp] theorem putF_cons {fr:Fr} {t:Nat} {v:Value} {l:List (Nat×Value)}:putF ((t,v) :: l) fr=upd (putF l fr) t v:=Eq.trans rfl rfl
theorem qLs.put {fr:Fr}:∀ {l:List (Nat×Value)},qLs l fr→putF l fr=fr
  | [],_=>rfl
  | (t,v) :: l,h=>by
    rw [putF_cons,h.2.put]
    funext x
    unfold upd
    split
    . rename_i e; rw [e]; exact h.1.symm
    . rfl
def qTq {σ:Type} (S:σ→List (Nat×Value)) (Hp:σ→Heap) (G:σ→Prop) (μ:σ→Nat) (x:σ) (fr:Fr) (h:Heap):Prop:=∃ y,μ y < μ x∧qLs (S y) fr∧h=Hp y∧G y
section
variable {σ : Type} {S : σ → List (Nat × Value)} {Hp : σ → Heap} {G : σ → Prop} {μ : σ → Nat} {x : σ} {fr fr' : Fr} {h h' : Heap}
@[congr] theorem NextL_congr (e:fr=fr') (k:h=h'):qTq S Hp G μ x fr h=qTq S Hp G μ x fr' h':=by rw [e,k]
theorem qTq.go (y:σ) (h1:μ y < μ x) (h2:qLs (S y) fr) (h3:h=Hp y) (h4:G y):qTq S Hp G μ x fr h:=⟨y,h1,h2,h3,h4⟩
theorem qDh {P:Program} {a:AC} {Q:Exit→Fr→Heap→Prop} (S:σ→List (Nat×Value)) (Hp:σ→Heap) (G:σ→Prop) (μ:σ→Nat) (x:σ) (h1:qLs (S x) fr) (h2:h=Hp x) (h3:G x)
    (step:∀ x fr,G x→pwp P a (SeqK (qTq S Hp G μ x) Q) (putF (S x) fr) (Hp x)):pwp P (.loop a) Q fr h:=by
  refine qEb (fun x fr h=>qLs (S x) fr∧h=Hp x∧G x) μ ?_ x ⟨h1,h2,h3⟩
  rintro x fr h ⟨k1,rfl,k3⟩;have:=step x fr k3;rw [k1.put] at this;exact this
def MidL {σ:Type} (S:σ→List (Nat×Value)) (Hp:σ→Heap) (G:σ→Prop) (fr:Fr) (h:Heap):Prop:=∃ y,qLs (S y) fr∧h=Hp y∧G y
@[congr] theorem MidL_congr (e:fr=fr') (k:h=h'):MidL S Hp G fr h=MidL S Hp G fr' h':=by rw [e,k]
theorem MidL.go (y:σ) (h2:qLs (S y) fr) (h3:h=Hp y) (h4:G y):MidL S Hp G fr h:=⟨y,h2,h3,h4⟩
theorem qUa {P:Program} {a b:AC} {Q:Exit→Fr→Heap→Prop} (S:σ→List (Nat×Value)) (Hp:σ→Heap) (G:σ→Prop) (h1:pwp P a (SeqK (MidL S Hp G) Q) fr h)
    (h2:∀ x fr,G x→pwp P b Q (putF (S x) fr) (Hp x)):pwp P (.seq a b) Q fr h:=by
  refine qLw _ h1 ?_;rintro fr h ⟨y,k1,rfl,k3⟩;have:=h2 y fr k3;rw [k1.put] at this;exact this
end
@[simp] theorem pOps_slit {P:Program} {K:Fr→Heap→Prop} {is:List AIns} {d:Option Nat} {fl:List QOp} {fr:Fr} {H:Heap} {z:List Value} {e len:Nat} {ps:List (Nat×Nat×Operand)}:pOps P K (⟨d,none,.st (.e (.lit z e len ps)),fl⟩ :: is) fr H=optK ((qEa z (ps.map fun p=>(p.1,p.2.1,ev fr p.2.2))).map fun l=>(.slice (some ⟨H.length,0,none⟩) len 0,Am.newRow H l e)) fun x=>qOr fr H fl∧pOps P K is (updO fr d x.1) x.2:=pOps_se
end Pm
