/- Loads of what is known: small functions.
   No condition: plain lemmas. -/

import Derived.Test.YtmdnkninbkcmkaaDoorZUPmEdit
import Derived.Test.YtmdnkninbkcmkaaDoorZUPmCfgC
import Derived.Test.YtmdnkninbkcmkaaDoorZUAmSeq2
import Derived.Test.YtmdnkninbkcmkaaDoorZUPmLive2
namespace Pm
set_option linter.unusedSimpArgs false
set_option linter.unusedVariables false
open Go Am
open Go.Proofs.Tryd (prog)

theorem acqOp_iff {op:Nat}:qKe op=true↔op=13∨op=15∨op=17∨(19≤op∧op≤22)∨op=25∨op=26:=by
  unfold qKe;simp only [List.contains_iff_mem,List.mem_cons,List.not_mem_nil,or_false];omega
section
variable {h : Heap} {K : Value → Heap → Prop}
theorem bList_call {s:Nat} (hs:s < big) (hk:K (vL vI (qGb s)) h):qBn prog 48 [vU s] h K:=by
  refine .ofA fun m H vals hP hr=>?_
  obtain ⟨v,rfl,hv⟩:=qWv hr;cases qIg hv;exact List_spec hs fun v H' h1 h2 h3=>⟨⟨h2,h3⟩,fun hw=>⟨_,hk,qWq (fun x=>qNr _ _) h1 hw⟩⟩
theorem bFirst_call {s:Nat} {k:Int} (hs:s < big) (hk:K (vI (qLf s k)) h):qBn prog 24 [vU s,vI k] h K:=by
  refine .ofA fun m H vals hP hr=>?_
  obtain ⟨v,w,rfl,hv,hw⟩:=rs_two hr;cases qIg hv;cases qIg hw;exact First_spec hs ⟨⟨fun _ _=>rfl,Nat.le_refl _⟩,fun _=>⟨_,hk,.int _ _⟩⟩
theorem irAcq_call {op:Nat} (ho:op≤255) (hk:K (vB (qKe op)) h):qBn prog 47 [v8 op] h K:=by
  refine Pure.go (Pure.one (p:=vB (qKe op)) rfl fun h=>?_) hk
  refine call_irAcq (by simp) ?_
  simp [qAl,qAo,qAm,qAi,qAf,qAe,qAb,qAc,qAa,qAj,qAg,qAd,qAu,qAv,resV,retV,qAn,qAh,qAs,qAr,qAq,qAp,qWf];refine irOf_call ho ?_;have hc:cellsOf (.agg (qDg op).toArray)=some (qDg op):=by
    simp only [qAk];rw [if_pos (by simpa using qMp op)]
  have hl:(qDg op).length=7:=by unfold qDg; split<;>rfl
  have hs:∀ a b c d e f g:Value,setAll [a,b,c,d,e,f,g] 0 (qDg op)=qDg op:=fun a b c d e f g=>by unfold qDg; split<;>rfl
  have h6:∀ hh,(qDg op)[5]'hh=vB (qKe op):=by
    unfold qDg
    split
    . intro _; rfl
    . intro _
      have:qKe op=false:=by
        cases hr:qKe op with
        | false=>rfl
        | true=>rw [acqOp_iff] at hr; omega
      rw [this]; rfl
  simp [qAl,qAo,qAm,qAi,qAf,qAe,qAb,qAc,qAa,qAj,qAg,qAd,qAu,qAv,resV,retV,qAn,qAh,qAs,qAr,qAq,qAp,-qAk,callK_def,hc,hl,hs,h6]
def qEv (x:Int):Nat:=if 0≤x∧x < 8 then 15 * 2 ^ (4 * x.toNat) else 0
def ofN (r:Nat):Nat:=286331153 * 2 ^ r
theorem facts_shl:∀ n:Nat,n < 8→IntKind.u64.wrap (((allN 4:Nat):Int) * 2 ^ min (4 * n) 64)=(qEv n:Int):=by decide +kernel
theorem qLa {x:Int} (hk:K (vU (qEv x)) h):qBn prog 25 [vI x] h K:=by
  refine Pure.go (Pure.one (p:=vU (qEv x)) rfl fun h=>?_) hk
  refine call_dFacts (by simp) ?_
  by_cases h0:x < 0
  . have e:qEv x=0:=by unfold qEv; rw [if_neg (by omega)]
    rw [e];simp [qAl,qAo,qAm,qAi,qAf,qAe,qAb,qAc,qAa,qAj,qAg,qAd,qAu,qAv,resV,retV,qAn,qAh,qAs,qAr,qAq,qAp,qOf,h0]
  . by_cases h8:8≤x
    . have e:qEv x=0:=by unfold qEv; rw [if_neg (by omega)]
      rw [e];simp [qAl,qAo,qAm,qAi,qAf,qAe,qAb,qAc,qAa,qAj,qAg,qAd,qAu,qAv,resV,retV,qAn,qAh,qAs,qAr,qAq,qAp,qOf,h0,h8]
    . obtain ⟨n,rfl⟩:∃ n:Nat,x=n:=⟨x.toNat,by omega⟩
      have hn:n < 8:=by omega
      obtain ⟨q,hq⟩:∃ q:Nat,q=4 * n:=⟨_,rfl⟩;have hw:IntKind.i64.wrap (4 * (n:Int))=(q:Int):=by rw [qCp (by omega) (by omega),hq]; simp
      have hb:binV .shl (vU (allN 4)) (.int .i64 (q:Int))=some (vU (qEv n)):=by
        show binV .shl (.int .u64 ((allN 4:Nat):Int)) _=_;rw [binV_shl (by omega)]
        have e:=facts_shl n hn;rw [show ((q:Int)).toNat=4 * n by omega,show IntKind.u64.bits=64 from rfl]
        show some (Value.int .u64 (IntKind.u64.wrap (((allN 4:Nat):Int) * 2 ^ min (4 * n) 64)))=_;rw [e]
      simp [qAl,qAo,qAm,qAi,qAf,qAe,qAb,qAc,qAa,qAj,qAg,qAd,qAu,qAv,resV,retV,qAn,qAh,qAs,qAr,qAq,qAp,qOf,h0,h8,hw];refine qUv (n:=4) (by decide) ?_
      simp [qAl,qAo,qAm,qAi,qAf,qAe,qAb,qAc,qAa,qAj,qAg,qAd,qAu,qAv,resV,retV,qAn,qAh,qAs,qAr,qAq,qAp,callK_def,hb,hw]
theorem of_next {r k:Nat} (hr:r < 4) (hk:k < 8):qQm (ofN r % 2 ^ (4 * k+r)) [((4 * k+r:Nat):Int)]=ofN r % 2 ^ (4 * (k+1)+r):=by
  have h1:r=0∨r=1∨r=2∨r=3:=by omega
  have h2:k=0∨k=1∨k=2∨k=3∨k=4∨k=5∨k=6∨k=7:=by omega
  rcases h1 with rfl | rfl | rfl | rfl<;>rcases h2 with rfl | rfl | rfl | rfl | rfl | rfl | rfl | rfl<;>decide +kernel
theorem of_end {r:Nat} (hr:r < 4):ofN r % 2 ^ (4 * 8+r)=ofN r∧ofN r % 2 ^ (4 * 0+r)=0:=by
  have h1:r=0∨r=1∨r=2∨r=3:=by omega
  rcases h1 with rfl | rfl | rfl | rfl<;>decide +kernel
theorem qYr {r:Nat} (hr:r < 4):ofN r < big:=by
  have h1:r=0∨r=1∨r=2∨r=3:=by omega
  rcases h1 with rfl | rfl | rfl | rfl<;>decide +kernel
theorem qTv {r:Nat} (hr:r < 4) (hk:K (vU (ofN r)) h):qBn prog 46 [vI r] h K:=by
  refine Pure.go (Pure.one (p:=vU (ofN r)) rfl fun h=>?_) hk
  refine call_dOf (by simp) ?_
  simp [-qAy,qAl,qAo,qAm,qAi,qAf,qAe,qAb,qAc,qAa,qAj,qAg,qAd,qAu,qAv,resV,retV,qAn,qAh,qAs,qAr,qAq,qAp,qZf];rw [qAy];simp [-qAy,qAl,qAo,qAm,qAi,qAf,qAe,qAb,qAc,qAa,qAj,qAg,qAd,qAu,qAv,resV,retV,qAn,qAh,qAs,qAr,qAq,qAp];refine qEa (σ:=Nat×List Ob) (fun x=>[(0,vI r),(3,vU (ofN r % 2 ^ (4 * x.1+r))),(5,vI x.1)]) (fun x=>h++x.2) (fun x=>x.1≤8) (fun x=>8 - x.1) (0,[]) (by show qMv [(0,vI r),(3,vU (ofN r % 2 ^ (4 * 0+r))),(5,vI ((0:Nat):Int))] _; rw [(of_end hr).2]; simp) (by simp) (by simp) ?_
  rintro ⟨k,rs⟩ fr hk0;simp only at hk0 ⊢;have hlt:ofN r % 2 ^ (4 * k+r) < big:=Nat.lt_of_le_of_lt (Nat.mod_le _ _) (qYr hr)
  by_cases hlt8:k < 8
  . have hn:=of_next hr hlt8
    obtain ⟨k1,hk1,wk⟩:=qBm (show k < lim by unfold lim; omega)
    obtain ⟨q,hq⟩:∃ q:Nat,q=4 * k:=⟨_,rfl⟩;obtain ⟨u,hu⟩:∃ u:Nat,u=4 * k+r:=⟨_,rfl⟩;have w1:IntKind.i64.wrap (4 * (k:Int))=(q:Int):=by rw [qCp (by omega) (by omega),hq]; simp
    have w2:IntKind.i64.wrap ((q:Int)+r)=(u:Int):=by rw [qCp (by omega) (by omega),hu,hq]; simp
    have hkf:(k:Int) < 8:=by omega
    rw [← hu] at hn hlt ⊢;rw [← hk1] at hn;have hfz:frzV (h++(rs++[bx [vI (u:Int)] 1])) 1 (.slice (some ⟨h.length+rs.length,0,none⟩) 1 0)=some (vL vI [(u:Int)],h++(rs++[bx [vI (u:Int)] 1]).set rs.length (.row ⟨[vI (u:Int)],1,0,false⟩)):=frz_one (by simp)
    simp [qAl,qAo,qAm,qAi,qAf,qAe,qAb,qAc,qAa,qAj,qAg,qAd,qAu,qAv,resV,retV,qAn,qAh,qAs,qAr,qAq,qAp,hlt8,hkf,w1,w2,hfz];refine With_call hlt (by simp [lim]) ?_
    rw [hn];simp [qAl,qAo,qAm,qAi,qAf,qAe,qAb,qAc,qAa,qAj,qAg,qAd,qAu,qAv,resV,retV,qAn,qAh,qAs,qAr,qAq,qAp,callK_def,wk];exact .go (k1,_) (by simp only []; omega) (by simp) rfl (by simp only []; omega)
  . obtain rfl:k=8:=by omega
    rw [(of_end hr).1];simp [qAl,qAo,qAm,qAi,qAf,qAe,qAb,qAc,qAa,qAj,qAg,qAd,qAu,qAv,resV,retV,qAn,qAh,qAs,qAr,qAq,qAp]
def accX (c:Ins):Int:=if c.op=7 then c.b else c.a
def accR (c:Ins):Int:=if c.op=7 then c.a else c.b
def addN (c:Ins):Nat:=if (c.op=7∨c.op=8)∧0≤accR c∧accR c < 4 then qEv (accX c) &&& ofN (accR c).toNat else 0
theorem qLs (x:Int):qEv x < big:=by
  unfold qEv
  split
  . obtain ⟨n,rfl⟩:∃ n:Nat,x=n:=⟨x.toNat,by omega⟩
    have hx:n=0∨n=1∨n=2∨n=3∨n=4∨n=5∨n=6∨n=7:=by omega
    rcases hx with rfl | rfl | rfl | rfl | rfl | rfl | rfl | rfl<;>decide
  . decide
theorem addN_lt (c:Ins):addN c < big:=by
  unfold addN
  split
  . exact qXe (qLs _)
  . decide
theorem dAccess_call {c:Ins} (hk:K (.tuple #[vI (accX c),vI (accR c)]) h):qBn prog 45 [.agg (vIns c).toArray] h K:=by
  refine qBn.forget ?_;refine call_dAccess (by simp) ?_
  obtain ⟨op,a,b,d⟩:=c
  by_cases h7:op=7
  . have h7':(op:Int)=7:=by omega
    have e1:accX ⟨op,a,b,d⟩=b:=if_pos h7;have e2:accR ⟨op,a,b,d⟩=a:=if_pos h7;rw [e1,e2] at hk;simp [qAl,qAo,qAm,qAi,qAf,qAe,qAb,qAc,qAa,qAj,qAg,qAd,qAu,qAv,resV,retV,qAn,qAh,qAs,qAr,qAq,qAp,qOg,vIns,h7'];exact ⟨_,Inls.tup (xs:=[vI b,vI a]) (ys:=[vI b,vI a]) ⟨.cell rfl,.cell rfl,trivial⟩,hk⟩
  . have h7':¬ (op:Int)=7:=by omega
    have e1:accX ⟨op,a,b,d⟩=a:=if_neg h7;have e2:accR ⟨op,a,b,d⟩=b:=if_neg h7;rw [e1,e2] at hk;simp [qAl,qAo,qAm,qAi,qAf,qAe,qAb,qAc,qAa,qAj,qAg,qAd,qAu,qAv,resV,retV,qAn,qAh,qAs,qAr,qAq,qAp,qOg,vIns,h7'];exact ⟨_,Inls.tup (xs:=[vI a,vI b]) (ys:=[vI a,vI b]) ⟨.cell rfl,.cell rfl,trivial⟩,hk⟩
theorem dAdds_call {c:Ins} (hk:K (vU (addN c)) h):qBn prog 33 [.agg (vIns c).toArray] h K:=by
  refine Pure.go (Pure.one (p:=vU (addN c)) rfl fun h=>?_) hk
  refine call_dAdds (by simp) ?_
  obtain ⟨x,hx⟩:∃ x,x=accX c:=⟨_,rfl⟩;obtain ⟨r,hr⟩:∃ r,r=accR c:=⟨_,rfl⟩;have e:addN c=if (c.op=7∨c.op=8)∧0≤r∧r < 4 then qEv x &&& ofN r.toNat else 0:=by rw [hx,hr]; rfl
  rw [e];simp [qAl,qAo,qAm,qAi,qAf,qAe,qAb,qAc,qAa,qAj,qAg,qAd,qAu,qAv,resV,retV,qAn,qAh,qAs,qAr,qAq,qAp,qWh,vIns];refine dAccess_call (c:=c) ?_;rw [← hx,← hr];have tail:(c.op=7∨c.op=8)→0≤r→r < 4→True:=fun _ _ _=>trivial
  by_cases hop:c.op=7∨c.op=8
  . by_cases h0:r < 0
    . rw [if_neg (by omega)]
      rcases hop with h7 | h7
      . have h7':(c.op:Int)=7:=by omega
        simp [qAl,qAo,qAm,qAi,qAf,qAe,qAb,qAc,qAa,qAj,qAg,qAd,qAu,qAv,resV,retV,qAn,qAh,qAs,qAr,qAq,qAp,callK_def,h7,h7',h0]
      . have h7':(c.op:Int)=8:=by omega
        simp [qAl,qAo,qAm,qAi,qAf,qAe,qAb,qAc,qAa,qAj,qAg,qAd,qAu,qAv,resV,retV,qAn,qAh,qAs,qAr,qAq,qAp,callK_def,h7,h7',h0]
    . by_cases h4:4≤r
      . rw [if_neg (by omega)]
        rcases hop with h7 | h7
        . have h7':(c.op:Int)=7:=by omega
          simp [qAl,qAo,qAm,qAi,qAf,qAe,qAb,qAc,qAa,qAj,qAg,qAd,qAu,qAv,resV,retV,qAn,qAh,qAs,qAr,qAq,qAp,callK_def,h7,h7',h0,h4]
        . have h7':(c.op:Int)=8:=by omega
          simp [qAl,qAo,qAm,qAi,qAf,qAe,qAb,qAc,qAa,qAj,qAg,qAd,qAu,qAv,resV,retV,qAn,qAh,qAs,qAr,qAq,qAp,callK_def,h7,h7',h0,h4]
      . rw [if_pos ⟨hop,by omega,by omega⟩]
        obtain ⟨n,rfl⟩:∃ n:Nat,r=n:=⟨r.toNat,by omega⟩
        have hn:n < 4:=by omega
        have hand:bits .u64 .and (qEv x:Int) (ofN n:Int)=((qEv x &&& ofN n:Nat):Int):=qOi (qLs x) (qYr hn);have htn:((n:Int)).toNat=n:=by omega
        rw [htn];rcases hop with h7 | h7
        . have h7':(c.op:Int)=7:=by omega
          simp [qAl,qAo,qAm,qAi,qAf,qAe,qAb,qAc,qAa,qAj,qAg,qAd,qAu,qAv,resV,retV,qAn,qAh,qAs,qAr,qAq,qAp,callK_def,h7,h7',h0,h4];refine qLa ?_;simp [qAl,qAo,qAm,qAi,qAf,qAe,qAb,qAc,qAa,qAj,qAg,qAd,qAu,qAv,resV,retV,qAn,qAh,qAs,qAr,qAq,qAp,callK_def];refine qTv hn ?_;simp [qAl,qAo,qAm,qAi,qAf,qAe,qAb,qAc,qAa,qAj,qAg,qAd,qAu,qAv,resV,retV,qAn,qAh,qAs,qAr,qAq,qAp,callK_def,hand]
        . have h7':(c.op:Int)=8:=by omega
          simp [qAl,qAo,qAm,qAi,qAf,qAe,qAb,qAc,qAa,qAj,qAg,qAd,qAu,qAv,resV,retV,qAn,qAh,qAs,qAr,qAq,qAp,callK_def,h7,h7',h0,h4];refine qLa ?_;simp [qAl,qAo,qAm,qAi,qAf,qAe,qAb,qAc,qAa,qAj,qAg,qAd,qAu,qAv,resV,retV,qAn,qAh,qAs,qAr,qAq,qAp,callK_def];refine qTv hn ?_;simp [qAl,qAo,qAm,qAi,qAf,qAe,qAb,qAc,qAa,qAj,qAg,qAd,qAu,qAv,resV,retV,qAn,qAh,qAs,qAr,qAq,qAp,callK_def,hand]
  . rw [if_neg (fun h=>hop h.1)]
    have n7:¬ (c.op:Int)=7:=by omega
    have n8:¬ (c.op:Int)=8:=by omega
    have n7':¬ c.op=7:=by omega
    have n8':¬ c.op=8:=by omega
    simp [qAl,qAo,qAm,qAi,qAf,qAe,qAb,qAc,qAa,qAj,qAg,qAd,qAu,qAv,resV,retV,qAn,qAh,qAs,qAr,qAq,qAp,callK_def,n7,n8,n7',n8']
def orOf (l:List Int):Nat:=l.foldl (fun s r=>s ||| ofN r.toNat) 0
def qIl (c:Ins):Nat:=if qKe c.op=true then big - 1 else orOf (qGb (qHp c &&& allN 4)) ||| (if c.op=8 then qEv c.a else 0)
theorem qOq {s:Nat}:∀ x∈qGb (s &&& allN 4),∃ r:Nat,x=r∧r < 4:=by
  intro x hx;unfold qGb at hx;obtain ⟨i,hi,rfl⟩:=List.mem_map.1 hx;have hb:=(List.mem_filter.1 hi).2;refine ⟨i,rfl,?_⟩;rcases Nat.lt_or_ge i 4 with h | h
  . exact h
  . rw [Nat.testBit_and,show allN 4=2 ^ 4 - 1 from rfl,Nat.testBit_two_pow_sub_one] at hb
    simp at hb;omega
theorem orOf_next {l:List Int} {i i1:Nat} {x:Int} (hx:l[i]?=some x) (hi:i1=i+1):orOf (l.take i1)=orOf (l.take i) ||| ofN x.toNat:=by
  rw [hi,List.take_add_one,hx];unfold orOf;rw [List.foldl_append]
  rfl
theorem qVu {l:List Int} (h:∀ x∈l,∃ r:Nat,x=r∧r < 4):orOf l < big:=by
  unfold orOf
  suffices hs:∀ (l:List Int) (s:Nat),s < big→(∀ x∈l,∃ r:Nat,x=r∧r < 4)→l.foldl (fun s r=>s ||| ofN r.toNat) s < big from hs l 0 (by decide) h
  intro l
  induction l with
  | nil=>intro s hs _; exact hs
  | cons x l ih =>
    intro s hs hl;refine ih _ (qVt hs ?_) fun y hy=>hl y (List.mem_cons_of_mem _ hy)
    obtain ⟨r,rfl,hr⟩:=hl x (by simp)
    exact qYr hr
theorem takeN_lt (c:Ins):qIl c < big:=by
  unfold qIl
  split
  . decide
  . refine qVt (qVu qOq) ?_
    split
    . exact qLs _
    . decide
theorem dTakes_call {c:Ins} (ho:c.op≤255) (hk:K (vU (qIl c)) h):qBn prog 34 [.agg (vIns c).toArray] h K:=by
  refine Pure.go (Pure.one (p:=vU (qIl c)) rfl fun h=>?_) hk
  refine call_dTakes (by simp) ?_
  simp [qAl,qAo,qAm,qAi,qAf,qAe,qAb,qAc,qAa,qAj,qAg,qAd,qAu,qAv,resV,retV,qAn,qAh,qAs,qAr,qAq,qAp,qUh,vIns];refine irAcq_call ho ?_;cases ha:qKe c.op with
  | true =>
    have e:qIl c=big - 1:=if_pos ha;rw [e];simp [qAl,qAo,qAm,qAi,qAf,qAe,qAb,qAc,qAa,qAj,qAg,qAd,qAu,qAv,resV,retV,qAn,qAh,qAs,qAr,qAq,qAp,callK_def]
  | false =>
    obtain ⟨l,hl⟩:∃ l,l=qGb (qHp c &&& allN 4):=⟨_,rfl⟩;have hsm:∀ x∈l,∃ r:Nat,x=r∧r < 4:=by rw [hl]; exact qOq
    have hll:l.length≤64:=by rw [hl]; exact bitsI_len _
    have e:qIl c=orOf l ||| (if c.op=8 then qEv c.a else 0):=by unfold qIl; rw [if_neg (by rw [ha]; simp),← hl]
    rw [e];simp [qAl,qAo,qAm,qAi,qAf,qAe,qAb,qAc,qAa,qAj,qAg,qAd,qAu,qAv,resV,retV,qAn,qAh,qAs,qAr,qAq,qAp,callK_def];refine irSets_call (i:=c) ho ?_;simp [qAl,qAo,qAm,qAi,qAf,qAe,qAb,qAc,qAa,qAj,qAg,qAd,qAu,qAv,resV,retV,qAn,qAh,qAs,qAr,qAq,qAp,callK_def];refine qUv (n:=4) (by decide) ?_
    have hand:bits .u64 .and (qHp c:Int) (allN 4:Int)=((qHp c &&& allN 4:Nat):Int):=qOi (setsOf_lt c) (by decide)
    simp [qAl,qAo,qAm,qAi,qAf,qAe,qAb,qAc,qAa,qAj,qAg,qAd,qAu,qAv,resV,retV,qAn,qAh,qAs,qAr,qAq,qAp,callK_def,hand];refine bList_call (qXe (setsOf_lt c)) ?_;rw [← hl];simp [qAl,qAo,qAm,qAi,qAf,qAe,qAb,qAc,qAa,qAj,qAg,qAd,qAu,qAv,resV,retV,qAn,qAh,qAs,qAr,qAq,qAp,callK_def];refine qEa (σ:=Nat) (fun k=>[(1,ptr h.length),(3,vU (orOf (l.take k))),(13,vL vI l),(14,vI l.length),(15,vI k)]) (fun _=>h++[bx (vIns c) 4]) (fun k=>k≤l.length) (fun k=>l.length - k) 0 (by simp [orOf]) rfl (by simp) ?_
    intro k fr hk0
    by_cases hlt:k < l.length
    . obtain ⟨k1,hk1,wk⟩:=qBm (show k < lim by unfold lim; omega)
      have hkf:(k:Int) < l.length:=by omega
      obtain ⟨x,hx⟩:∃ x,l[k]?=some x:=⟨_,List.getElem?_eq_getElem hlt⟩;obtain ⟨r,rfl,hr⟩:=hsm x (List.mem_of_getElem? hx);have hnext:=orOf_next hx hk1;have htn:((r:Int)).toNat=r:=by omega
      rw [htn] at hnext;have ho1:orOf (l.take k) < big:=qVu fun y hy=>hsm y (List.mem_of_mem_take hy)
      obtain ⟨o,hoo⟩:∃ o,o=orOf (l.take k):=⟨_,rfl⟩;rw [← hoo] at hnext ho1 ⊢;have hor:bits .u64 .or (o:Int) (ofN r:Int)=((o ||| ofN r:Nat):Int):=qRu ho1 (qYr hr)
      simp [qAl,qAo,qAm,qAi,qAf,qAe,qAb,qAc,qAa,qAj,qAg,qAd,qAu,qAv,resV,retV,qAn,qAh,qAs,qAr,qAq,qAp,hkf,hx];refine qTv hr ?_;simp [qAl,qAo,qAm,qAi,qAf,qAe,qAb,qAc,qAa,qAj,qAg,qAd,qAu,qAv,resV,retV,qAn,qAh,qAs,qAr,qAq,qAp,callK_def,hor,wk];exact .go k1 (by omega) (by simp [hnext]) rfl (by omega)
    . obtain rfl:k=l.length:=by omega
      have hkf:¬ (l.length:Int) < l.length:=by omega
      have ho1:orOf l < big:=qVu hsm;obtain ⟨o,hoo⟩:∃ o,o=orOf l:=⟨_,rfl⟩;rw [List.take_length,← hoo];rw [← hoo] at ho1
      by_cases h8:c.op=8
      . have h8':(c.op:Int)=8:=by omega
        have hor:bits .u64 .or (o:Int) (qEv c.a:Int)=((o ||| qEv c.a:Nat):Int):=qRu ho1 (qLs _)
        rw [if_pos h8];simp [qAl,qAo,qAm,qAi,qAf,qAe,qAb,qAc,qAa,qAj,qAg,qAd,qAu,qAv,resV,retV,qAn,qAh,qAs,qAr,qAq,qAp,hkf,vIns,h8'];refine qLa ?_;simp [qAl,qAo,qAm,qAi,qAf,qAe,qAb,qAc,qAa,qAj,qAg,qAd,qAu,qAv,resV,retV,qAn,qAh,qAs,qAr,qAq,qAp,callK_def,hor]
      . have h8':¬ (c.op:Int)=8:=by omega
        rw [if_neg h8];simp [qAl,qAo,qAm,qAi,qAf,qAe,qAb,qAc,qAa,qAj,qAg,qAd,qAu,qAv,resV,retV,qAn,qAh,qAs,qAr,qAq,qAp,hkf,vIns,h8',h8]
end
end Pm

/- Numbers that are asked for on some way, before they are taken away: what the solver tells.
   No condition: plain lemmas. -/

namespace Pm
set_option linter.unusedSimpArgs false
set_option linter.unusedVariables false
open Go Am

inductive Wy (f g:Ins→Nat) (code:List Ins) (r:Nat):Nat→Prop
  | use {i:Nat} {c:Ins} (hc:code[i]?=some c) (hu:(f c).testBit r=true):Wy f g code r i
  | pass {i j:Nat} {c:Ins} (hc:code[i]?=some c) (hs:(g c).testBit r=false) (hj:(j:Int)∈qDu i c) (h:Wy f g code r j):Wy f g code r i
theorem Wy.lt {f g:Ins→Nat} {code:List Ins} {r i:Nat} (h:Wy f g code r i):i < code.length:=by
  cases h with
  | use hc _=>exact (List.getElem?_eq_some_iff.1 hc).1
  | pass hc _ _ _=>exact (List.getElem?_eq_some_iff.1 hc).1
theorem Wy.low {f g:Ins→Nat} {code:List Ins} {r i:Nat} (hf:∀ c,f c < big) (h:Wy f g code r i):r < 64:=by
  induction h with
  | @use i c hc hu =>
    rcases Nat.lt_or_ge r 64 with h | h
    . exact h
    . rw [high_bit (hf c) h] at hu; cases hu
  | pass _ _ _ _ ih=>exact ih
theorem Wy.step {f g:Ins→Nat} {code:List Ins} {r i:Nat} {c:Ins} (hc:code[i]?=some c):Wy f g code r i↔(f c).testBit r=true∨(g c).testBit r=false∧∃ j:Nat,(j:Int)∈qDu i c∧Wy f g code r j:=by
  constructor
  . intro h
    cases h with
    | use hc' hu=>rw [hc] at hc'; cases hc'; exact .inl hu
    | pass hc' hs hj h=>rw [hc] at hc'; cases hc'; exact .inr ⟨hs,_,hj,h⟩
  . rintro (h | ⟨h1,j,h2,h3⟩)
    . exact .use hc h
    . exact .pass hc h1 h2 h3
section
variable {f g : Ins → Nat} {code : List Ins} {inn out : List Nat}
structure Asked (f g:Ins→Nat) (code:List Ins) (b:List Nat):Prop where
  len:b.length=code.length
  lt:∀ i,gN b i < big
  bit:∀ i r,(gN b i).testBit r=true↔i < code.length∧∃ j:Nat,(j:Int)∈qEj (succs code) i∧Wy f g code r j
theorem Asked.unique {a b:List Nat} (ha:Asked f g code a) (hb:Asked f g code b):a=b :=
  qWy (by rw [ha.len,hb.len]) fun i _=>Nat.eq_of_testBit_eq fun r=>by rw [Bool.eq_iff_iff,ha.bit,hb.bit]
end
end Pm

/- Loads of what is known: what is known ahead of each, walked.
   No condition: plain lemmas. -/

namespace Pm
set_option linter.unusedSimpArgs false
set_option linter.unusedVariables false
open Go Am
open Go.Proofs.Tryd (prog)

def qHm (code:List Ins):Prob:=⟨succs code,code.map addN,code.map qIl,0,true,false⟩
theorem loadP_ok {code:List Ins} (hl:code.length≤64):(qHm code).Ok :=
  ⟨fun i=>gN_map_lt addN_lt,fun i=>gN_map_lt takeN_lt,(by show 0 < big; decide),by show (succs code).length≤64; rw [qCu]; exact hl,succs_short code⟩
def qMa (code:List Ins) (k:List Nat):Prop:=if 60 < code.length then k=[] else ∃ out,Solved (qHm code) k out
theorem qMa.len {code:List Ins} {k:List Nat} (h:qMa code k) (hl:code.length≤60):k.length=code.length∧∀ i,gN k i < big:=by
  unfold qMa at h;rw [if_neg (by omega)] at h
  obtain ⟨out,h⟩:=h;exact ⟨by rw [h.ilen]; exact qCu code,h.ilt⟩
section
variable {h : Heap} {K : Value → Heap → Prop}
set_option maxHeartbeats 4000000 in
theorem qNi {code:List Ins} (ho:∀ i∈code,i.op≤255) (hl:code.length≤lim) (hk:∀ b,qMa code b→K (vL vU b) h):qBn prog 19 [vM 4 vIns code] h K:=by
  refine qBn.forget ?_;refine call_dKnown (by simp) ?_
  by_cases h60:60 < code.length
  . have h60':(60:Int) < code.length:=by omega
    simp [qAl,qAo,qAm,qAi,qAf,qAe,qAb,qAc,qAa,qAj,qAg,qAd,qAu,qAv,resV,retV,qAn,qAh,qAs,qAr,qAq,qAp,qQk,h60'];exact ⟨_,.nil,hk [] (by unfold qMa; rw [if_pos h60])⟩
  . have h60':¬ (60:Int) < code.length:=by omega
    have hsl:code.length < lim:=by unfold lim; omega
    simp [-qAy,qAl,qAo,qAm,qAi,qAf,qAe,qAb,qAc,qAa,qAj,qAg,qAd,qAu,qAv,resV,retV,qAn,qAh,qAs,qAr,qAq,qAp,qQk];rw [qAy];simp [-qAy,qAl,qAo,qAm,qAi,qAf,qAe,qAb,qAc,qAa,qAj,qAg,qAd,qAu,qAv,resV,retV,qAn,qAh,qAs,qAr,qAq,qAp,h60'];refine qPq hsl ?_;simp [-qAy,qAl,qAo,qAm,qAi,qAf,qAe,qAb,qAc,qAa,qAj,qAg,qAd,qAu,qAv,resV,retV,qAn,qAh,qAs,qAr,qAq,qAp,callK_def];rw [qAy];simp [-qAy,qAl,qAo,qAm,qAi,qAf,qAe,qAb,qAc,qAa,qAj,qAg,qAd,qAu,qAv,resV,retV,qAn,qAh,qAs,qAr,qAq,qAp]
    obtain ⟨z,hz⟩:∃ z:Value→Value→List Value,z=fun gv kv=>[vL (vL vI) (succs code),gv,kv,vU 0,.bool true,.bool false]:=⟨_,rfl⟩
    have zo:ZOk z:=⟨fun _ _ _=>by rw [hz]; rfl,fun _ _ _=>by rw [hz]; rfl,fun _ _=>by rw [hz]; rfl⟩
    have e1:∀ gv kv,(z gv kv)[1]?=some gv:=fun _ _=>by rw [hz]; rfl
    have e2:∀ gv kv,(z gv kv)[2]?=some kv:=fun _ _=>by rw [hz]; rfl
    refine qEa (σ:=Nat×Value×Value×Heap) (fun x=>[(3,ptr h.length),(14,vM 4 vIns code),(15,vI code.length),(16,vI x.1)]) (fun x=>x.2.2.2)
      (fun x=>x.1≤code.length∧Fields h.length z x.2.2.2 x.2.1 x.2.2.1 ((code.map addN).take x.1) ((code.map qIl).take x.1)∧qCq h.length h x.2.2.2)
      (fun x=>code.length - x.1) (0,nilS,nilS,h++[bx (z nilS nilS) 6]) (by simp) (by rw [hz]; rfl) ⟨by simp,⟨by simp [RowV,bx],.nil,.nil,.nil⟩,qCq.app⟩ ?_
    rintro ⟨k,gv,kv,H⟩ fr ⟨hk0,F,hkp⟩;simp only at hk0 F hkp ⊢
    by_cases hlt:k < code.length
    . obtain ⟨k1,hk1,wk⟩:=qBm (show k < lim by omega)
      obtain ⟨c,hc⟩:∃ c,code[k]?=some c:=⟨_,List.getElem?_eq_getElem hlt⟩;have hkf:(k:Int) < code.length:=by omega
      have hco:=ho c (List.mem_of_getElem? hc);have hlen:∀ f:Ins→Nat,((code.map f).take k).length+1≤lim:=fun f=>by simp; omega
      have hu:(code.map addN)[k]?=some (addN c):=by rw [List.getElem?_map,hc]; rfl
      have hs:(code.map qIl)[k]?=some (qIl c):=by rw [List.getElem?_map,hc]; rfl
      simp [qAl,qAo,qAm,qAi,qAf,qAe,qAb,qAc,qAa,qAj,qAg,qAd,qAu,qAv,resV,retV,qAn,qAh,qAs,qAr,qAq,qAp,hkf,hc,F.row.cellA,e1,-qAk,qBf,qBb,qAx,qCv];refine qEi (by simp [F.row.cellA,e1]) (qFm.lock (dAdds_call (c:=c) ⟨rfl,?_⟩))
      simp [qAl,qAo,qAm,qAi,qAf,qAe,qAb,qAc,qAa,qAj,qAg,qAd,qAu,qAv,resV,retV,qAn,qAh,qAs,qAr,qAq,qAp,F.row.cellA,e1,-qAk,qBf,qBb,qAx,qCv];refine F.push1 zo (qIr (m:=1) (cs:=[vU (addN c)]) rfl rfl) (hlen _) fun v1 H1 H2 t1 F2 t2 t3 t4=>?_
      have hR:RowV H2 H.length 0 4 (vIns c):=t2 0 _ rfl;have hRc:H2.cells? H.length 0 0 4=some (vIns c):=hR.cells rfl;simp [qAl,qAo,qAm,qAi,qAf,qAe,qAb,qAc,qAa,qAj,qAg,qAd,qAu,qAv,resV,retV,qAn,qAh,qAs,qAr,qAq,qAp,t1,F2.row.cell,e2,hRc,-qAk,qBf,qBb,qAx,qCv];refine qEi (by simp [F2.row.cell,e2]) (qFm.lock (dTakes_call (c:=c) hco ⟨rfl,?_⟩))
      simp [qAl,qAo,qAm,qAi,qAf,qAe,qAb,qAc,qAa,qAj,qAg,qAd,qAu,qAv,resV,retV,qAn,qAh,qAs,qAr,qAq,qAp,F2.row.cell,F2.row.cellA,e2,-qAk,qBf,qBb,qAx,qCv];refine F2.push2 zo (qIr (m:=0) (cs:=[vU (qIl c)]) rfl rfl) (hlen _) fun v2 H3 H4 w1 F4 w2 w3 w4=>?_
      rw [← take_snoc' hu hk1,← take_snoc' hs hk1] at F4;simp [qAl,qAo,qAm,qAi,qAf,qAe,qAb,qAc,qAa,qAj,qAg,qAd,qAu,qAv,resV,retV,qAn,qAh,qAs,qAr,qAq,qAp,w1,wk];exact .go (k1,v1,v2,H4) (by simp only []; omega) (by simp) rfl ⟨by simp only []; omega,F4,hkp.trans (t4.trans w4)⟩
    . obtain rfl:k=code.length:=by omega
      have hkf:¬ (code.length:Int) < code.length:=by omega
      rw [List.take_of_length_le (by simp),List.take_of_length_le (by simp)] at F
      have ok:=loadP_ok (code:=code) (by omega)
      have hcs:H.cells? h.length 0 0 6=some (z gv kv):=F.row.cells (zo.len _ _).symm;obtain ⟨gv',kv',H',f1,f2,f3⟩:=F.frz (p:=qHm code) hz rfl rfl;simp [qAl,qAo,qAm,qAi,qAf,qAe,qAb,qAc,qAa,qAj,qAg,qAd,qAu,qAv,resV,retV,qAn,qAh,qAs,qAr,qAq,qAp,hkf,hcs,zo.len,f1];refine qBn.conv f3 (fSolve_call ok fun inn out hS=>?_)
      have hb:(qHm code).back=false:=rfl;simp [qAl,qAo,qAm,qAi,qAf,qAe,qAb,qAc,qAa,qAj,qAg,qAd,qAu,qAv,resV,retV,qAn,qAh,qAs,qAr,qAq,qAp,callK_def,hb];obtain ⟨g,rfl⟩:=(hkp.trans f2).ext;refine ⟨⟨g,rfl⟩,_,.cell rfl,hk inn ?_⟩;unfold qMa;rw [if_neg h60];exact ⟨out,hS⟩
end
end Pm

/- Loads of what is known: the code that is left, walked.
   No condition: plain lemmas. -/

namespace Pm
set_option linter.unusedSimpArgs false
set_option linter.unusedVariables false
open Go Am
open Go.Proofs.Tryd (prog)

theorem firstI_cases (s:Nat) (k:Int):qLf s k=-1∨∃ n:Nat,qLf s k=n∧n < 64∧s.testBit n=true:=by
  unfold qLf;cases h:(qGb s).find? fun x=>decide (k≤x) with
  | none=>exact .inl rfl
  | some x =>
    have hm:=List.mem_of_find?_eq_some h;unfold qGb at hm;obtain ⟨i,hi,rfl⟩:=List.mem_map.1 hm;obtain ⟨h1,h2⟩:=List.mem_filter.1 hi;exact .inr ⟨i,rfl,List.mem_range.1 h1,h2⟩
def qSi (c:Ins) (k:Nat):Int:=qLf (k &&& qEv c.b) 0
def qPy (c:Ins) (k:Nat):Ins:=if c.op=7 then (if qSi c k < 0 then c else if (qSi c k).tmod 4=c.a then nopI else ⟨2,c.a,(qSi c k).tmod 4,0⟩) else c
structure Loaded (code:List Ins) (k:List Nat) (out:List Ins):Prop where
  len:out.length=code.length
  come:∀ i x,code[i]?=some x→Come (succs code) i→out[i]?=some (qPy x (gN k i))
  away:∀ i x,code[i]?=some x→¬ Come (succs code) i→out[i]?=some x
def qJl (code out:List Ins) (fm:List Int):Prop:=if 60 < code.length then out=[]∧fm=[] else (∃ k,qMa code k∧Loaded code k out)∧fm=ownL code.length
structure LC (h:Heap) (code:List Ins) (kn:List Nat) (cs:Value) (k:Nat) (fv:Value) (out:List Ins) (H:Heap):Prop where
  row:RowV H (h.length+2) 0 2 [cs,fv]
  cod:RowM 4 vIns H (h.length+1) 1 4 out
  frm:AccL vI (h.length+2+1) H fv (ownL k)
  res:RowV H h.length 0 2 [nilS,nilS]
  kp:qCq h.length h H
  len:out.length=code.length
  tail:∀ i,k≤i→out[i]?=code[i]?
  come:∀ i c,i < k→code[i]?=some c→Come (succs code) i→out[i]?=some (qPy c (gN kn i))
  away:∀ i c,i < k→code[i]?=some c→¬ Come (succs code) i→out[i]?=some c
theorem set_self {α:Type} {l:List α} {k:Nat} {c:α} (h:l[k]?=some c):l.set k c=l:=by
  have hlt:=(List.getElem?_eq_some_iff.1 h).1;apply List.ext_getElem?;intro i
  by_cases e:i=k
  . subst e; rw [List.getElem?_set_self hlt,h]
  . rw [List.getElem?_set_ne (fun x=>e x.symm)]
theorem LC.step {h:Heap} {code:List Ins} {kn:List Nat} {cs fv v1:Value} {k k1:Nat} {out:List Ins} {H H2 H3:Heap} {c d:Ins} (w:LC h code kn cs k fv out H) (hk1:k1=k+1) (hc:code[k]?=some c) (hd:(Come (succs code) k→d=qPy c (gN kn k))∧(¬ Come (succs code) k→d=c))
    (r2:RowV H2 (h.length+2) 0 2 [cs,v1]) (a2:AccL vI (h.length+2+1) H2 v1 (ownL k1)) (res2:RowV H2 h.length 0 2 [nilS,nilS]) (kp2:qCq h.length h H2)
    (s2:RowM 4 vIns H3 (h.length+1) 1 4 (out.set k d)) (s3:Same H2 (h.length+1) H3):LC h code kn cs k1 v1 (out.set k d) H3:=by
  have hlt:=(List.getElem?_eq_some_iff.1 hc).1;refine ⟨r2.keep (s3.1 _ (by omega)),s2,a2.keep fun i hi=>s3.1 i (fun e=>by have:=a2.low i hi; omega),res2.keep (s3.1 _ (by omega)),⟨by rw [s3.2]; exact kp2.1,fun i hi=>by rw [s3.1 i (by omega)]; exact kp2.2 i hi⟩,by simp [w.len],fun i hi=>?_,fun i x hi hx hg=>?_,fun i x hi hx hg=>?_⟩
  . rw [List.getElem?_set_ne (by omega)]; exact w.tail i (by omega)
  . by_cases e:i=k
    . subst e; rw [hc] at hx; cases hx; rw [List.getElem?_set_self (by rw [w.len]; exact hlt),hd.1 hg]
    . rw [List.getElem?_set_ne (fun h=>e h.symm)]; exact w.come i x (by omega) hx hg
  . by_cases e:i=k
    . subst e; rw [hc] at hx; cases hx; rw [List.getElem?_set_self (by rw [w.len]; exact hlt),hd.2 hg]
    . rw [List.getElem?_set_ne (fun h=>e h.symm)]; exact w.away i x (by omega) hx hg
section
variable {h : Heap} {K : Value → Heap → Prop}
set_option maxHeartbeats 4000000 in
theorem qPh {code:List Ins} (ho:∀ i∈code,i.op≤255) (hl:code.length≤lim) (hk:∀ out fm,qJl code out fm→K (qYv out fm) h):qBn prog 14 [vM 4 vIns code] h K:=by
  refine qBn.forget ?_;refine call_dCode (by simp) ?_
  have hlim:lim=1048576:=rfl
  by_cases h60:60 < code.length
  . have h60':(60:Int) < code.length:=by omega
    simp [qAl,qAo,qAm,qAi,qAf,qAe,qAb,qAc,qAa,qAj,qAg,qAd,qAu,qAv,resV,retV,qAn,qAh,qAs,qAr,qAq,qAp,qUi,h60'];exact ⟨_,Inls.agg (xs:=[_,_]) (ys:=[_,_]) ⟨.nil,.nil,trivial⟩,hk [] [] (by unfold qJl; rw [if_pos h60]; exact ⟨rfl,rfl⟩)⟩
  . have h60':¬ (60:Int) < code.length:=by omega
    simp [-qAy,qAl,qAo,qAm,qAi,qAf,qAe,qAb,qAc,qAa,qAj,qAg,qAd,qAu,qAv,resV,retV,qAn,qAh,qAs,qAr,qAq,qAp,qUi];rw [qAy];simp [-qAy,qAl,qAo,qAm,qAi,qAf,qAe,qAb,qAc,qAa,qAj,qAg,qAd,qAu,qAv,resV,retV,qAn,qAh,qAs,qAr,qAq,qAp,h60'];refine Clone4_call hl (fun e=>?_) ?_
    . subst e
      simp [-qAy,qAl,qAo,qAm,qAi,qAf,qAe,qAb,qAc,qAa,qAj,qAg,qAd,qAu,qAv,resV,retV,qAn,qAh,qAs,qAr,qAq,qAp,callK_def];refine qNi (code:=[]) (by simp) (by simp) fun b hb=>?_
      simp [-qAy,qAl,qAo,qAm,qAi,qAf,qAe,qAb,qAc,qAa,qAj,qAg,qAd,qAu,qAv,resV,retV,qAn,qAh,qAs,qAr,qAq,qAp,callK_def];refine qPq (by simp [lim]) ?_
      simp [-qAy,qAl,qAo,qAm,qAi,qAf,qAe,qAb,qAc,qAa,qAj,qAg,qAd,qAu,qAv,resV,retV,qAn,qAh,qAs,qAr,qAq,qAp,callK_def];refine Reach_call (s:=succs []) (by simp [succs,lim]) fun seen hs1 hs2=>?_
      simp [-qAy,qAl,qAo,qAm,qAi,qAf,qAe,qAb,qAc,qAa,qAj,qAg,qAd,qAu,qAv,resV,retV,qAn,qAh,qAs,qAr,qAq,qAp,callK_def];rw [qAy];simp [-qAy,qAl,qAo,qAm,qAi,qAf,qAe,qAb,qAc,qAa,qAj,qAg,qAd,qAu,qAv,resV,retV,qAn,qAh,qAs,qAr,qAq,qAp];refine qXz 1 ?_;rw [qHv];simp [qAl,qAo,qAm,qAi,qAf,qAe,qAb,qAc,qAa,qAj,qAg,qAd,qAu,qAv,resV,retV,qAn,qAh,qAs,qAr,qAq,qAp];exact ⟨_,Inls.agg (xs:=[_,_]) (ys:=[_,_]) ⟨.nil,.nil,trivial⟩,hk [] [] (by unfold qJl; rw [if_neg (by simp)]; exact ⟨⟨b,hb,⟨rfl,fun i c hc=>by simp at hc,fun i c hc=>by simp at hc⟩⟩,rfl⟩)⟩
    . obtain ⟨cs,hcs⟩:∃ cs:Value,cs=.slice (some ⟨h.length+1,0,none⟩) code.length 1:=⟨_,rfl⟩
      simp [-qAy,qAl,qAo,qAm,qAi,qAf,qAe,qAb,qAc,qAa,qAj,qAg,qAd,qAu,qAv,resV,retV,qAn,qAh,qAs,qAr,qAq,qAp,callK_def];refine qNi ho hl fun b hb=>?_
      obtain ⟨hbl,hblt⟩:=hb.len (by omega)
      simp [-qAy,qAl,qAo,qAm,qAi,qAf,qAe,qAb,qAc,qAa,qAj,qAg,qAd,qAu,qAv,resV,retV,qAn,qAh,qAs,qAr,qAq,qAp,callK_def];refine qPq (by omega) ?_
      simp [-qAy,qAl,qAo,qAm,qAi,qAf,qAe,qAb,qAc,qAa,qAj,qAg,qAd,qAu,qAv,resV,retV,qAn,qAh,qAs,qAr,qAq,qAp,callK_def];refine Reach_call (s:=succs code) (by have:=sum_succs code; rw [qCu]; omega) fun seen hs1 hs2=>?_
      rw [qCu] at hs1;simp [-qAy,qAl,qAo,qAm,qAi,qAf,qAe,qAb,qAc,qAa,qAj,qAg,qAd,qAu,qAv,resV,retV,qAn,qAh,qAs,qAr,qAq,qAp,callK_def];rw [qAy];simp [-qAy,qAl,qAo,qAm,qAi,qAf,qAe,qAb,qAc,qAa,qAj,qAg,qAd,qAu,qAv,resV,retV,qAn,qAh,qAs,qAr,qAq,qAp];refine qEa (σ:=Nat×Value×List Ins×Heap) (fun x=>[(2,ptr h.length),(3,ptr (h.length+2)),(4,vL vU b),(5,vL vB seen),(22,vM 4 vIns code),(23,vI code.length),(24,vI x.1)]) (fun x=>x.2.2.2)
        (fun x=>x.1≤code.length∧LC h code b cs x.1 x.2.1 x.2.2.1 x.2.2.2) (fun x=>code.length - x.1)
        (0,nilS,code,h++[bx [nilS,nilS] 2,Ob.row ⟨code.flatMap vIns,4,1,true⟩,bx [cs,nilS] 2]) (by simp) (by rw [hcs]) ⟨by simp,⟨by simp [RowV,bx],by simp [RowM],.nil,by simp [RowV,bx],qCq.app,rfl,fun _ _=>rfl,fun i c hi=>by omega,fun i c hi=>by omega⟩⟩ ?_
      rintro ⟨k,fv,out,H⟩ fr ⟨hk0,v⟩;simp only at hk0 v ⊢
      by_cases hlt:k < code.length
      . obtain ⟨k1,hk1,wk⟩:=qBm (show k < lim by omega)
        obtain ⟨c,hc⟩:∃ c,code[k]?=some c:=⟨_,List.getElem?_eq_getElem hlt⟩;have hkf:(k:Int) < code.length:=by omega
        have hco:=ho c (List.mem_of_getElem? hc);obtain ⟨sk,hsk⟩:∃ sk,seen[k]?=some sk:=⟨_,List.getElem?_eq_getElem (by omega)⟩
        have hbk:=qZc (l:=b) (i:=k) (by omega)
        simp [qAl,qAo,qAm,qAi,qAf,qAe,qAb,qAc,qAa,qAj,qAg,qAd,qAu,qAv,resV,retV,qAn,qAh,qAs,qAr,qAq,qAp,hkf,hc,v.row.cellA,-qAk,qBf,qBb,qAx,qCv];refine box_push (j:=1) v.row v.frm (by simp) (qIr (m:=1) (cs:=[vI (k:Int)]) rfl rfl) (by rw [ownL_len]; omega) fun v1 H1 H2 t1 r2 a2 t2 t3 t4=>?_
        have hR:RowV H2 H.length 0 4 (vIns c):=t2 0 _ rfl;have e0:H2.cell? H.length 0 0=some (v8 c.op):=by rw [hR.cell]; rfl
        have e1:H2.cell? H.length 1 0=some (vI c.a):=by rw [hR.cell]; rfl
        have e2:H2.cell? H.length 2 0=some (vI c.b):=by rw [hR.cell]; rfl
        have hst:([cs,fv]:List Value).set 1 v1=[cs,v1]:=rfl;rw [hst] at r2;have ecs:H2.cell? (h.length+2) 0 0=some cs:=by rw [r2.cell]; rfl
        have cod2:RowM 4 vIns H2 (h.length+1) 1 4 out:=v.cod.keep (t4.2 _ (by omega))
        have res2:RowV H2 h.length 0 2 [nilS,nilS]:=v.res.keep (t4.2 _ (by omega))
        have kp2:qCq h.length h H2:=v.kp.trans ⟨t4.1,fun i hi=>t4.2 i (by omega)⟩
        have own1:ownL k1=ownL k++[(k:Int)]:=by rw [hk1,ownL_succ]
        rw [← own1] at a2;have hok:out[k]?=some c:=by rw [v.tail k (Nat.le_refl _),hc]
        have stay:((Come (succs code) k→c=qPy c (gN b k))∧(¬ Come (succs code) k→c=c))→LC h code b cs k1 v1 out H2:=fun hd=>by
          have:=v.step (H3:=H2) (d:=c) hk1 hc hd r2 a2 res2 kp2 (by rw [set_self hok]; exact cod2) ⟨fun _ _=>rfl,rfl⟩
          rwa [set_self hok] at this
        by_cases h7:c.op=7
        . have h7':(c.op:Int)=7:=by omega
          cases sk with
          | true =>
            have hcome:Come (succs code) k:=(hs2 k).1 hsk;obtain ⟨kb,hkb⟩:∃ kb,kb=gN b k:=⟨_,rfl⟩;have hkl:kb < big:=by rw [hkb]; exact hblt k
            have hand:bits .u64 .and (kb:Int) (qEv c.b:Int)=((kb &&& qEv c.b:Nat):Int):=qOi hkl (qLs _);rw [← hkb] at hbk stay;have e7:qPy c kb=if qSi c kb < 0 then c else if (qSi c kb).tmod 4=c.a then nopI else ⟨2,c.a,(qSi c kb).tmod 4,0⟩:=by unfold qPy; rw [if_pos h7]
            simp [qAl,qAo,qAm,qAi,qAf,qAe,qAb,qAc,qAa,qAj,qAg,qAd,qAu,qAv,resV,retV,qAn,qAh,qAs,qAr,qAq,qAp,t1,e0,e1,e2,h7',hsk,hbk];refine qEi (by simp [hbk]) (qFm.lock (qLa ⟨rfl,?_⟩))
            simp [qAl,qAo,qAm,qAi,qAf,qAe,qAb,qAc,qAa,qAj,qAg,qAd,qAu,qAv,resV,retV,qAn,qAh,qAs,qAr,qAq,qAp,hbk,hand];refine bFirst_call (qXe hkl) ?_;have hfd:qLf (kb &&& qEv c.b) 0=qSi c kb:=rfl;rw [hfd];rcases firstI_cases (kb &&& qEv c.b) 0 with hf | ⟨n,hf,hn,_⟩
            . rw [hfd] at hf
              rw [hf] at e7 ⊢;rw [if_pos (by decide)] at e7
              simp [qAl,qAo,qAm,qAi,qAf,qAe,qAb,qAc,qAa,qAj,qAg,qAd,qAu,qAv,resV,retV,qAn,qAh,qAs,qAr,qAq,qAp,callK_def,wk];exact .go (k1,v1,out,H2) (by simp only []; omega) (by simp) rfl ⟨by simp only []; omega,stay ⟨fun _=>e7.symm,fun _=>rfl⟩⟩
            . rw [hfd] at hf
              rw [hf] at e7 ⊢;rw [if_neg (by omega)] at e7
              have hn0:¬ (n:Int) < 0:=by omega
              obtain ⟨q,hq⟩:∃ q:Nat,q=n % 4:=⟨_,rfl⟩;have hm:(n:Int).tmod 4=(q:Int):=by rw [Int.tmod_eq_emod_of_nonneg (by omega),hq]; rfl
              have wq:IntKind.i64.wrap (q:Int)=q:=qCp (by omega) (by omega)
              rw [hm] at e7;obtain ⟨H3,s1,s2,s3⟩:=cod2.store (r:=k) (by rw [v.len]; exact hlt) (x:=nopI) rfl
              have s1':qBz H2 4 (.pointer (some ⟨h.length+1,k * 4,some 1⟩)) (.agg #[.int .u8 0,.int .i64 0,.int .i64 0,.int .i64 0])=some H3:=s1;have e1':H3.cell? H.length 1 0=some (vI c.a):=by rw [(hR.keep (s3.1 _ (by have:=t3; have:=v.cod.lt; omega))).cell]; rfl
              have ecs':H3.cell? (h.length+2) 0 0=some cs:=by rw [(r2.keep (s3.1 _ (by omega))).cell]; rfl
              by_cases hqa:(q:Int)=c.a
              . rw [if_pos hqa] at e7
                simp [qAl,qAo,qAm,qAi,qAf,qAe,qAb,qAc,qAa,qAj,qAg,qAd,qAu,qAv,resV,retV,qAn,qAh,qAs,qAr,qAq,qAp,callK_def,hn0,ecs,hcs,hlt,s1',hm,wq,e1',hqa,wk];have sc:=v.step (d:=nopI) hk1 hc ⟨fun _=>by rw [← hkb]; exact e7.symm,fun hn=>absurd hcome hn⟩ r2 a2 res2 kp2 s2 s3
                exact .go (k1,v1,out.set k nopI,H3) (by simp only []; omega) (by simp) rfl ⟨by simp only []; omega,by subst hcs; exact sc⟩
              . rw [if_neg hqa] at e7
                obtain ⟨H4,u1,u2,u3⟩:=s2.store (r:=k) (by simp [v.len]; exact hlt) (x:=⟨2,c.a,q,0⟩) rfl
                have u1':qBz H3 4 (.pointer (some ⟨h.length+1,k * 4,some 1⟩)) (.agg #[.int .u8 2,.int .i64 c.a,.int .i64 q,.int .i64 0])=some H4:=u1;rw [List.set_set] at u2;have sc:=v.step (d:=⟨2,c.a,q,0⟩) hk1 hc ⟨fun _=>by rw [← hkb]; exact e7.symm,fun hn=>absurd hcome hn⟩ r2 a2 res2 kp2 u2 ⟨fun i hi=>by rw [u3.1 i hi,s3.1 i hi],by rw [u3.2,s3.2]⟩
                simp [qAl,qAo,qAm,qAi,qAf,qAe,qAb,qAc,qAa,qAj,qAg,qAd,qAu,qAv,resV,retV,qAn,qAh,qAs,qAr,qAq,qAp,callK_def,hn0,ecs,hcs,hlt,s1',hm,wq,e1',hqa,ecs',u1',wk];exact .go (k1,v1,out.set k ⟨2,c.a,q,0⟩,H4) (by simp only []; omega) (by simp) rfl ⟨by simp only []; omega,by subst hcs; exact sc⟩
          | false =>
            have hng:¬ Come (succs code) k:=fun hy=>by rw [← hs2 k,hsk] at hy; cases hy
            simp [qAl,qAo,qAm,qAi,qAf,qAe,qAb,qAc,qAa,qAj,qAg,qAd,qAu,qAv,resV,retV,qAn,qAh,qAs,qAr,qAq,qAp,t1,e0,e1,h7',hsk,wk];exact .go (k1,v1,out,H2) (by simp only []; omega) (by simp) rfl ⟨by simp only []; omega,stay ⟨fun hy=>absurd hy hng,fun _=>rfl⟩⟩
        . have h7':¬ (c.op:Int)=7:=by omega
          have e7:qPy c (gN b k)=c:=by unfold qPy; rw [if_neg h7]
          simp [qAl,qAo,qAm,qAi,qAf,qAe,qAb,qAc,qAa,qAj,qAg,qAd,qAu,qAv,resV,retV,qAn,qAh,qAs,qAr,qAq,qAp,t1,e0,e1,h7,h7',wk];exact .go (k1,v1,out,H2) (by simp only []; omega) (by simp) rfl ⟨by simp only []; omega,stay ⟨fun _=>e7.symm,fun _=>rfl⟩⟩
      . obtain rfl:k=code.length:=by omega
        have hkf:¬ (code.length:Int) < code.length:=by omega
        have hce:H.cells? (h.length+2) 0 0 2=some [cs,fv]:=v.row.cells rfl;have hfc:cellsOf fv=some [fv]:=v.frm.cell;obtain ⟨H2,s1,s2,s3⟩:=v.res.store (n:=2) (cs:=[cs,fv]) rfl rfl (by
          have hq:=v.frm;rcases hq with ⟨e,_⟩ | ⟨id,ver,e,_⟩<;>rw [e,hcs]<;>rfl)
        have s1':qBz H 2 (ptr h.length) (.agg #[cs,fv])=some H2:=s1;have ce2:H2.cells? h.length 0 0 2=some [cs,fv]:=s2.cells rfl;simp [qAl,qAo,qAm,qAi,qAf,qAe,qAb,qAc,qAa,qAj,qAg,qAd,qAu,qAv,resV,retV,qAn,qAh,qAs,qAr,qAq,qAp,hkf,hce,s1',ce2];obtain ⟨g,hg⟩:=(v.kp.trans ⟨by rw [s3.2]; exact Nat.le_refl _,fun i hi=>s3.1 i (by omega)⟩:qCq h.length h H2).ext
        have cod2:RowM 4 vIns H2 (h.length+1) 1 4 out:=v.cod.keep (s3.1 _ (by omega))
        have frm2:AccL vI (h.length+2+1) H2 fv (ownL code.length):=v.frm.keep fun i hi=>s3.1 i (fun e=>by have:=v.frm.low i hi; omega)
        have i1:Inl h.length H2 cs (vM 4 vIns out):=by
          rw [hcs];exact AccM.inl (e:=4) (F:=vIns) (b:=h.length) (.inr ⟨_,1,by rw [v.len],by omega,cod2,qIp (e:=4) (fun _=>rfl) _⟩) fun _=>rfl
        have i2:Inl h.length H2 fv (vL vI (ownL code.length)):=by
          have f3:AccL vI h.length H2 fv (ownL code.length):=by
            rcases frm2 with ⟨e1,e2,e3⟩ | ⟨id,ver,e1,e2,e3⟩
            . exact Or.inl ⟨e1,e2,e3⟩
            . exact Or.inr ⟨id,ver,e1,by omega,e3⟩
          exact AccL.inl f3 fun _=>rfl
        refine ⟨⟨g,hg⟩,_,Inls.agg (xs:=[cs,fv]) (ys:=[vM 4 vIns out,vL vI (ownL code.length)]) ⟨i1,i2,trivial⟩,hk out (ownL code.length) ?_⟩;unfold qJl;rw [if_neg h60];exact ⟨⟨b,hb,⟨v.len,fun i c hc=>v.come i c (List.getElem?_eq_some_iff.1 hc).1 hc,fun i c hc=>v.away i c (List.getElem?_eq_some_iff.1 hc).1 hc⟩⟩,rfl⟩
end
end Pm
