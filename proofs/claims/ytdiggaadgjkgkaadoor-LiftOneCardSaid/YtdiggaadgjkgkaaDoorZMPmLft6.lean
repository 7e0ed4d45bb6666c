/- Loads qHa of loops: LiftOne, walked.
   No condition: plain lemmas. -/

import Derived.Test.YtdiggaadgjkgkaaDoorZMPmLft4
namespace Pm
set_option linter.unusedSimpArgs false
set_option linter.unusedVariables false
open Go Am
open Go.Proofs.Tryd (prog)

structure OneL (code out:List Ins) (fm:List Int) (hd i:Nat) (x:Ins):Prop where
  hi:hd≤i
  il:i < code.length
  at_:code[i]?=some x
  op:x.op=7
  len:out.length=code.length+1
  fln:fm.length=code.length+1
  head:out[hd]?=some x
  gone:out[i+1]?=some nopI
  fhd:fm[hd]?=some (i:Int)
  lo:∀ j,j < hd→fm[j]?=some (j:Int)∧∃ y z,out[j]?=some y∧code[j]?=some z∧y.op=z.op
  up:∀ j,hd≤j→j < code.length→fm[j+1]?=some (j:Int)∧∃ y z,out[j+1]?=some y∧code[j]?=some z∧(y.op=z.op∨(y=nopI∧z.op=7))
theorem movedI_op (hd B:Nat) (i:Int) (x:Ins):(qFn hd B i x).op=x.op:=by
  unfold qFn
  split
  . rfl
  . split<;>rfl
theorem movedL_len (hd B:Nat) (code:List Ins):(qEg hd B code).length=code.length:=by simp [qEg]
theorem movedL_at {hd B j:Nat} {code:List Ins} {z:Ins} (h:code[j]?=some z):(qEg hd B code)[j]?=some (qFn hd B j z):=by simp [qEg,h]
theorem one_lift {code:List Ins} {hd B i:Nat} {x:Ins} (hi:hd≤i) (il:i < code.length) (hx:code[i]?=some x) (h7:x.op=7):OneL code (qGy hd B code i x) (qGx code.length hd i) hd i x:=by
  have hml:=movedL_len hd B code;have hsl:((qEg hd B code).set i nopI).length=code.length:=by simp [hml]
  have htl:(((qEg hd B code).set i nopI).take hd).length=hd:=by simp [hml]; omega
  have hol:=qFt code.length;have hft:((ownL code.length).take hd).length=hd:=by simp [hol]; omega
  have up':∀ j,hd≤j→(qGy hd B code i x)[j+1]?=((qEg hd B code).set i nopI)[j]?:=fun j hj=>by
    unfold qGy;rw [List.getElem?_append_right (by omega),htl,show j+1 - hd=(j - hd)+1 by omega,List.getElem?_cons_succ,List.getElem?_drop]
    congr 1; omega
  have fup:∀ j,hd≤j→(qGx code.length hd i)[j+1]?=(ownL code.length)[j]?:=fun j hj=>by
    unfold qGx;rw [List.getElem?_append_right (by omega),hft,show j+1 - hd=(j - hd)+1 by omega,List.getElem?_cons_succ,List.getElem?_drop]
    congr 1; omega
  refine ⟨hi,il,hx,h7,?_,?_,?_,?_,?_,fun j hj=>?_,fun j hj hjl=>?_⟩
  . simp [qGy,hml]; omega
  . simp [qGx,hol]; omega
  . unfold qGy; rw [List.getElem?_append_right (by omega),htl,Nat.sub_self]; rfl
  . rw [up' i hi,List.getElem?_set_self (by omega)]
  . unfold qGx; rw [List.getElem?_append_right (by omega),hft,Nat.sub_self]; rfl
  . obtain ⟨z,hz⟩:∃ z,code[j]?=some z:=⟨_,List.getElem?_eq_getElem (by omega)⟩
    refine ⟨?_,qFn hd B j z,z,?_,hz,movedI_op _ _ _ _⟩
    . unfold qGx; rw [List.getElem?_append_left (by omega),List.getElem?_take_of_lt hj,ownL_at (by omega)]
    . unfold qGy; rw [List.getElem?_append_left (by omega),List.getElem?_take_of_lt hj,List.getElem?_set_ne (by omega),movedL_at hz]
  . obtain ⟨z,hz⟩:∃ z,code[j]?=some z:=⟨_,List.getElem?_eq_getElem (by omega)⟩
    refine ⟨by rw [fup j hj,ownL_at hjl],?_⟩
    rw [up' j hj]
    by_cases e:j=i
    . subst e
      rw [hx] at hz; cases hz;exact ⟨nopI,x,List.getElem?_set_self (by omega),hx,.inr ⟨rfl,h7⟩⟩
    . exact ⟨_,z,by rw [List.getElem?_set_ne (by omega),movedL_at hz],hz,.inl (movedI_op _ _ _ _)⟩
theorem one_to {code:List Ins}:∀ {ls:List (Nat×Nat)} {out:List Ins} {fm:List Int},(∀ p∈ls,∀ t,p.2.testBit t=true→t < code.length)→(out,fm)=qIm code ls→(out=code∧fm=ownL code.length)∨∃ hd i x,OneL code out fm hd i x
  | [],out,fm,_,h=>by cases h; exact .inl ⟨rfl,rfl⟩
  | p :: ls,out,fm,hb,h=>by
    simp only [qIm] at h;cases hp:qLr code p with
    | none=>rw [hp] at h; exact one_to (fun q hq=>hb q (by simp [hq])) h
    | some i =>
      rw [hp] at h;unfold qLr at hp;obtain ⟨t,ht,rfl⟩:=Option.map_eq_some_iff.1 hp;have hm:=List.mem_of_find?_eq_some ht;have hs:=List.find?_some ht;obtain ⟨k,rfl,_,hk⟩:=qEh.1 hm;have hkl:=hb p (by simp) k hk
      obtain ⟨x,hx⟩:∃ x,code[k]?=some x:=⟨_,List.getElem?_eq_getElem hkl⟩;simp only [Int.toNat_natCast] at h hs;rw [hx,Option.getD_some] at h;simp only [qLw,hx,mayB,Bool.and_eq_true,decide_eq_true_eq] at hs;cases h;exact .inr ⟨p.1,k,x,one_lift hs.1.1.1.1.2 hkl hx hs.1.1.1.1.1⟩
theorem one_of {code out:List Ins} {fm:List Int} (hL:qEp code out fm) (hl:code.length < 60):(out=code∧fm=ownL code.length)∨∃ hd i x,OneL code out fm hd i x:=by
  unfold qEp at hL;rw [if_neg (by omega),if_neg (by omega)] at hL
  obtain ⟨ls,h1,h2⟩:=hL;refine one_to (fun p hp t ht=>?_) h2
  obtain ⟨h3,h4,_⟩:=h1.mem hp;have:=h4.lts (by rw [qBm]; exact h3) ht
  rwa [qBm] at this

def atV (hd j:Nat):Int:=if j≤hd then -1 else hd
set_option maxHeartbeats 4000000 in
theorem LiftOne_spec' (h:Heap) (c:List Nat) (back:Nat) (hc:qQw c) (hb:back≤255):qBj prog 4 [vL v8 c,v8 back] h fun r _=>r=.bool true:=by
  refine call_LiftOne (by simp) ?_
  have hlim:lim=1048576:=rfl;simp [-qAu,qAk,qAn,qAl,qAh,qAg,qAe,qAb,qAd,qAa,qAi,qAf,qAc,qAs,qAt,resV,retV,qAm,qAj,qAr,qAq,qAp,qAo,qMl];refine L20_call hc hb fun v H code hL acc kp=>?_
  obtain ⟨k,hk,hL⟩:=hL;have hcl:code.length≤10:=by rcases hL with ⟨_,rfl⟩ | ⟨_,rfl⟩<;>simp [qBq]; omega
  have hop:∀ y∈code,y.op≤255:=fun y hy=>by
    rcases hL with ⟨_,rfl⟩ | ⟨_,rfl⟩
    . simp at hy
    . rcases List.mem_append.1 hy with h1 | h1
      . obtain ⟨j,hj⟩:=List.mem_iff_getElem?.1 h1
        have:=(qJn hj).2.2; omega
      . simp at h1; rcases h1 with rfl | rfl
        . show (1:Nat)≤255; omega
        . show (11:Nat)≤255; omega
  clear hL;simp [-qAu,qAk,qAn,qAl,qAh,qAg,qAe,qAb,qAd,qAa,qAi,qAf,qAc,qAs,qAt,resV,retV,qAm,qAj,qAr,qAq,qAp,qAo,callK_def];refine acc.frz (fun _=>rfl) fun H2 kp2 hl2 _=>?_
  simp [-qAu,qAk,qAn,qAl,qAh,qAg,qAe,qAb,qAd,qAa,qAi,qAf,qAc,qAs,qAt,resV,retV,qAm,qAj,qAr,qAq,qAp,qAo];refine qIs hop (by omega) fun out fm hL=>?_
  have hone:=one_of hL (by omega)
  clear hL;simp [-qAu,qAk,qAn,qAl,qAh,qAg,qAe,qAb,qAd,qAa,qAi,qAf,qAc,qAs,qAt,resV,retV,qAm,qAj,qAr,qAq,qAp,qAo,callK_def,qKk];rw [qAu];rcases hone with ⟨rfl,rfl⟩ | ⟨hd,i,x,ho⟩
  . simp [qAk,qAn,qAl,qAh,qAg,qAe,qAb,qAd,qAa,qAi,qAf,qAc,qAs,qAt,resV,retV,qAm,qAj,qAr,qAq,qAp,qAo]
    refine qFw ?_;simp [qAk,qAn,qAl,qAh,qAg,qAe,qAb,qAd,qAa,qAi,qAf,qAc,qAs,qAt,resV,retV,qAm,qAj,qAr,qAq,qAp,qAo,callK_def];refine R2SameCode_call (by omega) ?_
    simp [qAk,qAn,qAl,qAh,qAg,qAe,qAb,qAd,qAa,qAi,qAf,qAc,qAs,qAt,resV,retV,qAm,qAj,qAr,qAq,qAp,qAo,callK_def,qFt]
  . have hlen:out.length=code.length+1:=ho.len
    have t1:¬ (out.length:Int)=code.length:=by omega
    have t2:IntKind.i64.wrap ((code.length:Int)+1)=(code.length:Int)+1:=wrap_i64 (by omega) (by omega)
    have t3:(out.length:Int)=(code.length:Int)+1:=by omega
    have t4:(fm.length:Int)=(out.length:Int):=by have:=ho.fln; omega
    simp [-qAu,qAk,qAn,qAl,qAh,qAg,qAe,qAb,qAd,qAa,qAi,qAf,qAc,qAs,qAt,resV,retV,qAm,qAj,qAr,qAq,qAp,qAo,t1,t2];rw [qAu];simp [-qAu,qAk,qAn,qAl,qAh,qAg,qAe,qAb,qAd,qAa,qAi,qAf,qAc,qAs,qAt,resV,retV,qAm,qAj,qAr,qAq,qAp,qAo,t1,t2,t3,t4];rw [qAu];simp [-qAu,qAk,qAn,qAl,qAh,qAg,qAe,qAb,qAd,qAa,qAi,qAf,qAc,qAs,qAt,resV,retV,qAm,qAj,qAr,qAq,qAp,qAo];have hil:=ho.il;have hhi:=ho.hi;have hfln:=ho.fln;refine qFv (σ:=Nat) (fun j=>[(5,vM 4 vIns code),(6,ptr H2.length),(7,vI (atV hd j)),(8,vI j)]) (fun _=>H2++[bx [vM 4 vIns out,vL vI fm] 2])
      (fun j=>j≤code.length+1) (fun j=>code.length+1 - j) 0 (by simp [atV]) rfl (by simp) ?_
    rintro j fr hj;obtain ⟨j1,hj1e,wj⟩:=qCg (show j < lim by omega)
    by_cases hjl:j < code.length+1
    . have hjF:(j:Int) < fm.length:=by omega
      have hjO:(j:Int) < out.length:=by omega
      rcases Nat.lt_trichotomy j hd with hlt | heq | hgt
      . have av:atV hd j=-1:=by unfold atV; rw [if_pos (by omega)]
        have av1:atV hd j1=-1:=by unfold atV; rw [if_pos (by omega)]
        obtain ⟨f1,y,z,o1,c1,e1⟩:=ho.lo j hlt;have hn1:(j1:Int) < fm.length:=by omega
        obtain ⟨fn,hfn,hne⟩:∃ fn,fm[j1]?=some fn∧¬ fn=(j:Int):=by
          by_cases e:j1=hd
          . exact ⟨_,by rw [e]; exact ho.fhd,by omega⟩
          . exact ⟨_,(ho.lo j1 (by omega)).1,by omega⟩
        have hcj:(j:Int) < code.length:=by omega
        have hcj':¬ (code.length:Int)≤j:=by omega
        simp [qAk,qAn,qAl,qAh,qAg,qAe,qAb,qAd,qAa,qAi,qAf,qAc,qAs,qAt,resV,retV,qAm,qAj,qAr,qAq,qAp,qAo,wj,hjF,hjO,av,f1,o1,c1,hfn,hne,hn1,hcj,hcj',e1,-qAy,qAw,qAv,qAx,qBa,wN_0,wN_1,wN_2,wN_3];exact .go j1 (by omega) (by simp [av,av1]) rfl (by omega)
      . subst heq
        have av:atV j j=-1:=by unfold atV; rw [if_pos (by omega)]
        have av1:atV j j1=(j:Int):=by unfold atV; rw [if_neg (by omega)]
        have f1:=ho.fhd;have hn1:(j1:Int) < fm.length:=by omega
        by_cases hij:i=j
        . subst hij
          have fn:fm[j1]?=some (i:Int):=by rw [hj1e]; exact (ho.up i (by omega) hil).1
          simp [qAk,qAn,qAl,qAh,qAg,qAe,qAb,qAd,qAa,qAi,qAf,qAc,qAs,qAt,resV,retV,qAm,qAj,qAr,qAq,qAp,qAo,wj,hjF,hjO,av,f1,fn,hn1,-qAy,qAw,qAv,qAx,qBa,wN_0,wN_1,wN_2,wN_3];exact .go j1 (by omega) (by simp [av,av1]) rfl (by omega)
        . have hne:¬ (i:Int)=j:=by omega
          simp [qAk,qAn,qAl,qAh,qAg,qAe,qAb,qAd,qAa,qAi,qAf,qAc,qAs,qAt,resV,retV,qAm,qAj,qAr,qAq,qAp,qAo,wj,hjF,hjO,av,f1,hne,hn1,-qAy,qAw,qAv,qAx,qBa,wN_0,wN_1,wN_2,wN_3];exact .go j1 (by omega) (by simp [av,av1]) rfl (by omega)
      . obtain ⟨j0,hj0⟩:∃ j0,j=j0+1:=⟨j - 1,by omega⟩
        have av:atV hd j=(hd:Int):=by unfold atV; rw [if_neg (by omega)]
        have av1:atV hd j1=(hd:Int):=by unfold atV; rw [if_neg (by omega)]
        obtain ⟨f1,y,z,o1,c1,e1⟩:=ho.up j0 (by omega) (by omega)
        rw [← hj0] at f1 o1;have w0:IntKind.i64.wrap ((j:Int) - 1)=(j0:Int):=by rw [wrap_i64 (by omega) (by omega)]; omega
        have hcj:(j0:Int) < code.length:=by omega
        have hcj':¬ (code.length:Int)≤j0:=by omega
        have hp0:(0:Int)≤(hd:Int):=by omega
        have hp1:¬ (hd:Int) < 0:=by omega
        by_cases hyz:y.op=z.op
        . simp [qAk,qAn,qAl,qAh,qAg,qAe,qAb,qAd,qAa,qAi,qAf,qAc,qAs,qAt,resV,retV,qAm,qAj,qAr,qAq,qAp,qAo,wj,hjF,hjO,av,f1,o1,c1,w0,hcj,hcj',hp0,hp1,hyz,-qAy,qAw,qAv,qAx,qBa,wN_0,wN_1,wN_2,wN_3]
          exact .go j1 (by omega) (by simp [av,av1]) rfl (by omega)
        . obtain ⟨rfl,z7⟩:y=nopI∧z.op=7:=by rcases e1 with e | e; exact absurd e hyz; exact e
          have en:(Value.agg #[.int .u8 0,.int .i64 0,.int .i64 0,.int .i64 0])=.agg (vIns nopI).toArray:=rfl;have n0:nopI.op=0:=rfl;simp [qAk,qAn,qAl,qAh,qAg,qAe,qAb,qAd,qAa,qAi,qAf,qAc,qAs,qAt,resV,retV,qAm,qAj,qAr,qAq,qAp,qAo,wj,hjF,hjO,av,f1,o1,c1,w0,hcj,hcj',hp0,hp1,z7,n0,en,-qJh,qRi,-qAy,qAw,qAv,qAx,qBa,wN_0,wN_1,wN_2,wN_3];exact .go j1 (by omega) (by simp [av,av1]) rfl (by omega)
    . have hjn:¬ (j:Int) < fm.length:=by omega
      rw [qAu];simp [-qAu,qAk,qAn,qAl,qAh,qAg,qAe,qAb,qAd,qAa,qAi,qAf,qAc,qAs,qAt,resV,retV,qAm,qAj,qAr,qAq,qAp,qAo,wj,hjn];refine qFw ?_;have av:atV hd j=(hd:Int):=by unfold atV; rw [if_neg (by omega)]
      have hp0:(0:Int)≤(hd:Int):=by omega
      have hx7:=ho.op;have f1:=ho.fhd;have o1:=ho.head;have o2:=ho.gone;have c1:=ho.at_;have q1:(hd:Int) < out.length:=by omega
      have q2:(hd:Int) < fm.length:=by omega
      have q3:(hd:Int)≤i:=by omega
      have q4:(i:Int) < code.length:=by omega
      obtain ⟨i1,hi1,wi⟩:=qCg (show i < lim by omega)
      rw [← hi1] at o2;have q5:(i1:Int) < out.length:=by omega
      have en:(Value.agg #[.int .u8 0,.int .i64 0,.int .i64 0,.int .i64 0])=.agg (vIns nopI).toArray:=rfl;simp [qAk,qAn,qAl,qAh,qAg,qAe,qAb,qAd,qAa,qAi,qAf,qAc,qAs,qAt,resV,retV,qAm,qAj,qAr,qAq,qAp,qAo,callK_def,av,hp0,hx7,f1,o1,o2,c1,q1,q2,q3,q4,q5,wi,en,-qJh,qRi,-qAy,qAw,qAv,qAx,qBa,wN_0,wN_1,wN_2,wN_3]
theorem LiftOne_spec (c:List Nat) (back:Nat) (hc:qQw c) (hb:back≤255):qBj prog 4 [vL v8 c,v8 back] [] fun r _=>r=.bool true:=LiftOne_spec' [] c back hc hb
end Pm
