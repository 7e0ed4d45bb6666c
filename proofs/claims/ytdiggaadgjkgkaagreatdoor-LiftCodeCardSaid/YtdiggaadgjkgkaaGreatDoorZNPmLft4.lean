/- Loads qGm of loops: the chapter's example, and the laws' code.
   No condition: plain lemmas. -/

import Derived.Test.YtdiggaadgjkgkaaGreatDoorZNPmRing
import Derived.Test.YtdiggaadgjkgkaaGreatDoorZNPmCfgC
namespace Pm
set_option linter.unusedSimpArgs false
set_option linter.unusedVariables false
open Go Am
open Go.Proofs.Tryz (prog)

def c20:List Ins:=[⟨7,0,1,0⟩,⟨11,0,0,0⟩]
def o20:List Ins:=[⟨7,0,1,0⟩,⟨0,0,0,0⟩,⟨11,0,1,0⟩]
theorem ring20:Ring0 c20 1 ⟨11,0,0,0⟩:=⟨rfl,rfl,rfl,rfl,fun i c hi hc=>by
  obtain rfl:i=0:=by omega
  cases hc; decide⟩
theorem known20 {out:List Ins} {fm:List Int} (h:qDk c20 out fm):out=o20∧fm=[0,0,1]:=by
  obtain ⟨h1,h2,h3,_,h5,h6⟩:=ring20.first (by decide) (by decide) h (x:=⟨7,0,1,0⟩) rfl rfl (fun k c hc=>by
    match k,hc with
    | 0,hc=>cases hc; exact ⟨by decide,by decide,fun h=>absurd rfl h⟩
    | 1,hc=>cases hc; exact ⟨by decide,by decide,fun _=>by decide +kernel⟩)
  refine ⟨?_,h6⟩;apply List.ext_getElem?;intro i
  match i with
  | 0=>exact h2
  | 1=>exact h3
  | 2=>exact h5
  | i+3=>rw [List.getElem?_eq_none (by omega)]; rfl
section
variable {h : Heap} {K : Value → Heap → Prop}
theorem known20_call (hk:K (vB true) h):qBl prog 5 [] h K:=by
  refine Pure.go (Pure.one (p:=vB true) rfl fun h=>?_) hk
  refine call_known20 (by simp) ?_
  have hfa:frzV (h++[bx [.int .u8 7,.int .i64 0,.int .i64 1,.int .i64 0,.int .u8 11,.int .i64 0,.int .i64 0,.int .i64 0] 4]) 4 (.slice (some ⟨h.length,0,none⟩) 2 0)=some (vM 4 vIns c20,h++[.row ⟨c20.flatMap vIns,4,0,false⟩]):=frzV_new (h:=h) rfl rfl rfl;simp [qAk,qAn,qAl,qAh,qAg,qAe,qAb,qAd,qAa,qAi,qAf,qAc,qAs,qAu,resV,retV,qAm,qAj,qAr,qAq,qAp,qAo,qNq,hfa];refine lfCode_call (code:=c20) (by decide) (by decide) fun oa fa ha=>?_
  obtain ⟨rfl,rfl⟩:=known20 ha;simp [qAk,qAn,qAl,qAh,qAg,qAe,qAb,qAd,qAa,qAi,qAf,qAc,qAs,qAu,resV,retV,qAm,qAj,qAr,qAq,qAp,qAo,callK_def,qMg,o20,vIns]
end
end Pm

/- Loads qGm of loops: the laws' code with a loop, walked.
   No condition: plain lemmas. -/

namespace Pm
set_option linter.unusedSimpArgs false
set_option linter.unusedVariables false
open Go Am
open Go.Proofs.Tryz (prog)

def qOu:List Nat:=[7,7,1,3,8,9,0,2]
def qId (a b:Nat):Ins :=
  let op:=(qOu[a % 8]?).getD 0
  ⟨op,if op=8 then ((b / 4 % 2:Nat):Int) else if op=0 then 0 else ((b % 4:Nat):Int),if op=8 then ((b % 4:Nat):Int) else if op=9∨op=0 then 0 else ((b / 4 % 2:Nat):Int),if op=3 then ((b / 16 % 4:Nat):Int) else 0⟩
def qHc (c:List Nat) (k:Nat):List Ins:=(List.range k).map fun j=>qId ((c[2 * j]?).getD 0) ((c[2 * j+1]?).getD 0)
theorem body20_succ (c:List Nat) (k:Nat):qHc c (k+1)=qHc c k++[qId ((c[2 * k]?).getD 0) ((c[2 * k+1]?).getD 0)]:=by simp [qHc,List.range_succ]
theorem qDg (c:List Nat) (k:Nat):(qHc c k).length=k:=by simp [qHc]
theorem body20_op {c:List Nat} {k j:Nat} {x:Ins} (h:(qHc c k)[j]?=some x):x.op≠10∧x.op≠11∧x.op≤9:=by
  unfold qHc at h;rw [List.getElem?_map] at h;obtain ⟨i,_,rfl⟩:=Option.map_eq_some_iff.1 h;have:∀ q,q < 8→(qOu[q]?).getD 0≠10∧(qOu[q]?).getD 0≠11∧(qOu[q]?).getD 0≤9:=by decide
  exact this _ (Nat.mod_lt _ (by decide))
def qSy (c:List Nat) (back:Nat) (L:List Ins):Prop :=
  ∃ k,k=min 8 (c.length / 2)∧((k=0∧L=[])∨(0 < k∧L=qHc c k++[⟨1,3,1,0⟩,⟨11,(back / 64:Nat),(back % k:Nat),0⟩]))
theorem pElems_lit42 {h:Heap} {x y:Ins} {cs:List Value} (hc:cs=vIns x++vIns y):qCv (h++[bx cs 4]) 4 (.slice (some ⟨h.length,0,none⟩) 2 0)=some ([x,y].length,[x,y].flatMap vIns):=by
  subst hc;rw [show (h:Heap).length=h.length+0 from rfl,qAz,qPm,show ([bx (vIns x++vIns y) 4]:List Ob)[0]?=some (bx (vIns x++vIns y) 4) from rfl,qRe]
  rfl
section
variable {h : Heap} {K : Value → Heap → Prop}
set_option maxHeartbeats 4000000 in
theorem L20_call {c:List Nat} {back:Nat} (hc:qQr c) (hb:back≤255) (hk:∀ v H L,qSy c back L→AccM 4 vIns h.length H v L→qBs h.length h H→K v H) :
    qBl prog 8 [vL v8 c,v8 back] h K:=by
  refine call_L20 (by simp) ?_
  have hlim:lim=1048576:=rfl;simp [-qAt,qAk,qAn,qAl,qAh,qAg,qAe,qAb,qAd,qAa,qAi,qAf,qAc,qAs,qAu,resV,retV,qAm,qAj,qAr,qAq,qAp,qAo,qUh];rw [qAt];simp [-qAt,qAk,qAn,qAl,qAh,qAg,qAe,qAb,qAd,qAa,qAi,qAf,qAc,qAs,qAu,resV,retV,qAm,qAj,qAr,qAq,qAp,qAo];refine qDh (σ:=Nat×Nat×Value×Heap) (fun y=>[(0,vL v8 c),(1,v8 back),(5,.slice (some ⟨h.length,0,none⟩) 8 0),(6,y.2.2.1),(7,vI y.2.1)]) (fun y=>y.2.2.2)
    (fun y=>y.2.1=2 * y.1∧y.1≤min 8 (c.length / 2)∧RowV y.2.2.2 h.length 0 1 (qOu.map v8)∧AccM 4 vIns (h.length+1) y.2.2.2 y.2.2.1 (qHc c y.1)∧qBs h.length h y.2.2.2) (fun y=>9 - y.1)
    (0,0,nilS,h++[bx (qOu.map v8) 1]) (by simp) rfl ⟨rfl,by omega,by simp [RowV,bx],.nil,qBs.app⟩ ?_
  rintro ⟨k,i,ov,H⟩ fr ⟨hik,hk8,hr,acc,kp⟩;simp only at hik hk8 hr acc kp ⊢;obtain ⟨i1,hi1,w1⟩:=qBr (show i < lim by omega)
  by_cases hlt:k < min 8 (c.length / 2)
  . have c1:(i1:Int) < c.length:=by omega
    have c2:(i:Int) < 16:=by omega
    have c3:(i:Int) < c.length:=by omega
    obtain ⟨a,ha⟩:∃ a,c[i]?=some a:=⟨_,List.getElem?_eq_getElem (by omega)⟩
    obtain ⟨b,hb'⟩:∃ b,c[i1]?=some b:=⟨_,List.getElem?_eq_getElem (by omega)⟩
    have ha255:=hc.2 a (List.mem_of_getElem? ha);have hb255:=hc.2 b (List.mem_of_getElem? hb');obtain ⟨q,hq⟩:∃ q,q=a % 8:=⟨_,rfl⟩;have e1:(a:Int).tmod 8=(q:Int):=by rw [Int.tmod_eq_emod_of_nonneg (by omega)]; omega
    have x1:IntKind.u8.wrap (q:Int)=q:=qGk (by omega) (by omega)
    obtain ⟨b0,hb0⟩:∃ x,x=b % 4:=⟨_,rfl⟩;obtain ⟨b1,hb1⟩:∃ x,x=b / 4:=⟨_,rfl⟩;obtain ⟨b2,hb2⟩:∃ x,x=b1 % 2:=⟨_,rfl⟩;obtain ⟨b3,hb3⟩:∃ x,x=b / 16:=⟨_,rfl⟩;obtain ⟨b4,hb4⟩:∃ x,x=b3 % 4:=⟨_,rfl⟩;have e2:(b:Int).tmod 4=(b0:Int):=by rw [Int.tmod_eq_emod_of_nonneg (by omega)]; omega
    have e3:(b:Int).tdiv 4=(b1:Int):=by rw [Int.tdiv_eq_ediv_of_nonneg (by omega)]; omega
    have e4:(b1:Int).tmod 2=(b2:Int):=by rw [Int.tmod_eq_emod_of_nonneg (by omega)]; omega
    have e5:(b:Int).tdiv 16=(b3:Int):=by rw [Int.tdiv_eq_ediv_of_nonneg (by omega)]; omega
    have e6:(b3:Int).tmod 4=(b4:Int):=by rw [Int.tmod_eq_emod_of_nonneg (by omega)]; omega
    have z1:IntKind.u8.wrap (b0:Int)=b0:=qGk (by omega) (by omega)
    have z2:IntKind.u8.wrap (b1:Int)=b1:=qGk (by omega) (by omega)
    have z3:IntKind.u8.wrap (b2:Int)=b2:=qGk (by omega) (by omega)
    have z4:IntKind.u8.wrap (b3:Int)=b3:=qGk (by omega) (by omega)
    have z5:IntKind.u8.wrap (b4:Int)=b4:=qGk (by omega) (by omega)
    have y1:IntKind.i64.wrap (b0:Int)=b0:=wrap_i64 (by omega) (by omega)
    have y2:IntKind.i64.wrap (b2:Int)=b2:=wrap_i64 (by omega) (by omega)
    have y3:IntKind.i64.wrap (b4:Int)=b4:=wrap_i64 (by omega) (by omega)
    have hq8:q < 8:=by omega
    have hops:∀ j,j < 8→H.cell? h.length j 0=some (v8 ((qOu[j]?).getD 0)):=fun j hj=>by
      rw [hr.cell]
      match j,hj with
      | 0,_=>rfl
      | 1,_=>rfl
      | 2,_=>rfl
      | 3,_=>rfl
      | 4,_=>rfl
      | 5,_=>rfl
      | 6,_=>rfl
      | 7,_=>rfl
    have hoq:=hops q hq8;obtain ⟨op,hop⟩:∃ op,op=(qOu[q]?).getD 0:=⟨_,rfl⟩;rw [← hop] at hoq;have hqI:(q:Int) < 8:=by omega
    rw [qAt];simp [-qAt,qAk,qAn,qAl,qAh,qAg,qAe,qAb,qAd,qAa,qAi,qAf,qAc,qAs,qAu,resV,retV,qAm,qAj,qAr,qAq,qAp,qAo,w1,c1,c2,c3];rw [qAt];simp [-qAt,qAk,qAn,qAl,qAh,qAg,qAe,qAb,qAd,qAa,qAi,qAf,qAc,qAs,qAu,resV,retV,qAm,qAj,qAr,qAq,qAp,qAo,w1,c1,c2,c3,ha,hb',e1,e2,e3,e4,e5,e6,x1,z1,z2,z3,z4,z5,y1,y2,y3,hoq,hq8,hqI];have hI:qId a b=⟨op,if op=8 then (b2:Int) else if op=0 then 0 else (b0:Int),if op=8 then (b0:Int) else if op=9∨op=0 then 0 else (b2:Int),if op=3 then (b4:Int) else 0⟩:=by
      subst hb4 hb3 hb2 hb1 hb0;unfold qId;rw [← hq,← hop]
    have hin:qHc c (k+1)=qHc c k++[qId a b]:=by rw [body20_succ,← hik,← hi1,ha,hb']; rfl
    have hal:h.length+1≤H.length:=hr.lt;obtain ⟨i2,hi2⟩:∃ i2:Nat,i2=i+2:=⟨_,rfl⟩;have w2:IntKind.i64.wrap ((i:Int)+2)=i2:=by rw [wrap_i64 (by omega) (by omega)]; omega
    have fin:∀ (cs:List Value) (g:Ob),vIns (qId a b)=cs→qCv (H++[g,bx cs 4]) 4 (.slice (some ⟨H.length+1,0,none⟩) 1 0)=some ([qId a b].length,[qId a b].flatMap vIns):=fun cs g e=>by
      rw [← e];exact qEx (m:=1) rfl rfl
    have done:∀ (v1:Value) (H1:Heap) {rs:List Ob},AccM 4 vIns (h.length+1) H1 v1 (qHc c k++[qId a b])→qBs (h.length+1) (H++rs) H1 →
        i2=2 * (k+1)∧k+1≤min 8 (c.length / 2)∧RowV H1 h.length 0 1 (qOu.map v8)∧AccM 4 vIns (h.length+1) H1 v1 (qHc c (k+1))∧qBs h.length h H1:=fun v1 H1 rs a1 a2=>by
      have e:∀ j,j < h.length+1→H1[j]?=H[j]?:=fun j hj=>by rw [a2.2 j hj,List.getElem?_append_left (by omega)]
      exact ⟨by omega,by omega,hr.keep (e _ (by omega)),by rw [hin]; exact a1,kp.trans ⟨by have:=a2.1; simp at this; omega,fun j hj=>e j (by omega)⟩⟩
    have q8:q=0∨q=1∨q=2∨q=3∨q=4∨q=5∨q=6∨q=7:=by omega
    rcases q8 with rfl | rfl | rfl | rfl | rfl | rfl | rfl | rfl
    . obtain rfl:op=7:=hop
      rw [qAt];simp [qAk,qAn,qAl,qAh,qAg,qAe,qAb,qAd,qAa,qAi,qAf,qAc,qAs,qAu,resV,retV,qAm,qAj,qAr,qAq,qAp,qAo,e1,e2,e3,e4,e5,e6,x1,z1,z2,z3,z4,z5,y1,y2,y3];refine AccM.apps (acc.ext qBs.app) (by simp; omega) (m:=[qId a b]) (fin _ _ (by rw [hI]; rfl)) (by rw [qDg]; simp; omega) fun v1 H1 a1 a2 a3 a4=>?_
      simp [qAk,qAn,qAl,qAh,qAg,qAe,qAb,qAd,qAa,qAi,qAf,qAc,qAs,qAu,resV,retV,qAm,qAj,qAr,qAq,qAp,qAo,w2];exact .go (k+1,i2,v1,H1) (by simp only []; omega) (by simp) rfl (done v1 H1 a1 a2)
    . obtain rfl:op=7:=hop
      rw [qAt];simp [qAk,qAn,qAl,qAh,qAg,qAe,qAb,qAd,qAa,qAi,qAf,qAc,qAs,qAu,resV,retV,qAm,qAj,qAr,qAq,qAp,qAo,e1,e2,e3,e4,e5,e6,x1,z1,z2,z3,z4,z5,y1,y2,y3];refine AccM.apps (acc.ext qBs.app) (by simp; omega) (m:=[qId a b]) (fin _ _ (by rw [hI]; rfl)) (by rw [qDg]; simp; omega) fun v1 H1 a1 a2 a3 a4=>?_
      simp [qAk,qAn,qAl,qAh,qAg,qAe,qAb,qAd,qAa,qAi,qAf,qAc,qAs,qAu,resV,retV,qAm,qAj,qAr,qAq,qAp,qAo,w2];exact .go (k+1,i2,v1,H1) (by simp only []; omega) (by simp) rfl (done v1 H1 a1 a2)
    . obtain rfl:op=1:=hop
      rw [qAt];simp [qAk,qAn,qAl,qAh,qAg,qAe,qAb,qAd,qAa,qAi,qAf,qAc,qAs,qAu,resV,retV,qAm,qAj,qAr,qAq,qAp,qAo,e1,e2,e3,e4,e5,e6,x1,z1,z2,z3,z4,z5,y1,y2,y3];refine AccM.apps (acc.ext qBs.app) (by simp; omega) (m:=[qId a b]) (fin _ _ (by rw [hI]; rfl)) (by rw [qDg]; simp; omega) fun v1 H1 a1 a2 a3 a4=>?_
      simp [qAk,qAn,qAl,qAh,qAg,qAe,qAb,qAd,qAa,qAi,qAf,qAc,qAs,qAu,resV,retV,qAm,qAj,qAr,qAq,qAp,qAo,w2];exact .go (k+1,i2,v1,H1) (by simp only []; omega) (by simp) rfl (done v1 H1 a1 a2)
    . obtain rfl:op=3:=hop
      rw [qAt];simp [qAk,qAn,qAl,qAh,qAg,qAe,qAb,qAd,qAa,qAi,qAf,qAc,qAs,qAu,resV,retV,qAm,qAj,qAr,qAq,qAp,qAo,e1,e2,e3,e4,e5,e6,x1,z1,z2,z3,z4,z5,y1,y2,y3];refine AccM.apps (acc.ext qBs.app) (by simp; omega) (m:=[qId a b]) (fin _ _ (by rw [hI]; rfl)) (by rw [qDg]; simp; omega) fun v1 H1 a1 a2 a3 a4=>?_
      simp [qAk,qAn,qAl,qAh,qAg,qAe,qAb,qAd,qAa,qAi,qAf,qAc,qAs,qAu,resV,retV,qAm,qAj,qAr,qAq,qAp,qAo,w2];exact .go (k+1,i2,v1,H1) (by simp only []; omega) (by simp) rfl (done v1 H1 a1 a2)
    . obtain rfl:op=8:=hop
      rw [qAt];simp [qAk,qAn,qAl,qAh,qAg,qAe,qAb,qAd,qAa,qAi,qAf,qAc,qAs,qAu,resV,retV,qAm,qAj,qAr,qAq,qAp,qAo,e1,e2,e3,e4,e5,e6,x1,z1,z2,z3,z4,z5,y1,y2,y3];refine AccM.apps (acc.ext qBs.app) (by simp; omega) (m:=[qId a b]) (fin _ _ (by rw [hI]; rfl)) (by rw [qDg]; simp; omega) fun v1 H1 a1 a2 a3 a4=>?_
      simp [qAk,qAn,qAl,qAh,qAg,qAe,qAb,qAd,qAa,qAi,qAf,qAc,qAs,qAu,resV,retV,qAm,qAj,qAr,qAq,qAp,qAo,w2];exact .go (k+1,i2,v1,H1) (by simp only []; omega) (by simp) rfl (done v1 H1 a1 a2)
    . obtain rfl:op=9:=hop
      rw [qAt];simp [qAk,qAn,qAl,qAh,qAg,qAe,qAb,qAd,qAa,qAi,qAf,qAc,qAs,qAu,resV,retV,qAm,qAj,qAr,qAq,qAp,qAo,e1,e2,e3,e4,e5,e6,x1,z1,z2,z3,z4,z5,y1,y2,y3];refine AccM.apps (acc.ext qBs.app) (by simp; omega) (m:=[qId a b]) (fin _ _ (by rw [hI]; rfl)) (by rw [qDg]; simp; omega) fun v1 H1 a1 a2 a3 a4=>?_
      simp [qAk,qAn,qAl,qAh,qAg,qAe,qAb,qAd,qAa,qAi,qAf,qAc,qAs,qAu,resV,retV,qAm,qAj,qAr,qAq,qAp,qAo,w2];exact .go (k+1,i2,v1,H1) (by simp only []; omega) (by simp) rfl (done v1 H1 a1 a2)
    . obtain rfl:op=0:=hop
      rw [qAt];simp [qAk,qAn,qAl,qAh,qAg,qAe,qAb,qAd,qAa,qAi,qAf,qAc,qAs,qAu,resV,retV,qAm,qAj,qAr,qAq,qAp,qAo,e1,e2,e3,e4,e5,e6,x1,z1,z2,z3,z4,z5,y1,y2,y3];refine AccM.apps (acc.ext qBs.app) (by simp; omega) (m:=[qId a b]) (fin _ _ (by rw [hI]; rfl)) (by rw [qDg]; simp; omega) fun v1 H1 a1 a2 a3 a4=>?_
      simp [qAk,qAn,qAl,qAh,qAg,qAe,qAb,qAd,qAa,qAi,qAf,qAc,qAs,qAu,resV,retV,qAm,qAj,qAr,qAq,qAp,qAo,w2];exact .go (k+1,i2,v1,H1) (by simp only []; omega) (by simp) rfl (done v1 H1 a1 a2)
    . obtain rfl:op=2:=hop
      rw [qAt];simp [qAk,qAn,qAl,qAh,qAg,qAe,qAb,qAd,qAa,qAi,qAf,qAc,qAs,qAu,resV,retV,qAm,qAj,qAr,qAq,qAp,qAo,e1,e2,e3,e4,e5,e6,x1,z1,z2,z3,z4,z5,y1,y2,y3];refine AccM.apps (acc.ext qBs.app) (by simp; omega) (m:=[qId a b]) (fin _ _ (by rw [hI]; rfl)) (by rw [qDg]; simp; omega) fun v1 H1 a1 a2 a3 a4=>?_
      simp [qAk,qAn,qAl,qAh,qAg,qAe,qAb,qAd,qAa,qAi,qAf,qAc,qAs,qAu,resV,retV,qAm,qAj,qAr,qAq,qAp,qAo,w2];exact .go (k+1,i2,v1,H1) (by simp only []; omega) (by simp) rfl (done v1 H1 a1 a2)
  . have hke:k=min 8 (c.length / 2):=by omega
    have hal:h.length+1≤H.length:=hr.lt;have hcond:¬ ((i1:Int) < c.length∧(i:Int) < 16):=by omega
    have low:∀ {H':Heap} {v':Value} {l:List Ins},AccM 4 vIns (h.length+1) H' v' l→AccM 4 vIns h.length H' v' l:=fun a=>by
      rcases a with h1 | ⟨id,ver,e,h2,h3⟩
      . exact Or.inl h1
      . exact Or.inr ⟨id,ver,e,by omega,h3⟩
    have hln:pLen ov=some (vI k):=by have:=acc.len; rw [qDg] at this; exact this
    obtain ⟨r,hr'⟩:∃ r,r=back % k:=⟨_,rfl⟩;obtain ⟨g,hg⟩:∃ g,g=back / 64:=⟨_,rfl⟩;have hrb:r≤back:=by rw [hr']; exact Nat.mod_le _ _
    have f1:(back:Int).tmod (k:Int)=(r:Int):=by rw [Int.tmod_eq_emod_of_nonneg (by omega),hr']; rfl
    have f2:IntKind.i64.wrap (r:Int)=r:=wrap_i64 (by omega) (by omega)
    have f3:(back:Int).tdiv 64=(g:Int):=by rw [Int.tdiv_eq_ediv_of_nonneg (by omega)]; omega
    have f4:IntKind.u8.wrap (g:Int)=g:=qGk (by omega) (by omega)
    have f5:IntKind.i64.wrap (g:Int)=g:=wrap_i64 (by omega) (by omega)
    have f6:IntKind.i64.wrap (back:Int)=back:=wrap_i64 (by omega) (by omega)
    rw [qAt]
    by_cases q1:(i1:Int) < c.length
    . have q2:¬ (i:Int) < 16:=by omega
      simp [-qAt,qAk,qAn,qAl,qAh,qAg,qAe,qAb,qAd,qAa,qAi,qAf,qAc,qAs,qAu,resV,retV,qAm,qAj,qAr,qAq,qAp,qAo,w1,q1,q2,hln];rw [qAt]
      by_cases k0:k=0
      . obtain rfl:k=0:=k0
        simp [qAk,qAn,qAl,qAh,qAg,qAe,qAb,qAd,qAa,qAi,qAf,qAc,qAs,qAu,resV,retV,qAm,qAj,qAr,qAq,qAp,qAo,hln];exact hk ov H [] ⟨0,hke,.inl ⟨rfl,rfl⟩⟩ (low acc) kp
      . have k0':¬ (k:Int)=0:=by omega
        simp [qAk,qAn,qAl,qAh,qAg,qAe,qAb,qAd,qAa,qAi,qAf,qAc,qAs,qAu,resV,retV,qAm,qAj,qAr,qAq,qAp,qAo,hln,k0,k0',f1,f2,f3,f4,f5,f6];refine AccM.apps (acc.ext qBs.app) (by simp; omega) (m:=[⟨1,3,1,0⟩,⟨11,(back / 64:Nat),(back % k:Nat),0⟩]) (by rw [← hg,← hr']; exact pElems_lit42 (h:=H) rfl) (by rw [qDg]; simp; omega) fun v1 H1 a1 a2 a3 a4=>?_
        simp [qAk,qAn,qAl,qAh,qAg,qAe,qAb,qAd,qAa,qAi,qAf,qAc,qAs,qAu,resV,retV,qAm,qAj,qAr,qAq,qAp,qAo];exact hk v1 H1 _ ⟨k,hke,.inr ⟨by omega,rfl⟩⟩ (low a1) (kp.trans ⟨by have:=a2.1; simp at this; omega,fun j hj=>by rw [a2.2 j (by omega),List.getElem?_append_left (by omega)]⟩)
    . simp [-qAt,qAk,qAn,qAl,qAh,qAg,qAe,qAb,qAd,qAa,qAi,qAf,qAc,qAs,qAu,resV,retV,qAm,qAj,qAr,qAq,qAp,qAo,w1,q1,hln]
      rw [qAt]
      by_cases k0:k=0
      . obtain rfl:k=0:=k0
        simp [qAk,qAn,qAl,qAh,qAg,qAe,qAb,qAd,qAa,qAi,qAf,qAc,qAs,qAu,resV,retV,qAm,qAj,qAr,qAq,qAp,qAo,hln];exact hk ov H [] ⟨0,hke,.inl ⟨rfl,rfl⟩⟩ (low acc) kp
      . have k0':¬ (k:Int)=0:=by omega
        simp [qAk,qAn,qAl,qAh,qAg,qAe,qAb,qAd,qAa,qAi,qAf,qAc,qAs,qAu,resV,retV,qAm,qAj,qAr,qAq,qAp,qAo,hln,k0,k0',f1,f2,f3,f4,f5,f6];refine AccM.apps (acc.ext qBs.app) (by simp; omega) (m:=[⟨1,3,1,0⟩,⟨11,(back / 64:Nat),(back % k:Nat),0⟩]) (by rw [← hg,← hr']; exact pElems_lit42 (h:=H) rfl) (by rw [qDg]; simp; omega) fun v1 H1 a1 a2 a3 a4=>?_
        simp [qAk,qAn,qAl,qAh,qAg,qAe,qAb,qAd,qAa,qAi,qAf,qAc,qAs,qAu,resV,retV,qAm,qAj,qAr,qAq,qAp,qAo];exact hk v1 H1 _ ⟨k,hke,.inr ⟨by omega,rfl⟩⟩ (low a1) (kp.trans ⟨by have:=a2.1; simp at this; omega,fun j hj=>by rw [a2.2 j (by omega),List.getElem?_append_left (by omega)]⟩)
end
end Pm
