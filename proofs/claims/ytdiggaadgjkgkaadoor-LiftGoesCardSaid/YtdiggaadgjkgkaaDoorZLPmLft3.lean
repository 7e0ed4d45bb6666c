/- Loads qGu of loops: the chapter's example, and the laws' code.
   No condition: plain lemmas. -/

import Derived.Test.YtdiggaadgjkgkaaDoorZLPmRing
import Derived.Test.YtdiggaadgjkgkaaDoorZLPmCfgC
namespace Pm
set_option linter.unusedSimpArgs false
set_option linter.unusedVariables false
open Go Am
open Go.Proofs.Tryd (prog)

def c20:List Ins:=[⟨7,0,1,0⟩,⟨11,0,0,0⟩]
def o20:List Ins:=[⟨7,0,1,0⟩,⟨0,0,0,0⟩,⟨11,0,1,0⟩]
theorem ring20:Ring0 c20 1 ⟨11,0,0,0⟩:=⟨rfl,rfl,rfl,rfl,fun i c hi hc=>by
  obtain rfl:i=0:=by omega
  cases hc; decide⟩
theorem known20 {out:List Ins} {fm:List Int} (h:qGo c20 out fm):out=o20∧fm=[0,0,1]:=by
  obtain ⟨h1,h2,h3,_,h5,h6⟩:=ring20.first (by decide) (by decide) h (x:=⟨7,0,1,0⟩) rfl rfl (fun k c hc=>by
    match k,hc with
    | 0,hc=>cases hc; exact ⟨by decide,by decide,fun h=>absurd rfl h⟩
    | 1,hc=>cases hc; exact ⟨by decide,by decide,fun _=>by decide +kernel⟩)
  refine ⟨?_,h6⟩;apply List.ext_getElem?;intro i
  match i with
  | 0=>exact h2
  | 1=>exact h3
  | 2=>exact h5
  | i+3=>rw [List.getElem?_eq_none (by omega)]; rfl
section
variable {h : Heap} {K : Value → Heap → Prop}
theorem known20_call (hk:K (vB true) h):qBj prog 7 [] h K:=by
  refine Pure.go (Pure.one (p:=vB true) rfl fun h=>?_) hk
  refine call_known20 (by simp) ?_
  have hfa:frzV (h++[bx [.int .u8 7,.int .i64 0,.int .i64 1,.int .i64 0,.int .u8 11,.int .i64 0,.int .i64 0,.int .i64 0] 4]) 4 (.slice (some ⟨h.length,0,none⟩) 2 0)=some (vM 4 vIns c20,h++[.row ⟨c20.flatMap vIns,4,0,false⟩]):=frzV_new (h:=h) rfl rfl rfl;simp [qAk,qAn,qAl,qAh,qAg,qAe,qAb,qAd,qAa,qAi,qAf,qAc,qAs,qAt,resV,retV,qAm,qAj,qAr,qAq,qAp,qAo,qLy,hfa];refine lfCode_call (code:=c20) (by decide) (by decide) fun oa fa ha=>?_
  obtain ⟨rfl,rfl⟩:=known20 ha;simp [qAk,qAn,qAl,qAh,qAg,qAe,qAb,qAd,qAa,qAi,qAf,qAc,qAs,qAt,resV,retV,qAm,qAj,qAr,qAq,qAp,qAo,callK_def,qPb,o20,vIns]
end
end Pm

/- Loads qGu of loops: a load that begins a loop goes qGu.
   No condition: plain lemmas. -/

namespace Pm
set_option linter.unusedSimpArgs false
set_option linter.unusedVariables false
open Go Am
open Go.Proofs.Tryd (prog)

def midI (v:Int) (i:Nat):Ins:=if i % 3=0 then nopI else if i % 3=1 then ⟨1,3,v,0⟩ else ⟨9,3,0,0⟩
def goL (a b:Nat) (v:Int) (k:Nat):List Ins:=⟨7,a,b,0⟩ :: (List.range k).map (midI v)
theorem qNi (a b:Nat) (v:Int) (k:Nat):goL a b v (k+1)=goL a b v k++[midI v k]:=by simp [goL,List.range_succ]
theorem qEt (a b:Nat) (v:Int) (k:Nat):(goL a b v k).length=k+1:=by simp [goL]
theorem goL_at {a b k i:Nat} {v:Int} (h:i < k):(goL a b v k)[i+1]?=some (midI v i):=by simp [goL,h]
def qFr (a b:Nat) (v:Int) (k:Nat):List Ins:=goL a b v k++[⟨11,3,0,0⟩]
theorem qNb (v:Int) (i:Nat):(midI v i).op=0∨(midI v i).op=1∨(midI v i).op=9:=by
  unfold midI nopI
  split
  . exact .inl rfl
  . split
    . exact .inr (.inl rfl)
    . exact .inr (.inr rfl)
theorem midI_set (v:Int) (i a:Nat) (ha:a < 3):hasB (qFe (midI v i)) a=false:=by
  have e:qFe (midI v i)=0∨qFe (midI v i)=8:=by
    unfold midI nopI
    split
    . left; rfl
    . split
      . right; simp [qFe,qEv,List.range_succ,qGw,qOz,bitN]
      . left; rfl
  rw [qHv (by omega)]
  rcases e with e | e<;>rw [e]<;>match a,ha with
    | 0,_=>decide
    | 1,_=>decide
    | 2,_=>decide
theorem qPd {a b k i:Nat} {v:Int} {c:Ins} (hc:(qFr a b v k)[i]?=some c):(i=0∧c=⟨7,a,b,0⟩)∨(∃ j,i=j+1∧j < k∧c=midI v j)∨(i=k+1∧c=⟨11,3,0,0⟩):=by
  unfold qFr at hc
  by_cases h:i < k+1
  . rw [List.getElem?_append_left (by rw [qEt]; exact h)] at hc
    match i,h,hc with
    | 0,_,hc=>left; cases hc; exact ⟨rfl,rfl⟩
    | i+1,h,hc =>
      rw [goL_at (by omega)] at hc
      cases hc;exact .inr (.inl ⟨i,rfl,by omega,rfl⟩)
  . rw [List.getElem?_append_right (by rw [qEt]; omega),qEt] at hc
    have h2:=(List.getElem?_eq_some_iff.1 hc).1;simp at h2;obtain rfl:i=k+1:=by omega
    rw [Nat.sub_self] at hc;cases hc;exact .inr (.inr ⟨rfl,rfl⟩)
theorem qIt (a b:Nat) (v:Int) (k:Nat):(qFr a b v k).length=k+2:=by simp [qFr,qEt]
theorem ring_goes (a b:Nat) (v:Int) (k:Nat):Ring0 (qFr a b v k) (k+1) ⟨11,3,0,0⟩ :=
  ⟨qIt a b v k,by unfold qFr; rw [List.getElem?_append_right (by rw [qEt]; omega),qEt,Nat.sub_self]; rfl,rfl,rfl,fun i c hi hc=>by
    rcases qPd hc with ⟨_,rfl⟩ | ⟨j,_,_,rfl⟩ | ⟨e,_⟩
    . exact ⟨by show (7:Nat)≠10; decide,by show (7:Nat)≠11; decide⟩
    . rcases qNb v j with e | e | e<;>rw [e]<;>decide
    . omega⟩
theorem goes_out {a b k:Nat} {v:Int} (ha:a < 3) (hk:k < 58) {out:List Ins} {fm:List Int} (hL:qGo (qFr a b v k) out fm) :
    out.length=k+3∧out[0]?=some ⟨7,a,b,0⟩∧out[1]?=some nopI∧(∀ j,0 < j→j < k+1→out[j+1]?=(qFr a b v k)[j]?)∧out[k+2]?=some ⟨11,3,1,0⟩:=by
  obtain ⟨h1,h2,h3,h4,h5,_⟩:=(ring_goes a b v k).first (by omega) (by omega) hL (x:=⟨7,a,b,0⟩) rfl rfl (fun i c hc=>by
    rcases qPd hc with ⟨rfl,rfl⟩ | ⟨j,rfl,_,rfl⟩ | ⟨rfl,rfl⟩
    . exact ⟨by show qIh 7=true; decide,fun h=>absurd h.1 (by show ¬ (7:Nat)=8; decide),fun h=>absurd rfl h⟩
    . refine ⟨?_,fun h=>?_,fun _=>midI_set v j a ha⟩
      . rcases qNb v j with e | e | e<;>rw [e]<;>decide
      . have:=h.1; rcases qNb v j with e | e | e<;>omega
    . refine ⟨by decide,fun h=>absurd h.1 (by decide),fun _=>?_⟩
      show hasB (qFe ⟨11,3,0,0⟩) a=false;rw [qHv (by omega),show qFe ⟨11,3,0,0⟩=0 from rfl]
      simp)
  exact ⟨h1,h2,h3,h4,h5⟩
end Pm

/- Loads qGu of loops: LiftGoes, walked.
   No condition: plain lemmas. -/

namespace Pm
set_option linter.unusedSimpArgs false
set_option linter.unusedVariables false
open Go Am
open Go.Proofs.Tryd (prog)

set_option maxHeartbeats 4000000 in
theorem LiftGoes_spec' (h:Heap) (x r n:Nat) (v:Int) (hx:x≤255) (hr:r≤255) (hn:n≤255) (hv:inI v):qBj prog 5 [v8 x,v8 r,v8 n,vI v] h fun r _=>r=.bool true:=by
  refine call_LiftGoes (by simp) ?_
  have hlim:lim=1048576:=rfl;obtain ⟨a,ha⟩:∃ a,a=r % 3:=⟨_,rfl⟩;obtain ⟨b,hb⟩:∃ b,b=x % 8:=⟨_,rfl⟩;obtain ⟨k,hk⟩:∃ k,k=n % 40:=⟨_,rfl⟩;have e1:(r:Int).tmod 3=(a:Int):=by rw [Int.tmod_eq_emod_of_nonneg (by omega)]; omega
  have e2:(x:Int).tmod 8=(b:Int):=by rw [Int.tmod_eq_emod_of_nonneg (by omega)]; omega
  have e3:(n:Int).tmod 40=(k:Int):=by rw [Int.tmod_eq_emod_of_nonneg (by omega)]; omega
  have w1:IntKind.u8.wrap (a:Int)=a:=qMo (by omega) (by omega)
  have w2:IntKind.u8.wrap (b:Int)=b:=qMo (by omega) (by omega)
  have w3:IntKind.u8.wrap (k:Int)=k:=qMo (by omega) (by omega)
  have x1:IntKind.i64.wrap (a:Int)=a:=wrap_i64 (by omega) (by omega)
  have x2:IntKind.i64.wrap (b:Int)=b:=wrap_i64 (by omega) (by omega)
  have x3:IntKind.i64.wrap (k:Int)=k:=wrap_i64 (by omega) (by omega)
  simp [-qAv,qAk,qAn,qAl,qAh,qAg,qAe,qAb,qAd,qAa,qAi,qAf,qAc,qAs,qAt,resV,retV,qAm,qAj,qAr,qAq,qAp,qAo,qKb,e1,e2,w1,w2,x1,x2];rw [qAv];simp [-qAv,qAk,qAn,qAl,qAh,qAg,qAe,qAb,qAd,qAa,qAi,qAf,qAc,qAs,qAt,resV,retV,qAm,qAj,qAr,qAq,qAp,qAo];refine qFy (σ:=Nat×Value×Heap) (fun y=>[(2,v8 n),(3,vI v),(9,y.2.1),(10,vI y.1)]) (fun y=>y.2.2)
    (fun y=>y.1≤k∧AccM 4 vIns h.length y.2.2 y.2.1 (goL a b v y.1)) (fun y=>k - y.1)
    (0,.slice (some ⟨h.length,0,none⟩) 1 0,h++[bx (vIns ⟨7,a,b,0⟩) 4]) (by simp) rfl ⟨by simp,.inr ⟨h.length,0,rfl,Nat.le_refl _,by simp [bx,goL],rfl⟩⟩ ?_
  rintro ⟨i,ov,H⟩ fr ⟨hi,acc⟩;simp only at hi acc ⊢
  by_cases hlt:i < k
  . obtain ⟨i1,hi1,wi⟩:=qCk (show i < lim by omega)
    have hif:(i:Int) < k:=by omega
    obtain ⟨q,hq⟩:∃ q,q=i % 3:=⟨_,rfl⟩;have e4:(i:Int).tmod 3=(q:Int):=by rw [Int.tmod_eq_emod_of_nonneg (by omega)]; omega
    have x4:IntKind.i64.wrap (q:Int)=q:=wrap_i64 (by omega) (by omega)
    have hal:h.length≤H.length:=by
      rcases acc with ⟨_,h0,_⟩ | ⟨id,ver,_,h2,h3,_⟩
      . rw [qEt] at h0; omega
      . have:=(List.getElem?_eq_some_iff.1 h3).1; omega
    have q3:q=0∨q=1∨q=2:=by omega
    have hm:vIns (midI v i)=if q=0 then vIns nopI else if q=1 then vIns ⟨1,3,v,0⟩ else vIns ⟨9,3,0,0⟩:=by
      unfold midI; rw [← hq];rcases q3 with rfl | rfl | rfl<;>rfl
    have fin:∀ (cs:List Value) (g:Ob),vIns (midI v i)=cs→qCu (H++[g,bx cs 4]) 4 (.slice (some ⟨H.length+1,0,none⟩) 1 0)=some ([midI v i].length,[midI v i].flatMap vIns):=fun cs g e=>by
      rw [← e];exact pElems_lit4 (m:=1) rfl rfl
    rcases q3 with rfl | rfl | rfl
    . simp [qAk,qAn,qAl,qAh,qAg,qAe,qAb,qAd,qAa,qAi,qAf,qAc,qAs,qAt,resV,retV,qAm,qAj,qAr,qAq,qAp,qAo,e3,w3,x3,hif,e4,x4]
      refine AccM.apps (acc.ext qCa.app) (by simp; omega) (m:=[midI v i]) (fin _ _ hm) (by rw [qEt]; simp; omega) fun v1 H1 a1 a2 a3 a4=>?_
      simp [qAk,qAn,qAl,qAh,qAg,qAe,qAb,qAd,qAa,qAi,qAf,qAc,qAs,qAt,resV,retV,qAm,qAj,qAr,qAq,qAp,qAo,wi];exact .go (i1,v1,H1) (by simp only []; omega) (by simp) rfl ⟨by simp only []; omega,by rw [hi1,qNi]; exact a1⟩
    . simp [qAk,qAn,qAl,qAh,qAg,qAe,qAb,qAd,qAa,qAi,qAf,qAc,qAs,qAt,resV,retV,qAm,qAj,qAr,qAq,qAp,qAo,e3,w3,x3,hif,e4,x4]
      refine AccM.apps (acc.ext qCa.app) (by simp; omega) (m:=[midI v i]) (fin _ _ hm) (by rw [qEt]; simp; omega) fun v1 H1 a1 a2 a3 a4=>?_
      simp [qAk,qAn,qAl,qAh,qAg,qAe,qAb,qAd,qAa,qAi,qAf,qAc,qAs,qAt,resV,retV,qAm,qAj,qAr,qAq,qAp,qAo,wi];exact .go (i1,v1,H1) (by simp only []; omega) (by simp) rfl ⟨by simp only []; omega,by rw [hi1,qNi]; exact a1⟩
    . simp [qAk,qAn,qAl,qAh,qAg,qAe,qAb,qAd,qAa,qAi,qAf,qAc,qAs,qAt,resV,retV,qAm,qAj,qAr,qAq,qAp,qAo,e3,w3,x3,hif,e4,x4]
      refine AccM.apps (acc.ext qCa.app) (by simp; omega) (m:=[midI v i]) (fin _ _ hm) (by rw [qEt]; simp; omega) fun v1 H1 a1 a2 a3 a4=>?_
      simp [qAk,qAn,qAl,qAh,qAg,qAe,qAb,qAd,qAa,qAi,qAf,qAc,qAs,qAt,resV,retV,qAm,qAj,qAr,qAq,qAp,qAo,wi];exact .go (i1,v1,H1) (by simp only []; omega) (by simp) rfl ⟨by simp only []; omega,by rw [hi1,qNi]; exact a1⟩
  . obtain rfl:i=k:=by omega
    have hif:¬ (i:Int) < i:=by omega
    rw [qAv];simp [-qAv,qAk,qAn,qAl,qAh,qAg,qAe,qAb,qAd,qAa,qAi,qAf,qAc,qAs,qAt,resV,retV,qAm,qAj,qAr,qAq,qAp,qAo,e3,w3,x3,hif];have hal:h.length≤H.length:=by
      rcases acc with ⟨_,h0,_⟩ | ⟨id,ver,_,h2,h3,_⟩
      . rw [qEt] at h0; omega
      . have:=(List.getElem?_eq_some_iff.1 h3).1; omega
    have hz:cellsOf (.agg #[.int .u8 11,.int .i64 3,.int .i64 0,.int .i64 0])=some (vIns ⟨11,3,0,0⟩):=rfl;refine AccM.apps (acc.ext qCa.app) (by simp; omega) (m:=[⟨11,3,0,0⟩]) (pElems_lit4 (m:=0) (cs:=vIns ⟨11,3,0,0⟩) rfl rfl) (by rw [qEt]; simp; omega) fun v1 H1 a1 a2 a3 a4=>?_
    have a1:AccM 4 vIns h.length H1 v1 (qFr a b v i):=a1;obtain ⟨id,ver,H2,rfl,fz,hrow⟩:=a1.frzR (by rw [qIt]; omega)
    simp [qAk,qAn,qAl,qAh,qAg,qAe,qAb,qAd,qAa,qAi,qAf,qAc,qAs,qAt,resV,retV,qAm,qAj,qAr,qAq,qAp,qAo,fz];refine lfCode_call (code:=qFr a b v i) (fun c hc=>?_) (by rw [qIt]; omega) fun out fm hL=>?_
    . obtain ⟨j,hj⟩:=List.mem_iff_getElem?.1 hc
      rcases qPd hj with ⟨_,rfl⟩ | ⟨j,_,_,rfl⟩ | ⟨_,rfl⟩
      . show (7:Nat)≤255; omega
      . rcases qNb v j with e | e | e<;>omega
      . show (11:Nat)≤255; omega
    obtain ⟨o1,o2,o3,o4,o5⟩:=goes_out (by omega) (by omega) hL
    have hidl:id < H2.length:=(List.getElem?_eq_some_iff.1 hrow).1;have hrow2:∀ rs:List Ob,(H2++rs)[id]?=some (.row ⟨(qFr a b v i).flatMap vIns,4,ver,false⟩):=fun rs=>by rw [List.getElem?_append_left hidl]; exact hrow
    have rb:=fun (rs:List Ob) (j:Nat) (c:Ins) (hc:(qFr a b v i)[j]?=some c)=>rowB_cells (hrow2 rs) hc
    have rb0:∀ rs:List Ob,(H2++rs).cells? id 0 ver 4=some (vIns ⟨7,a,b,0⟩):=fun rs=>by simpa using rb rs 0 _ rfl
    have hrl:=qIt a b v i;have l1:(out.length:Int)=(i:Int)+3:=by omega
    have y1:IntKind.i64.wrap ((qFr a b v i).length+1:Int)=(i:Int)+3:=by rw [hrl]; rw [wrap_i64 (by omega) (by omega)]; omega
    have p0:(0:Int) < out.length:=by omega
    have p1:(1:Int) < out.length:=by omega
    have p2:0 < (qFr a b v i).length:=by omega
    have cn:cellsOf (.agg #[.int .u8 0,.int .i64 0,.int .i64 0,.int .i64 0])=some (vIns nopI):=rfl;have en:(Value.agg #[.int .u8 0,.int .i64 0,.int .i64 0,.int .i64 0])=.agg (vIns nopI).toArray:=rfl;simp [qAk,qAn,qAl,qAh,qAg,qAe,qAb,qAd,qAa,qAi,qAf,qAc,qAs,qAt,resV,retV,qAm,qAj,qAr,qAq,qAp,qAo,callK_def,cells_edit,l1,y1,o2,o3,p0,p1,p2,rb0,en,-qIy,qQz,-qAy,qAw,qAu,qAx,qBe,wN_0,wN_1,wN_2,wN_3];refine qFy (σ:=Nat) (fun j=>[(9,.slice (some ⟨id,0,none⟩) (qFr a b v i).length ver),(11,ptr H2.length),(12,vI j)]) (fun _=>H2++[bx [vM 4 vIns out,vL vI fm] 2])
      (fun j=>1≤j∧j≤i+1) (fun j=>i+2 - j) 1 (by simp) rfl ⟨by omega,by omega⟩ ?_
    rintro j fr ⟨hj1,hj2⟩;obtain ⟨j1,hj1e,wj⟩:=qCk (show j < lim by omega)
    by_cases hjl:j < i+1
    . have hjI:(j1:Int) < (qFr a b v i).length:=by omega
      obtain ⟨c,hc⟩:∃ c,(qFr a b v i)[j]?=some c:=⟨_,List.getElem?_eq_getElem (by omega)⟩
      have hoc:out[j1]?=some c:=by rw [hj1e,o4 j (by omega) hjl]; exact hc
      have hol:(j1:Int) < out.length:=by omega
      have hjn:j < (qFr a b v i).length:=by omega
      have rbj:=fun rs=>rb rs j c hc
      simp [qAk,qAn,qAl,qAh,qAg,qAe,qAb,qAd,qAa,qAi,qAf,qAc,qAs,qAt,resV,retV,qAm,qAj,qAr,qAq,qAp,qAo,wj,hjI,hol,hoc,hjn,rbj,-qIy,qQz,-qAy,qAw,qAu,qAx,qBe,wN_0,wN_1,wN_2,wN_3];exact .go j1 (by omega) (by simp) rfl ⟨by omega,by omega⟩
    . have hjI:¬ (j1:Int) < (qFr a b v i).length:=by omega
      have hje:j=i+1:=by omega
      rw [qAv];simp [-qAv,qAk,qAn,qAl,qAh,qAg,qAe,qAb,qAd,qAa,qAi,qAf,qAc,qAs,qAt,resV,retV,qAm,qAj,qAr,qAq,qAp,qAo,wj,hjI];refine known20_call ?_;have z1:(((qFr a b v i).length:Nat):Int) < out.length:=by omega
      have z2:out[(qFr a b v i).length]?=some ⟨11,3,1,0⟩:=by rw [hrl]; exact o5
      have z3:(Value.agg #[.int .u8 11,.int .i64 3,.int .i64 1,.int .i64 0])=.agg (vIns ⟨11,3,1,0⟩).toArray:=rfl;simp [qAk,qAn,qAl,qAh,qAg,qAe,qAb,qAd,qAa,qAi,qAf,qAc,qAs,qAt,resV,retV,qAm,qAj,qAr,qAq,qAp,qAo,callK_def,z1,z2,z3,-qIy,qQz,-qAy,qAw,qAu,qAx,qBe,wN_0,wN_1,wN_2,wN_3]
theorem LiftGoes_spec (x r n:Nat) (v:Int) (hx:x≤255) (hr:r≤255) (hn:n≤255) (hv:inI v):qBj prog 5 [v8 x,v8 r,v8 n,vI v] [] fun r _=>r=.bool true:=LiftGoes_spec' [] x r n v hx hr hn hv
end Pm
