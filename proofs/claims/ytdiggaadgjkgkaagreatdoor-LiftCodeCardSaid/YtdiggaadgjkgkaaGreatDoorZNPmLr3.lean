/- Rows of plain instructions, the document's answer: where they begin, walked.
   No condition: plain lemmas. -/

import Derived.Test.YtdiggaadgjkgkaaGreatDoorZNPmSeg2
import Derived.Test.YtdiggaadgjkgkaaGreatDoorZNPmCfgC
import Derived.Test.YtdiggaadgjkgkaaGreatDoorZNPmLp3
import Derived.Test.YtdiggaadgjkgkaaGreatDoorZNPmFlow1
import Derived.Test.YtdiggaadgjkgkaaGreatDoorZNPmVal7
import Derived.Test.YtdiggaadgjkgkaaGreatDoorZNPmLoop
import Derived.Test.YtdiggaadgjkgkaaGreatDoorZNPmRing
namespace Pm
set_option linter.unusedSimpArgs false
set_option linter.unusedVariables false
open Go Am
open Go.Proofs.Tryz (prog)

def qNw (i:Nat) (y:Ins):Prop:=(y.op=10∧y.a=(i:Int))∨(y.op=11∧y.b=(i:Int))
def qTz (code:List Ins) (m i:Nat):Prop:=i=0∨∃ j c,j < m∧code[j]?=some c∧(qNw i c∨(qDa c.op=false∧(j=i∨j+1=i)))
theorem qGu {l:List Bool} {x:Int} {i:Nat} (hi:i < l.length):(qDo l x)[i]?=some true↔l[i]?=some true∨x=(i:Int):=by
  unfold qDo
  split
  . rename_i h
    by_cases e:x.toNat=i
    . rw [e,List.getElem?_set_self hi]
      exact ⟨fun _=>.inr (by omega),fun _=>rfl⟩
    . rw [List.getElem?_set_ne e]
      exact ⟨.inl,fun h=>by rcases h with h | h; exact h; omega⟩
  . exact ⟨.inl,fun h=>by rcases h with h | h; exact h; omega⟩
theorem stepH_iff {l:List Bool} {m i:Nat} {c:Ins} (hi:i < l.length):(qNx l m c)[i]?=some true↔l[i]?=some true∨qNw i c∨(qDa c.op=false∧(m=i∨m+1=i)):=by
  have h1:(if c.op=10 then qDo l c.a else if c.op=11 then qDo l c.b else l)[i]?=some true↔l[i]?=some true∨qNw i c:=by
    unfold qNw
    by_cases h10:c.op=10
    . rw [if_pos h10,qGu hi]; simp [h10]
    . rw [if_neg h10]
      by_cases h11:c.op=11
      . rw [if_pos h11,qGu hi]; simp [h11]
      . rw [if_neg h11]; simp [h10,h11]
  have hl:(if c.op=10 then qDo l c.a else if c.op=11 then qDo l c.b else l).length=l.length:=by split<;>(try split)<;>simp [qFt]
  unfold qNx;simp only;cases hp:qDa c.op with
  | true=>rw [if_pos rfl,h1]; simp
  | false =>
    rw [if_neg (by simp),qGu (by rw [qFt,hl]; exact hi),qGu (by rw [hl]; exact hi),h1]
    constructor
    . rintro (((h | h) | h) | h)
      . exact .inl h
      . exact .inr (.inl h)
      . exact .inr (.inr ⟨rfl,.inl (by omega)⟩)
      . exact .inr (.inr ⟨rfl,.inr (by omega)⟩)
    . rintro (h | h | ⟨_,h | h⟩)
      . exact .inl (.inl (.inl h))
      . exact .inl (.inl (.inr h))
      . exact .inl (.inr (by omega))
      . exact .inr (by omega)
theorem headsTo_iff {code:List Ins} {i:Nat} (hi:i < code.length):∀ m,m≤code.length→((qCr code m)[i]?=some true↔qTz code m i)
  | 0,_=>by
    unfold qCr;rw [qGu (by simpa using hi)]
    unfold qTz;constructor
    . rintro (h | h)
      . rw [List.getElem?_replicate] at h
        split at h<;>cases h
      . exact .inl (by omega)
    . rintro (h | ⟨j,_,h,_⟩)
      . exact .inr (by omega)
      . omega
  | m+1,hm=>by
    obtain ⟨c,hc⟩:∃ c,code[m]?=some c:=⟨_,List.getElem?_eq_getElem (by omega)⟩
    rw [headsTo_next hc rfl,stepH_iff (by rw [qEy]; exact hi),headsTo_iff hi m (by omega)]
    unfold qTz;constructor
    . rintro ((h | ⟨j,d,h1,h2,h3⟩) | h)
      . exact .inl h
      . exact .inr ⟨j,d,by omega,h2,h3⟩
      . exact .inr ⟨m,c,by omega,hc,h⟩
    . rintro (h | ⟨j,d,h1,h2,h3⟩)
      . exact .inl (.inl h)
      . by_cases e:j=m
        . subst e; rw [hc] at h2; cases h2; exact .inr h3
        . exact .inl (.inr ⟨j,d,by omega,h2,h3⟩)
theorem wG_0 {c:Ins} {h:0 < (vIns c).length}:(vIns c)[0]'h=v8 c.op:=rfl
theorem wG_1 {c:Ins} {h:1 < (vIns c).length}:(vIns c)[1]'h=vI c.a:=rfl
theorem wG_2 {c:Ins} {h:2 < (vIns c).length}:(vIns c)[2]'h=vI c.b:=rfl
theorem wG_3 {c:Ins} {h:3 < (vIns c).length}:(vIns c)[3]'h=vI c.c:=rfl
section
variable {h : Heap} {K : Value → Heap → Prop}
theorem qIl {op:Nat} (hk:K (vB (qDa op)) h):qBl prog 73 [v8 op] h K:=by
  refine call_R2Plain (by simp) ?_
  unfold qDa at hk
  by_cases h8:op≤8
  . have h8I:(op:Int)≤8:=by omega
    rw [decide_eq_true h8] at hk;simp [qAk,qAn,qAl,qAh,qAg,qAe,qAb,qAd,qAa,qAi,qAf,qAc,qAs,qAu,resV,retV,qAm,qAj,qAr,qAq,qAp,qAo,qKk,h8,h8I];exact hk
  . have h8I:¬ (op:Int)≤8:=by omega
    rw [decide_eq_false h8] at hk;simp [qAk,qAn,qAl,qAh,qAg,qAe,qAb,qAd,qAa,qAi,qAf,qAc,qAs,qAu,resV,retV,qAm,qAj,qAr,qAq,qAp,qAo,qKk,h8,h8I];exact hk
set_option maxHeartbeats 1000000 in
theorem r11head_call {code:List Ins} {i:Nat} (hl:code.length < lim) (hi:i < code.length) (hk:∀ b:Bool,(b=true↔qTz code code.length i)→K (vB b) h):qBl prog 110 [vM 4 vIns code,vI i] h K:=by
  refine call_r11head (by simp) ?_
  have hlim:lim=1048576:=rfl;rcases Nat.eq_zero_or_pos i with h0 | h0
  . subst h0
    simp [qAk,qAn,qAl,qAh,qAg,qAe,qAb,qAd,qAa,qAi,qAf,qAc,qAs,qAu,resV,retV,qAm,qAj,qAr,qAq,qAp,qAo,qKj];exact hk true ⟨fun _=>.inl rfl,fun _=>rfl⟩
  obtain ⟨i0,hi0⟩:∃ i0,i=i0+1:=⟨i - 1,by omega⟩
  have ne:¬ (i:Int)=0:=by omega
  have ne':¬ i=0:=by omega
  obtain ⟨c,hc⟩:∃ c,code[i]?=some c:=⟨_,List.getElem?_eq_getElem hi⟩;obtain ⟨p,hp⟩:∃ p,code[i0]?=some p:=⟨_,List.getElem?_eq_getElem (by omega)⟩
  have hiI:(i:Int) < code.length:=by omega
  have hi0I:(i0:Int) < code.length:=by omega
  have w0:IntKind.i64.wrap ((i:Int) - 1)=(i0:Int):=by rw [wrap_i64 (by omega) (by omega)]; omega
  simp [-qAt,qAk,qAn,qAl,qAh,qAg,qAe,qAb,qAd,qAa,qAi,qAf,qAc,qAs,qAu,resV,retV,qAm,qAj,qAr,qAq,qAp,qAo,qKj];rw [qAt];simp [-qAt,qAk,qAn,qAl,qAh,qAg,qAe,qAb,qAd,qAa,qAi,qAf,qAc,qAs,qAu,resV,retV,qAm,qAj,qAr,qAq,qAp,qAo,ne,ne',hc,hp,hiI,hi0I,w0,-qAy,qAw,qAv,qAx,qBa,wN_0,wN_1,wN_2,wN_3,wG_0,wG_1,wG_2,wG_3];refine qIl ?_;cases hpc:qDa c.op with
  | false =>
    simp [qAk,qAn,qAl,qAh,qAg,qAe,qAb,qAd,qAa,qAi,qAf,qAc,qAs,qAu,resV,retV,qAm,qAj,qAr,qAq,qAp,qAo,callK_def];exact hk true ⟨fun _=>.inr ⟨i,c,hi,hc,.inr ⟨hpc,.inl rfl⟩⟩,fun _=>rfl⟩
  | true =>
  simp [-qAt,qAk,qAn,qAl,qAh,qAg,qAe,qAb,qAd,qAa,qAi,qAf,qAc,qAs,qAu,resV,retV,qAm,qAj,qAr,qAq,qAp,qAo,callK_def,ne,ne',hc,hp,hiI,hi0I,w0,-qAy,qAw,qAv,qAx,qBa,wN_0,wN_1,wN_2,wN_3,wG_0,wG_1,wG_2,wG_3];refine qIl ?_;cases hpp:qDa p.op with
  | false =>
    simp [qAk,qAn,qAl,qAh,qAg,qAe,qAb,qAd,qAa,qAi,qAf,qAc,qAs,qAu,resV,retV,qAm,qAj,qAr,qAq,qAp,qAo,callK_def];exact hk true ⟨fun _=>.inr ⟨i0,p,by omega,hp,.inr ⟨hpp,.inr hi0.symm⟩⟩,fun _=>rfl⟩
  | true =>
  simp [-qAt,qAk,qAn,qAl,qAh,qAg,qAe,qAb,qAd,qAa,qAi,qAf,qAc,qAs,qAu,resV,retV,qAm,qAj,qAr,qAq,qAp,qAo,callK_def];rw [qAt];simp [-qAt,qAk,qAn,qAl,qAh,qAg,qAe,qAb,qAd,qAa,qAi,qAf,qAc,qAs,qAu,resV,retV,qAm,qAj,qAr,qAq,qAp,qAo];refine qDh (σ:=Nat) (fun j=>[(0,vM 4 vIns code),(1,vI i),(5,vI j)]) (fun _=>h) (fun j=>j≤code.length∧∀ k y,k < j→code[k]?=some y→¬ qNw i y) (fun j=>code.length - j) 0 (by simp) rfl ⟨by simp,fun k y hk=>by omega⟩ ?_
  rintro j fr ⟨hj,hno⟩
  by_cases hlt:j < code.length
  . obtain ⟨j1,hj1,wj⟩:=qBr (show j < lim by omega)
    have hjI:(j:Int) < code.length:=by omega
    obtain ⟨y,hy⟩:∃ y,code[j]?=some y:=⟨_,List.getElem?_eq_getElem hlt⟩;have yes:qNw i y→K (vB true) h:=fun hL=>hk true ⟨fun _=>.inr ⟨j,y,hlt,hy,.inl hL⟩,fun _=>rfl⟩
    have nxt:¬ qNw i y→∀ k z,k < j1→code[k]?=some z→¬ qNw i z:=fun hL k z hk hz=>by
      by_cases e:k=j
      . subst e; rw [hy] at hz; cases hz; exact hL
      . exact hno k z (by omega) hz
    by_cases h10:y.op=10
    . have h10I:(y.op:Int)=10:=by omega
      by_cases ha:y.a=(i:Int)
      . simp [qAk,qAn,qAl,qAh,qAg,qAe,qAb,qAd,qAa,qAi,qAf,qAc,qAs,qAu,resV,retV,qAm,qAj,qAr,qAq,qAp,qAo,hjI,hy,h10,ha,-qAy,qAw,qAv,qAx,qBa,wN_0,wN_1,wN_2,wN_3,wG_0,wG_1,wG_2,wG_3]
        exact yes (.inl ⟨h10,ha⟩)
      . simp [qAk,qAn,qAl,qAh,qAg,qAe,qAb,qAd,qAa,qAi,qAf,qAc,qAs,qAu,resV,retV,qAm,qAj,qAr,qAq,qAp,qAo,hjI,hy,h10,ha,wj,-qAy,qAw,qAv,qAx,qBa,wN_0,wN_1,wN_2,wN_3,wG_0,wG_1,wG_2,wG_3]
        exact .go j1 (by omega) (by simp) rfl ⟨by omega,nxt (by unfold qNw; simp [h10,ha])⟩
    . have h10I:¬ (y.op:Int)=10:=by omega
      by_cases h11:y.op=11
      . by_cases hb:y.b=(i:Int)
        . simp [qAk,qAn,qAl,qAh,qAg,qAe,qAb,qAd,qAa,qAi,qAf,qAc,qAs,qAu,resV,retV,qAm,qAj,qAr,qAq,qAp,qAo,hjI,hy,h11,hb,-qAy,qAw,qAv,qAx,qBa,wN_0,wN_1,wN_2,wN_3,wG_0,wG_1,wG_2,wG_3]
          exact yes (.inr ⟨h11,hb⟩)
        . simp [qAk,qAn,qAl,qAh,qAg,qAe,qAb,qAd,qAa,qAi,qAf,qAc,qAs,qAu,resV,retV,qAm,qAj,qAr,qAq,qAp,qAo,hjI,hy,h11,hb,wj,-qAy,qAw,qAv,qAx,qBa,wN_0,wN_1,wN_2,wN_3,wG_0,wG_1,wG_2,wG_3]
          exact .go j1 (by omega) (by simp) rfl ⟨by omega,nxt (by unfold qNw; simp [h11,hb])⟩
      . have h11I:¬ (y.op:Int)=11:=by omega
        simp [qAk,qAn,qAl,qAh,qAg,qAe,qAb,qAd,qAa,qAi,qAf,qAc,qAs,qAu,resV,retV,qAm,qAj,qAr,qAq,qAp,qAo,hjI,hy,h10,h10I,h11,h11I,wj,-qAy,qAw,qAv,qAx,qBa,wN_0,wN_1,wN_2,wN_3,wG_0,wG_1,wG_2,wG_3];exact .go j1 (by omega) (by simp) rfl ⟨by omega,nxt (by unfold qNw; simp [h10,h11])⟩
  . have hjI:¬ (j:Int) < code.length:=by omega
    simp [qAk,qAn,qAl,qAh,qAg,qAe,qAb,qAd,qAa,qAi,qAf,qAc,qAs,qAu,resV,retV,qAm,qAj,qAr,qAq,qAp,qAo,hjI];refine hk false ⟨(fun h=>by cases h),fun h=>?_⟩
    exfalso;rcases h with h | ⟨k,y,h1,h2,h3 | ⟨h3,h4⟩⟩
    . omega
    . exact hno k y (by omega) h2 h3
    . rcases h4 with rfl | h4
      . rw [hc] at h2; cases h2; rw [hpc] at h3; cases h3
      . obtain rfl:k=i0:=by omega
        rw [hp] at h2; cases h2; rw [hpp] at h3; cases h3
theorem r11Head_call {code:List Ins} {i:Nat} (hl:code.length < lim) (hi:i < code.length) (hk:K (vI (qJj (qCr code code.length) i)) h):qBl prog 71 [vM 4 vIns code,vI i] h K:=by
  refine call_r11Head (by simp) ?_
  have hlim:lim=1048576:=rfl;have hi0:¬ (i:Int) < 0:=by omega
  have hi1:¬ (code.length:Int)≤i:=by omega
  have hi2:¬ code.length≤i:=by omega
  simp [-qAt,qAk,qAn,qAl,qAh,qAg,qAe,qAb,qAd,qAa,qAi,qAf,qAc,qAs,qAu,resV,retV,qAm,qAj,qAr,qAq,qAp,qAo,qNm];rw [qAt];simp [-qAt,qAk,qAn,qAl,qAh,qAg,qAe,qAb,qAd,qAa,qAi,qAf,qAc,qAs,qAu,resV,retV,qAm,qAj,qAr,qAq,qAp,qAo,hi0,hi1,hi2];rw [qAt];simp [-qAt,qAk,qAn,qAl,qAh,qAg,qAe,qAb,qAd,qAa,qAi,qAf,qAc,qAs,qAu,resV,retV,qAm,qAj,qAr,qAq,qAp,qAo];have h0:=headsTo_0 code (by omega) code.length
  have hL:=qEy code code.length;have hit:=fun (k:Nat) (hk:k < code.length)=>headsTo_iff hk code.length (Nat.le_refl _)
  obtain ⟨l,hle⟩:∃ l,l=qCr code code.length:=⟨_,rfl⟩;rw [← hle] at h0 hL hk hit;refine qDh (σ:=Nat) (fun j=>[(0,vM 4 vIns code),(1,vI j)]) (fun _=>h) (fun j=>j≤i∧∀ k,j < k→k≤i→l[k]?=some false) (fun j=>j) i (by simp) rfl ⟨Nat.le_refl _,fun k h1 h2=>by omega⟩ ?_
  rintro j fr ⟨hj,hno⟩;simp [qAk,qAn,qAl,qAh,qAg,qAe,qAb,qAd,qAa,qAi,qAf,qAc,qAs,qAu,resV,retV,qAm,qAj,qAr,qAq,qAp,qAo];refine r11head_call hl (by omega) fun b hb=>?_
  rw [← hit j (by omega)] at hb
  obtain ⟨x,hx⟩:∃ x,l[j]?=some x:=⟨_,List.getElem?_eq_getElem (by omega)⟩
  rw [hx] at hb;obtain rfl:b=x:=by cases b<;>cases x<;>simp_all
  cases b with
  | true =>
    simp [qAk,qAn,qAl,qAh,qAg,qAe,qAb,qAd,qAa,qAi,qAf,qAc,qAs,qAu,resV,retV,qAm,qAj,qAr,qAq,qAp,qAo,callK_def];rw [qOm hj hx hno] at hk;exact hk
  | false =>
    have hj0:j≠0:=fun e=>by subst e; rw [h0] at hx; cases hx
    obtain ⟨j0,hj0⟩:∃ j0,j=j0+1:=⟨j - 1,by omega⟩
    have wj:IntKind.i64.wrap ((j:Int) - 1)=(j0:Int):=by rw [wrap_i64 (by omega) (by omega)]; omega
    simp [qAk,qAn,qAl,qAh,qAg,qAe,qAb,qAd,qAa,qAi,qAf,qAc,qAs,qAu,resV,retV,qAm,qAj,qAr,qAq,qAp,qAo,callK_def,wj];refine .go j0 (by omega) (by simp) rfl ⟨by omega,fun k h1 h2=>?_⟩
    by_cases e:k=j
    . rw [e,hx]
    . exact hno k (by omega) h2
end
end Pm

/- Loops, the document's answer: what is of a loop, walked.
   No condition: plain lemmas. -/

namespace Pm
set_option linter.unusedSimpArgs false
set_option linter.unusedVariables false
open Go Am
open Go.Proofs.Tryz (prog)

theorem cntI:∀ {l:List Int} {j:Nat},l[j]?=some 0→(l.set j 1).count 0 < l.count 0
  | [],j,h=>by simp at h
  | a :: l,0,h=>by simp at h; subst h; simp
  | a :: l,j+1,h=>by
    have:=cntI (l:=l) (j:=j) (by simpa using h)
    simp only [List.set_cons_succ,List.count_cons]; omega
structure Bd (s:List (List Int)) (hd:Nat) (out:List Int) (P:Nat→Prop):Prop where
  len:out.length=s.length
  val:∀ i:Nat,i < s.length→out[i]?=some 0∨out[i]?=some 1
  snd:∀ i:Nat,out[i]?=some 1→(∃ t,qHp s hd t)∧InLp s hd i
  cmp:∀ t:Nat,P t→qHp s hd t→out[t]?=some 1∧out[hd]?=some 1
theorem Bd.init {s:List (List Int)} {hd:Nat}:Bd s hd (List.replicate s.length 0) fun _=>False :=
  ⟨by simp,fun i hi=>.inl (by simp [hi]),(fun i h=>by
    rw [List.getElem?_replicate] at h
    split at h
    . cases h
    . cases h),fun _ h=>h.elim⟩
theorem Bd.set {s:List (List Int)} {hd i:Nat} {out:List Int} {P:Nat→Prop} (b:Bd s hd out P) (hi:i < s.length) (hb:∃ t,qHp s hd t) (hl:InLp s hd i):Bd s hd (out.set i 1) P:=by
  have one:∀ j:Nat,out[j]?=some 1→(out.set i 1)[j]?=some 1:=fun j hj=>by
    by_cases e:i=j
    . subst e; rw [List.getElem?_set_self (by rw [b.len]; exact hi)]
    . rw [List.getElem?_set_ne e]; exact hj
  refine ⟨by simpa using b.len,fun j hj=>?_,fun j hj=>?_,fun t ht h=>⟨one t (b.cmp t ht h).1,one hd (b.cmp t ht h).2⟩⟩
  . by_cases e:i=j
    . subst e; exact .inr (List.getElem?_set_self (by rw [b.len]; exact hi))
    . rw [List.getElem?_set_ne e]; exact b.val j hj
  . by_cases e:i=j
    . subst e; exact ⟨hb,hl⟩
    . rw [List.getElem?_set_ne e] at hj; exact b.snd j hj
theorem Bd.imp {s:List (List Int)} {hd:Nat} {out:List Int} {P Q:Nat→Prop} (b:Bd s hd out P) (h:∀ t,Q t→qHp s hd t→P t∨(out[t]?=some 1∧out[hd]?=some 1)):Bd s hd out Q :=
  ⟨b.len,b.val,b.snd,fun t ht hb=>by
    rcases h t ht hb with h | h
    . exact b.cmp t h hb
    . exact h⟩
structure Ps (s:List (List Int)) (hd:Nat) (out0 out:List Int) (more:Bool):Prop where
  bd:Bd s hd out fun _=>True
  more:(more=true∧out.count 0 < out0.count 0)∨(more=false∧out=out0)
def Clz (s:List (List Int)) (hd:Nat) (out:List Int) (i k:Nat):Prop :=
  out[i]?=some 0→Come s i→∀ (l:List Int) (k' x:Nat),s[i]?=some l→k' < k→l[k']?=some (x:Int)→x < s.length→x≠hd→out[x]?=some 1→False
theorem Bd.done {s:List (List Int)} {hd:Nat} {out:List Int} (b:Bd s hd out fun _=>True) (hh:hd < s.length) (hc:∀ i l,s[i]?=some l→Clz s hd out i l.length) (i:Nat):out[i]?=some 1↔(∃ t,qHp s hd t)∧InLp s hd i:=by
  refine ⟨b.snd i,?_⟩;rintro ⟨⟨t,ht⟩,hl⟩
  induction hl with
  | head=>exact (b.cmp t trivial ht).2
  | back h=>exact (b.cmp _ trivial h).1
  | step h hx ht hn hcm ih =>
    rename_i x j;rcases b.val j ht with h0 | h1
    . exfalso
      obtain ⟨l,hl⟩:∃ l,s[j]?=some l:=⟨_,List.getElem?_eq_getElem ht⟩;rw [qEe hl] at hn;obtain ⟨k,hk⟩:=List.mem_iff_getElem?.1 hn;have hxl:x < s.length:=by
        have:=(List.getElem?_eq_some_iff.1 ih).1; rw [b.len] at this; exact this
      exact hc j l hl h0 hcm l k x hl (List.getElem?_eq_some_iff.1 hk).1 hk hxl hx ih
    . exact h1
section
variable {h : Heap} {K : Value → Heap → Prop}
set_option maxHeartbeats 8000000 in
theorem r12body_call {s:List (List Int)} {d:List Nat} {seen:List Bool} {hd:Nat} (hn:s.length≤64) (hll:∀ l∈s,l.length < lim) (hD:DomsOf s d) (hs1:seen.length=s.length) (hs2:∀ i,seen[i]?=some true↔Come s i) (hh:hd < s.length)
    (hk:∀ out:List Int,out.length=s.length→(∀ i:Nat,i < s.length→out[i]?=some 0∨out[i]?=some 1)→(∀ i:Nat,out[i]?=some 1↔(∃ t,qHp s hd t)∧InLp s hd i)→K (vL vI out) h) :
    qBl prog 70 [vL (vL vI) s,vL vU d,vL vB seen,vI hd] h K:=by
  refine qBl.forget ?_;refine call_r12body (by simp) ?_
  have hlim:lim=1048576:=rfl;have hll':s.length≤lim:=by omega
  have hdl:=hD.len;simp [-qAt,qAk,qAn,qAl,qAh,qAg,qAe,qAb,qAd,qAa,qAi,qAf,qAc,qAs,qAu,resV,retV,qAm,qAj,qAr,qAq,qAp,qAo,qCa,qBd,qBn,qAv,qAw,qBg,qBw,qBz,qBe,qBb,qBf,qBc,qBp,qBo,qBi,qCm,qBy,qCn,qBx,qAz,qBm,qBq,qBj,qBk,qNl,make_box hll',bx_repI];rw [qAt];simp [-qAt,qAk,qAn,qAl,qAh,qAg,qAe,qAb,qAd,qAa,qAi,qAf,qAc,qAs,qAu,resV,retV,qAm,qAj,qAr,qAq,qAp,qAo,qCa,qBd,qBn,qAv,qAw,qBg,qBw,qBz,qBe,qBb,qBf,qBc,qBp,qBo,qBi,qCm,qBy,qCn,qBx,qAz,qBm,qBq,qBj,qBk]
  refine qDh (σ:=List Int×Nat) (fun x=>[(0,vL (vL vI) s),(1,vL vU d),(2,vL vB seen),(3,vI hd),(9,.slice (some ⟨h.length,0,none⟩) s.length 0),(10,vI x.2)]) (fun x=>h++[bxL vI x.1])
    (fun x=>x.2≤s.length∧Bd s hd x.1 fun t=>t < x.2) (fun x=>s.length - x.2) (List.replicate s.length 0,0) (by simp) rfl ⟨by simp,Bd.init.imp fun t ht=>by simp at ht⟩ ?_
  rintro ⟨out,t⟩ fr ⟨ht,bd⟩;simp only at ht bd ⊢
  by_cases hlt:t < s.length
  . obtain ⟨t1,ht1,wt⟩:=qBr (show t < lim by omega)
    have htI:(t:Int) < s.length:=by omega
    obtain ⟨l,hsl⟩:∃ l,s[t]?=some l:=⟨_,List.getElem?_eq_getElem hlt⟩;have hli:l.length < lim:=hll l (List.mem_of_getElem? hsl);rw [qAt];simp [-qAt,qAk,qAn,qAl,qAh,qAg,qAe,qAb,qAd,qAa,qAi,qAf,qAc,qAs,qAu,resV,retV,qAm,qAj,qAr,qAq,qAp,qAo,qCa,qBd,qBn,qAv,qAw,qBg,qBw,qBz,qBe,qBb,qBf,qBc,qBp,qBo,qBi,qCm,qBy,qCn,qBx,qAz,qBm,qBq,qBj,qBk,htI];rw [qAt];simp [-qAt,qAk,qAn,qAl,qAh,qAg,qAe,qAb,qAd,qAa,qAi,qAf,qAc,qAs,qAu,resV,retV,qAm,qAj,qAr,qAq,qAp,qAo,qCa,qBd,qBn,qAv,qAw,qBg,qBw,qBz,qBe,qBb,qBf,qBc,qBp,qBo,qBi,qCm,qBy,qCn,qBx,qAz,qBm,qBq,qBj,qBk]
    refine qDh (σ:=List Int×Nat) (fun x=>[(0,vL (vL vI) s),(1,vL vU d),(2,vL vB seen),(3,vI hd),(9,.slice (some ⟨h.length,0,none⟩) s.length 0),(10,vI t),(11,vI x.2)]) (fun x=>h++[bxL vI x.1])
      (fun x=>x.2≤l.length∧Bd s hd x.1 fun t'=>t' < t∨(t'=t∧∃ k',k' < x.2∧l[k']?=some (hd:Int))) (fun x=>l.length - x.2) (out,0) (by simp) rfl ⟨by simp,bd.imp fun t' h _=>by
        rcases h with h | ⟨_,k',h,_⟩
        . exact .inl h
        . simp at h⟩ ?_
    clear bd;rintro ⟨out,k⟩ fr ⟨hk',bd⟩;simp only at hk' bd ⊢;have hol:=bd.len
    by_cases hkl:k < l.length
    . obtain ⟨k1,hk1,wk⟩:=qBr (show k < lim by omega)
      have hkI:(k:Int) < l.length:=by omega
      obtain ⟨x,hx⟩:∃ x,l[k]?=some x:=⟨_,List.getElem?_eq_getElem hkl⟩;obtain ⟨r,hr⟩:∃ r,seen[t]?=some r:=⟨_,List.getElem?_eq_getElem (by omega)⟩
      obtain ⟨w,hw⟩:∃ w,d[t]?=some w:=⟨_,List.getElem?_eq_getElem (by omega)⟩
      have htr:(t:Int) < seen.length:=by omega
      have htd:(t:Int) < d.length:=by omega
      have skip:¬ qHp s hd t∨x≠(hd:Int)→Bd s hd out fun t'=>t' < t∨(t'=t∧∃ k',k' < k1∧l[k']?=some (hd:Int)):=fun hno=>bd.imp fun t' h hb=>by
        rcases h with h | ⟨rfl,k',h,h2⟩
        . exact .inl (.inl h)
        . by_cases e:k'=k
          . subst e
            rw [hx] at h2; cases h2;rcases hno with hno | hno
            . exact absurd hb hno
            . exact absurd rfl hno
          . exact .inl (.inr ⟨rfl,k',by omega,h2⟩)
      cases r with
      | false =>
        simp [qAk,qAn,qAl,qAh,qAg,qAe,qAb,qAd,qAa,qAi,qAf,qAc,qAs,qAu,resV,retV,qAm,qAj,qAr,qAq,qAp,qAo,qCa,qBd,qBn,qAv,qAw,qBg,qBw,qBz,qBe,qBb,qBf,qBc,qBp,qBo,qBi,qCm,qBy,qCn,qBx,qAz,qBm,qBq,qBj,qBk,htI,hsl,hkI,hx,htr,hr,wk];refine .go (out,k1) (by simp only []; omega) (by simp) rfl ⟨by simp only []; omega,skip (.inl fun hb=>?_)⟩
        rw [(hs2 t).2 hb.2.2.1] at hr; cases hr
      | true =>
        by_cases hxh:x=(hd:Int)
        . subst hxh
          simp [qAk,qAn,qAl,qAh,qAg,qAe,qAb,qAd,qAa,qAi,qAf,qAc,qAs,qAu,resV,retV,qAm,qAj,qAr,qAq,qAp,qAo,qCa,qBd,qBn,qAv,qAw,qBg,qBw,qBz,qBe,qBb,qBf,qBc,qBp,qBo,qBi,qCm,qBy,qCn,qBx,qAz,qBm,qBq,qBj,qBk,htI,hsl,hkI,hx,htr,hr,htd,hw];refine qIk (hD.lt w (List.mem_of_getElem? hw)) ?_;have hbit:=hD.bit t w hd hw;rw [qIz (by omega)]
          cases hwb:w.testBit hd with
          | false =>
            simp [qAk,qAn,qAl,qAh,qAg,qAe,qAb,qAd,qAa,qAi,qAf,qAc,qAs,qAu,resV,retV,qAm,qAj,qAr,qAq,qAp,qAo,qCa,qBd,qBn,qAv,qAw,qBg,qBw,qBz,qBe,qBb,qBf,qBc,qBp,qBo,qBi,qCm,qBy,qCn,qBx,qAz,qBm,qBq,qBj,qBk,callK_def,wk];refine .go (out,k1) (by simp only []; omega) (by simp) rfl ⟨by simp only []; omega,skip (.inl fun hb=>?_)⟩
            rw [hbit.2 hb.2.2.2] at hwb; cases hwb
          | true =>
            have hB:qHp s hd t:=⟨hlt,by rw [qEe hsl]; exact List.mem_of_getElem? hx,(hs2 t).1 hr,hbit.1 hwb⟩
            have hto:t < out.length:=by omega
            have hho:hd < out.length:=by omega
            have hhI:(hd:Int) < s.length:=by omega
            simp [qAk,qAn,qAl,qAh,qAg,qAe,qAb,qAd,qAa,qAi,qAf,qAc,qAs,qAu,resV,retV,qAm,qAj,qAr,qAq,qAp,qAo,qCa,qBd,qBn,qAv,qAw,qBg,qBw,qBz,qBe,qBb,qBf,qBc,qBp,qBo,qBi,qCm,qBy,qCn,qBx,qAz,qBm,qBq,qBj,qBk,callK_def,wk,storeB_I,htI,hhI,hto,hho];refine .go ((out.set t 1).set hd 1,k1) (by simp only []; omega) (by simp) rfl ⟨by simp only []; omega,?_⟩
            have b2:=(bd.set hlt ⟨t,hB⟩ (.back hB)).set hh ⟨t,hB⟩ .head;refine b2.imp fun t' h hb=>?_
            rcases h with h | ⟨rfl,_⟩
            . exact .inl (.inl h)
            . refine .inr ⟨?_,List.getElem?_set_self (by simp; omega)⟩
              by_cases e:hd=t'
              . rw [e,List.getElem?_set_self (by simp; omega)]
              . rw [List.getElem?_set_ne e,List.getElem?_set_self hto]
        . simp [qAk,qAn,qAl,qAh,qAg,qAe,qAb,qAd,qAa,qAi,qAf,qAc,qAs,qAu,resV,retV,qAm,qAj,qAr,qAq,qAp,qAo,qCa,qBd,qBn,qAv,qAw,qBg,qBw,qBz,qBe,qBb,qBf,qBc,qBp,qBo,qBi,qCm,qBy,qCn,qBx,qAz,qBm,qBq,qBj,qBk,htI,hsl,hkI,hx,htr,hr,wk,hxh]
          exact .go (out,k1) (by simp only []; omega) (by simp) rfl ⟨by simp only []; omega,skip (.inr hxh)⟩
    . obtain rfl:k=l.length:=by omega
      have hkI:¬ (l.length:Int) < l.length:=by omega
      simp [qAk,qAn,qAl,qAh,qAg,qAe,qAb,qAd,qAa,qAi,qAf,qAc,qAs,qAu,resV,retV,qAm,qAj,qAr,qAq,qAp,qAo,qCa,qBd,qBn,qAv,qAw,qBg,qBw,qBz,qBe,qBb,qBf,qBc,qBp,qBo,qBi,qCm,qBy,qCn,qBx,qAz,qBm,qBq,qBj,qBk,htI,hsl,hkI,wt];refine .go (out,t1) (by simp only []; omega) (by simp) rfl ⟨by simp only []; omega,bd.imp fun t' h hb=>?_⟩
      by_cases e:t'=t
      . subst e
        have:=hb.2.1;rw [qEe hsl] at this;obtain ⟨k',hk'⟩:=List.mem_iff_getElem?.1 this;exact .inl (.inr ⟨rfl,k',(List.getElem?_eq_some_iff.1 hk').1,hk'⟩)
      . exact .inl (.inl (by simp only at h; omega))
  . obtain rfl:t=s.length:=by omega
    have htI:¬ (s.length:Int) < s.length:=by omega
    rw [qAt];simp [-qAt,qAk,qAn,qAl,qAh,qAg,qAe,qAb,qAd,qAa,qAi,qAf,qAc,qAs,qAu,resV,retV,qAm,qAj,qAr,qAq,qAp,qAo,qCa,qBd,qBn,qAv,qAw,qBg,qBw,qBz,qBe,qBb,qBf,qBc,qBp,qBo,qBi,qCm,qBy,qCn,qBx,qAz,qBm,qBq,qBj,qBk,htI];rw [qAt];simp [-qAt,qAk,qAn,qAl,qAh,qAg,qAe,qAb,qAd,qAa,qAi,qAf,qAc,qAs,qAu,resV,retV,qAm,qAj,qAr,qAq,qAp,qAo,qCa,qBd,qBn,qAv,qAw,qBg,qBw,qBz,qBe,qBb,qBf,qBc,qBp,qBo,qBi,qCm,qBy,qCn,qBx,qAz,qBm,qBq,qBj,qBk]
    refine qDh (σ:=List Int×Bool) (fun x=>[(0,vL (vL vI) s),(2,vL vB seen),(3,vI hd),(9,.slice (some ⟨h.length,0,none⟩) s.length 0),(12,vB x.2)]) (fun x=>h++[bxL vI x.1])
      (fun x=>Bd s hd x.1 (fun _=>True)∧(x.2=false→∀ i l,s[i]?=some l→Clz s hd x.1 i l.length)) (fun x=>2 * x.1.count 0+(if x.2 then 1 else 0)) (out,true) (by simp) rfl ⟨bd.imp fun t _ hb=>.inl hb.1,fun h=>by cases h⟩ ?_
    clear bd;rintro ⟨out0,more⟩ fr ⟨bd0,hc0⟩;simp only at bd0 hc0 ⊢;have hol0:=bd0.len;cases more with
    | false =>
      simp [qAk,qAn,qAl,qAh,qAg,qAe,qAb,qAd,qAa,qAi,qAf,qAc,qAs,qAu,resV,retV,qAm,qAj,qAr,qAq,qAp,qAo,qCa,qBd,qBn,qAv,qAw,qBg,qBw,qBz,qBe,qBb,qBf,qBc,qBp,qBo,qBi,qCm,qBy,qCn,qBx,qAz,qBm,qBq,qBj,qBk];exact ⟨_,qRh (f:=vI) (by simp) (Nat.le_refl _) hol0.symm,hk out0 hol0 bd0.val (bd0.done hh (hc0 rfl))⟩
    | true =>
      rw [qAt];simp [-qAt,qAk,qAn,qAl,qAh,qAg,qAe,qAb,qAd,qAa,qAi,qAf,qAc,qAs,qAu,resV,retV,qAm,qAj,qAr,qAq,qAp,qAo,qCa,qBd,qBn,qAv,qAw,qBg,qBw,qBz,qBe,qBb,qBf,qBc,qBp,qBo,qBi,qCm,qBy,qCn,qBx,qAz,qBm,qBq,qBj,qBk];refine qDh (σ:=List Int×Bool×Nat) (fun x=>[(0,vL (vL vI) s),(2,vL vB seen),(3,vI hd),(9,.slice (some ⟨h.length,0,none⟩) s.length 0),(12,vB x.2.1),(13,vI x.2.2)]) (fun x=>h++[bxL vI x.1])
        (fun x=>x.2.2≤s.length∧Ps s hd out0 x.1 x.2.1∧(x.2.1=false→∀ i l,i < x.2.2→s[i]?=some l→Clz s hd x.1 i l.length)) (fun x=>s.length - x.2.2) (out0,false,0) (by simp) rfl ⟨by simp,⟨bd0,.inr ⟨rfl,rfl⟩⟩,fun _ i l hi=>by simp at hi⟩ ?_
      rintro ⟨out1,m1,i⟩ fr ⟨hi,ps1,hc1⟩;simp only at hi ps1 hc1 ⊢
      by_cases hlt:i < s.length
      . obtain ⟨i1,hi1,wi⟩:=qBr (show i < lim by omega)
        have hiI:(i:Int) < s.length:=by omega
        obtain ⟨l,hsl⟩:∃ l,s[i]?=some l:=⟨_,List.getElem?_eq_getElem hlt⟩;have hli:l.length < lim:=hll l (List.mem_of_getElem? hsl);rw [qAt];simp [-qAt,qAk,qAn,qAl,qAh,qAg,qAe,qAb,qAd,qAa,qAi,qAf,qAc,qAs,qAu,resV,retV,qAm,qAj,qAr,qAq,qAp,qAo,qCa,qBd,qBn,qAv,qAw,qBg,qBw,qBz,qBe,qBb,qBf,qBc,qBp,qBo,qBi,qCm,qBy,qCn,qBx,qAz,qBm,qBq,qBj,qBk,hiI];rw [qAt];simp [-qAt,qAk,qAn,qAl,qAh,qAg,qAe,qAb,qAd,qAa,qAi,qAf,qAc,qAs,qAu,resV,retV,qAm,qAj,qAr,qAq,qAp,qAo,qCa,qBd,qBn,qAv,qAw,qBg,qBw,qBz,qBe,qBb,qBf,qBc,qBp,qBo,qBi,qCm,qBy,qCn,qBx,qAz,qBm,qBq,qBj,qBk]
        refine qDh (σ:=List Int×Bool×Nat) (fun x=>[(0,vL (vL vI) s),(2,vL vB seen),(3,vI hd),(9,.slice (some ⟨h.length,0,none⟩) s.length 0),(12,vB x.2.1),(13,vI i),(14,vI x.2.2)]) (fun x=>h++[bxL vI x.1])
          (fun x=>x.2.2≤l.length∧Ps s hd out0 x.1 x.2.1∧(x.2.1=false→∀ i' l,i' < i→s[i']?=some l→Clz s hd x.1 i' l.length)∧(x.2.1=false→Clz s hd x.1 i x.2.2)) (fun x=>l.length - x.2.2) (out1,m1,0) (by simp) rfl ⟨by simp,ps1,hc1,fun _ _ _ l k' x _ hk'=>by simp at hk'⟩ ?_
        clear ps1 hc1;rintro ⟨out,m,k⟩ fr ⟨hk',ps,hc,hci⟩;simp only at hk' ps hc hci ⊢;have bd:=ps.bd;have hol:=bd.len;have outG:∀ {fr':Fr},(m=false→Clz s hd out i l.length)→(m=false→∀ i' l',i' < i1→s[i']?=some l'→Clz s hd out i' l'.length):=fun hcl hm i' l' h1 h2=>by
          by_cases e:i'=i
          . subst e; rw [hsl] at h2; cases h2; exact hcl hm
          . exact hc hm i' l' (by omega) h2
        obtain ⟨r,hr⟩:∃ r,seen[i]?=some r:=⟨_,List.getElem?_eq_getElem (by omega)⟩
        obtain ⟨o,ho⟩:∃ o,out[i]?=some o:=⟨_,List.getElem?_eq_getElem (by omega)⟩
        have hir:(i:Int) < seen.length:=by omega
        have hio:i < out.length:=by omega
        have hog:=(List.getElem?_eq_some_iff.1 ho).2
        by_cases hkl:k < l.length
        . have hkI:(k:Int) < l.length:=by omega
          cases r with
          | false =>
            simp [qAk,qAn,qAl,qAh,qAg,qAe,qAb,qAd,qAa,qAi,qAf,qAc,qAs,qAu,resV,retV,qAm,qAj,qAr,qAq,qAp,qAo,qCa,qBd,qBn,qAv,qAw,qBg,qBw,qBz,qBe,qBb,qBf,qBc,qBp,qBo,qBi,qCm,qBy,qCn,qBx,qAz,qBm,qBq,qBj,qBk,hiI,hsl,hkI,hir,hr,wi];refine .go (out,m,i1) (by simp only []; omega) (by simp) rfl ⟨by simp only []; omega,ps,outG (fr':=fr) fun _ _ hcm=>?_⟩
            rw [(hs2 i).2 hcm] at hr; cases hr
          | true =>
            by_cases ho0:o=0
            . subst ho0
              obtain ⟨k1,hk1,wk⟩:=qBr (show k < lim by omega)
              obtain ⟨x,hx⟩:∃ x,l[k]?=some x:=⟨_,List.getElem?_eq_getElem hkl⟩;have skip:(∀ y:Nat,x=(y:Int)→y < s.length→y≠hd→out[y]?=some 1→False)→(m=false→Clz s hd out i k1):=fun hno hm h0 hcm l' k' y h1 h2 h3 h4 h5 h6=>by
                rw [hsl] at h1; cases h1
                by_cases e:k'=k
                . subst e; rw [hx] at h3; cases h3; exact hno y rfl h4 h5 h6
                . exact hci hm h0 hcm l k' y hsl (by omega) h3 h4 h5 h6
              by_cases hx0:0≤x
              . obtain ⟨y,rfl⟩:∃ y:Nat,x=y:=⟨x.toNat,by omega⟩
                by_cases hys:y < s.length
                . have hysI:(y:Int) < s.length:=by omega
                  by_cases hyh:y=hd
                  . subst hyh
                    simp [qAk,qAn,qAl,qAh,qAg,qAe,qAb,qAd,qAa,qAi,qAf,qAc,qAs,qAu,resV,retV,qAm,qAj,qAr,qAq,qAp,qAo,qCa,qBd,qBn,qAv,qAw,qBg,qBw,qBz,qBe,qBb,qBf,qBc,qBp,qBo,qBi,qCm,qBy,qCn,qBx,qAz,qBm,qBq,qBj,qBk,hiI,hsl,hkI,hir,hr,hio,ho,hog,hx,hysI,wk];exact .go (out,m,k1) (by simp only []; omega) (by simp) rfl ⟨by simp only []; omega,ps,hc,skip fun z e _ hz _=>hz (by omega)⟩
                  . have hyhI:¬ (y:Int)=hd:=by omega
                    have hyo:y < out.length:=by omega
                    rcases bd.val y hys with hy0 | hy1
                    . have hyg:=(List.getElem?_eq_some_iff.1 hy0).2
                      simp [qAk,qAn,qAl,qAh,qAg,qAe,qAb,qAd,qAa,qAi,qAf,qAc,qAs,qAu,resV,retV,qAm,qAj,qAr,qAq,qAp,qAo,qCa,qBd,qBn,qAv,qAw,qBg,qBw,qBz,qBe,qBb,qBf,qBc,qBp,qBo,qBi,qCm,qBy,qCn,qBx,qAz,qBm,qBq,qBj,qBk,hiI,hsl,hkI,hir,hr,hio,ho,hog,hx,hysI,hyh,hyhI,hyo,hy0,hyg,wk];exact .go (out,m,k1) (by simp only []; omega) (by simp) rfl ⟨by simp only []; omega,ps,hc,skip fun z e _ _ h1=>by
                        obtain rfl:y=z:=by omega
                        rw [hy0] at h1; cases h1⟩
                    . have hyg:=(List.getElem?_eq_some_iff.1 hy1).2
                      simp [qAk,qAn,qAl,qAh,qAg,qAe,qAb,qAd,qAa,qAi,qAf,qAc,qAs,qAu,resV,retV,qAm,qAj,qAr,qAq,qAp,qAo,qCa,qBd,qBn,qAv,qAw,qBg,qBw,qBz,qBe,qBb,qBf,qBc,qBp,qBo,qBi,qCm,qBy,qCn,qBx,qAz,qBm,qBq,qBj,qBk,hiI,hsl,hkI,hir,hr,hio,ho,hog,hx,hysI,hyh,hyhI,hyo,hy1,hyg,wk,storeB_I];obtain ⟨hb,hin⟩:=bd.snd y hy1;have hcm:=(hs2 i).1 hr;have hnx:(y:Int)∈qDr s i:=by rw [qEe hsl]; exact List.mem_of_getElem? hx
                      have hct:=cntI ho;refine .go (out.set i 1,true,k1) (by simp only []; omega) (by simp) rfl ⟨by simp only []; omega,⟨bd.set hlt hb (.step hin hyh hlt hnx hcm),.inl ⟨rfl,?_⟩⟩,(fun h=>by cases h),fun h=>by cases h⟩
                      show (out.set i 1).count 0 < out0.count 0;rcases ps.more with ⟨_,h1⟩ | ⟨_,h1⟩
                      . omega
                      . rw [← h1]; exact hct
                . have hysI:¬ (y:Int) < s.length:=by omega
                  simp [qAk,qAn,qAl,qAh,qAg,qAe,qAb,qAd,qAa,qAi,qAf,qAc,qAs,qAu,resV,retV,qAm,qAj,qAr,qAq,qAp,qAo,qCa,qBd,qBn,qAv,qAw,qBg,qBw,qBz,qBe,qBb,qBf,qBc,qBp,qBo,qBi,qCm,qBy,qCn,qBx,qAz,qBm,qBq,qBj,qBk,hiI,hsl,hkI,hir,hr,hio,ho,hog,hx,hys,hysI,wk];exact .go (out,m,k1) (by simp only []; omega) (by simp) rfl ⟨by simp only []; omega,ps,hc,skip fun z e h _ _=>by omega⟩
              . simp [qAk,qAn,qAl,qAh,qAg,qAe,qAb,qAd,qAa,qAi,qAf,qAc,qAs,qAu,resV,retV,qAm,qAj,qAr,qAq,qAp,qAo,qCa,qBd,qBn,qAv,qAw,qBg,qBw,qBz,qBe,qBb,qBf,qBc,qBp,qBo,qBi,qCm,qBy,qCn,qBx,qAz,qBm,qBq,qBj,qBk,hiI,hsl,hkI,hir,hr,hio,ho,hog,hx,hx0,wk]
                exact .go (out,m,k1) (by simp only []; omega) (by simp) rfl ⟨by simp only []; omega,ps,hc,skip fun z e _ _ _=>by omega⟩
            . simp [qAk,qAn,qAl,qAh,qAg,qAe,qAb,qAd,qAa,qAi,qAf,qAc,qAs,qAu,resV,retV,qAm,qAj,qAr,qAq,qAp,qAo,qCa,qBd,qBn,qAv,qAw,qBg,qBw,qBz,qBe,qBb,qBf,qBc,qBp,qBo,qBi,qCm,qBy,qCn,qBx,qAz,qBm,qBq,qBj,qBk,hiI,hsl,hkI,hir,hr,hio,ho,hog,ho0,wi]
              refine .go (out,m,i1) (by simp only []; omega) (by simp) rfl ⟨by simp only []; omega,ps,outG (fr':=fr) fun _ h0=>?_⟩
              rw [ho] at h0; cases h0; exact absurd rfl ho0
        . obtain rfl:k=l.length:=by omega
          have hkI:¬ (l.length:Int) < l.length:=by omega
          simp [qAk,qAn,qAl,qAh,qAg,qAe,qAb,qAd,qAa,qAi,qAf,qAc,qAs,qAu,resV,retV,qAm,qAj,qAr,qAq,qAp,qAo,qCa,qBd,qBn,qAv,qAw,qBg,qBw,qBz,qBe,qBb,qBf,qBc,qBp,qBo,qBi,qCm,qBy,qCn,qBx,qAz,qBm,qBq,qBj,qBk,hiI,hsl,hkI,wi];exact .go (out,m,i1) (by simp only []; omega) (by simp) rfl ⟨by simp only []; omega,ps,outG (fr':=fr) hci⟩
      . obtain rfl:i=s.length:=by omega
        have hiI:¬ (s.length:Int) < s.length:=by omega
        simp [qAk,qAn,qAl,qAh,qAg,qAe,qAb,qAd,qAa,qAi,qAf,qAc,qAs,qAu,resV,retV,qAm,qAj,qAr,qAq,qAp,qAo,qCa,qBd,qBn,qAv,qAw,qBg,qBw,qBz,qBe,qBb,qBf,qBc,qBp,qBo,qBi,qCm,qBy,qCn,qBx,qAz,qBm,qBq,qBj,qBk,hiI];refine .go (out1,m1) ?_ (by simp) rfl ⟨ps1.bd,fun hm i l hl=>hc1 hm i l (List.getElem?_eq_some_iff.1 hl).1 hl⟩
        simp only [];rcases ps1.more with ⟨rfl,h1⟩ | ⟨rfl,rfl⟩
        . simp; omega
        . simp
end
end Pm

/- Loops, the document's answer: all of them, walked.
   No condition: plain lemmas. -/

namespace Pm
set_option linter.unusedSimpArgs false
set_option linter.unusedVariables false
open Go Am
open Go.Proofs.Tryz (prog)

def qGj (m:List Int) (n:Nat):List Int:=((List.range n).filter fun i=>decide (m[i]?=some 1)).map fun i:Nat=>(i:Int)
theorem onesTo_succ (m:List Int) (n:Nat):qGj m (n+1)=qGj m n++(if m[n]?=some 1 then [(n:Int)] else []):=by
  unfold qGj;rw [List.range_succ,List.filter_append,List.map_append]
  by_cases h:m[n]?=some 1<;>simp [h]
theorem onesTo_len (m:List Int) (n:Nat):(qGj m n).length≤n:=by
  unfold qGj;rw [List.length_map];exact Nat.le_trans (List.length_filter_le _ _) (by simp)
theorem mem_onesTo {m:List Int} {n:Nat} {x:Int}:x∈qGj m n↔∃ t:Nat,x=(t:Int)∧t < n∧m[t]?=some 1:=by
  unfold qGj;simp only [List.mem_map,List.mem_filter,List.mem_range,decide_eq_true_eq];constructor
  . rintro ⟨t,⟨h1,h2⟩,rfl⟩; exact ⟨t,rfl,h1,h2⟩
  . rintro ⟨t,rfl,h1,h2⟩; exact ⟨t,⟨h1,h2⟩,rfl⟩
theorem ones_bits {m:List Int} (hm:m.length≤64):∃ B,B < big∧(∀ t,t < 64→(B.testBit t=true↔m[t]?=some 1))∧qGj m m.length=qCc B:=by
  have hr:∀ x∈qGj m m.length,∃ k:Nat,x=k∧k < 64:=fun x hx=>by
    obtain ⟨t,rfl,h1,_⟩:=mem_onesTo.1 hx; exact ⟨t,rfl,by omega⟩
  have hb:∀ t,(qDi 0 (qGj m m.length)).testBit t=true↔m[t]?=some 1:=fun t=>by
    rw [qOj _ hr,mem_onesTo];simp only [Nat.zero_testBit,Bool.false_eq_true,false_or];constructor
    . rintro ⟨k,e,_,h⟩
      obtain rfl:t=k:=by omega
      exact h
    . exact fun h=>⟨t,rfl,(List.getElem?_eq_some_iff.1 h).1,h⟩
  refine ⟨qDi 0 (qGj m m.length),qHe _ _ (by decide),fun t _=>hb t,?_⟩
  generalize qDi 0 (qGj m m.length)=B at hb
  unfold qGj qCc
  congr 1
  have e64:List.range 64=List.range m.length++(List.range (64 - m.length)).map (m.length+·):=by
    rw [← List.range_add]; congr 1; omega
  rw [e64,List.filter_append];have e2:((List.range (64 - m.length)).map (m.length+·)).filter (fun i=>B.testBit i)=[]:=by
    rw [List.filter_eq_nil_iff];intro x hx;obtain ⟨y,_,rfl⟩:=List.mem_map.1 hx;rw [hb,List.getElem?_eq_none (by omega)]
    simp
  rw [e2,List.append_nil];refine List.filter_congr fun x hx=>?_
  rw [Bool.eq_iff_iff,decide_eq_true_eq];exact (hb x).symm
section
variable {h : Heap} {K : Value → Heap → Prop}
set_option maxHeartbeats 8000000 in
theorem r12Of_call {s:List (List Int)} (hn:s.length≤64) (hll:∀ l∈s,l.length < lim) (hk:∀ out,LoopsTo s s.length out→K (vM 2 vLp out) h) :
    qBl prog 31 [vL (vL vI) s] h K:=by
  refine qBl.forget ?_;refine call_r12Of (by simp) ?_
  have hlim:lim=1048576:=rfl;have h64:¬ (64:Int) < s.length:=by omega
  have h64n:¬ 64 < s.length:=by omega
  simp [-qAt,qAk,qAn,qAl,qAh,qAg,qAe,qAb,qAd,qAa,qAi,qAf,qAc,qAs,qAu,resV,retV,qAm,qAj,qAr,qAq,qAp,qAo,qRo];rw [qAt];simp [-qAt,qAk,qAn,qAl,qAh,qAg,qAe,qAb,qAd,qAa,qAi,qAf,qAc,qAs,qAu,resV,retV,qAm,qAj,qAr,qAq,qAp,qAo,h64,h64n];refine RDoms_call hn hll fun d hD=>?_
  simp [-qAt,qAk,qAn,qAl,qAh,qAg,qAe,qAb,qAd,qAa,qAi,qAf,qAc,qAs,qAu,resV,retV,qAm,qAj,qAr,qAq,qAp,qAo,callK_def];refine RReach_call (by omega) hll fun seen hs1 hs2=>?_
  simp [-qAt,qAk,qAn,qAl,qAh,qAg,qAe,qAb,qAd,qAa,qAi,qAf,qAc,qAs,qAu,resV,retV,qAm,qAj,qAr,qAq,qAp,qAo,callK_def];rw [qAt];simp [-qAt,qAk,qAn,qAl,qAh,qAg,qAe,qAb,qAd,qAa,qAi,qAf,qAc,qAs,qAu,resV,retV,qAm,qAj,qAr,qAq,qAp,qAo];refine qDh (σ:=Nat×List (Nat×Nat)×Value×Heap) (fun x=>[(0,vL (vL vI) s),(3,vL vU d),(4,vL vB seen),(5,x.2.2.1),(6,vI x.1)]) (fun x=>x.2.2.2) (fun x=>x.1≤s.length∧LoopsTo s x.1 x.2.1∧AccM 2 vLp h.length x.2.2.2 x.2.2.1 x.2.1∧qBs h.length h x.2.2.2) (fun x=>s.length - x.1) (0,[],nilS,h) (by simp) rfl ⟨by simp,.zero,AccM.nil,.refl _ _⟩ ?_
  rintro ⟨k,out,ov,H⟩ fr ⟨hk1,hlt,ha,kp⟩;simp only at hk1 hlt ha kp ⊢;have hHl:=kp.1
  by_cases hks:k < s.length
  . obtain ⟨k1,hk11,wk⟩:=qBr (show k < lim by omega)
    have hkf:(k:Int) < s.length:=by omega
    rw [qAt];simp [-qAt,qAk,qAn,qAl,qAh,qAg,qAe,qAb,qAd,qAa,qAi,qAf,qAc,qAs,qAu,resV,retV,qAm,qAj,qAr,qAq,qAp,qAo,hkf];rw [qAt];simp [-qAt,qAk,qAn,qAl,qAh,qAg,qAe,qAb,qAd,qAa,qAi,qAf,qAc,qAs,qAu,resV,retV,qAm,qAj,qAr,qAq,qAp,qAo];refine r12body_call hn hll hD hs1 hs2 hks fun m hml hmv hm1=>?_
    obtain ⟨B,hB1,hB2,hB3⟩:=ones_bits (m:=m) (by omega)
    have hkm:(k:Int) < m.length:=by omega
    have hkm':k < m.length:=by omega
    rcases hmv k hks with h0 | h1
    . have hno:¬ ∃ t,qHp s k t:=fun hb=>by
        rw [(hm1 k).2 ⟨hb,.head⟩] at h0; cases h0
      simp [-qAt,qAk,qAn,qAl,qAh,qAg,qAe,qAb,qAd,qAa,qAi,qAf,qAc,qAs,qAu,resV,retV,qAm,qAj,qAr,qAq,qAp,qAo,callK_def,hkm,h0];rw [qAt];simp [qAk,qAn,qAl,qAh,qAg,qAe,qAb,qAd,qAa,qAi,qAf,qAc,qAs,qAu,resV,retV,qAm,qAj,qAr,qAq,qAp,qAo,hkm,h0,wk];exact .go (k1,out,ov,H) (by simp only []; omega) (by simp) rfl ⟨by simp only []; omega,by rw [hk11]; exact .none hlt hno,ha,kp⟩
    . obtain ⟨t0,hb0⟩:=((hm1 k).1 h1).1
      have hBo:LoopOf s k B:=⟨hB1,fun t ht=>by rw [hB2 t ht,hm1 t]; exact ⟨fun h=>h.2,fun h=>⟨⟨t0,hb0⟩,h⟩⟩⟩
      simp [-qAt,qAk,qAn,qAl,qAh,qAg,qAe,qAb,qAd,qAa,qAi,qAf,qAc,qAs,qAu,resV,retV,qAm,qAj,qAr,qAq,qAp,qAo,callK_def,hkm,h1];rw [qAt];simp [-qAt,qAk,qAn,qAl,qAh,qAg,qAe,qAb,qAd,qAa,qAi,qAf,qAc,qAs,qAu,resV,retV,qAm,qAj,qAr,qAq,qAp,qAo,hkm,h1];rw [qAt];simp [-qAt,qAk,qAn,qAl,qAh,qAg,qAe,qAb,qAd,qAa,qAi,qAf,qAc,qAs,qAu,resV,retV,qAm,qAj,qAr,qAq,qAp,qAo];refine qDh (σ:=Nat×Value×Heap) (fun x=>[(0,vL (vL vI) s),(3,vL vU d),(4,vL vB seen),(5,ov),(6,vI k),(7,vL vI m),(8,x.2.1),(9,vI x.1)]) (fun x=>x.2.2) (fun x=>x.1≤m.length∧AccL vI H.length x.2.2 x.2.1 (qGj m x.1)∧qBs H.length H x.2.2) (fun x=>m.length - x.1) (0,nilS,H) (by simp) rfl ⟨by simp,AccL.nil,.refl _ _⟩ ?_
      rintro ⟨i,v,H1⟩ fr ⟨hi,al,kp1⟩;simp only at hi al kp1 ⊢;have hH1l:=kp1.1;have hol:=onesTo_len m i
      by_cases hlt2:i < m.length
      . obtain ⟨i1,hi1,wi⟩:=qBr (show i < lim by omega)
        have hiI:(i:Int) < m.length:=by omega
        have hsu:=onesTo_succ m i;rw [← hi1] at hsu;rcases hmv i (by omega) with hm0 | hm1'
        . rw [hm0] at hsu
          simp [qAk,qAn,qAl,qAh,qAg,qAe,qAb,qAd,qAa,qAi,qAf,qAc,qAs,qAu,resV,retV,qAm,qAj,qAr,qAq,qAp,qAo,hiI,hm0,wi];exact .go (i1,v,H1) (by simp only []; omega) (by simp) rfl ⟨by simp only []; omega,by rw [hsu]; simpa using al,kp1⟩
        . rw [hm1',if_pos rfl] at hsu
          simp [qAk,qAn,qAl,qAh,qAg,qAe,qAb,qAd,qAa,qAi,qAf,qAc,qAs,qAu,resV,retV,qAm,qAj,qAr,qAq,qAp,qAo,hiI,hm1',wi];refine al.pushK (by omega) (by omega) (x:=(i:Int)) (by simp) fun v' h' a1 a2 a3 a4=>?_
          simp [qAk,qAn,qAl,qAh,qAg,qAe,qAb,qAd,qAa,qAi,qAf,qAc,qAs,qAu,resV,retV,qAm,qAj,qAr,qAq,qAp,qAo,wi];exact .go (i1,v',h') (by simp only []; omega) (by simp) rfl ⟨by simp only []; omega,by rw [hsu]; exact a1,kp1.trans ⟨a2.1,fun j hj=>a2.2 j hj⟩⟩
      . obtain rfl:i=m.length:=by omega
        have hiI:¬ (m.length:Int) < m.length:=by omega
        rw [qAt];simp [-qAt,qAk,qAn,qAl,qAh,qAg,qAe,qAb,qAd,qAa,qAi,qAf,qAc,qAs,qAu,resV,retV,qAm,qAj,qAr,qAq,qAp,qAo,hiI];refine al.frz (fun _=>rfl) fun H2 a2 a3 a4=>?_
        have kp2:qBs H.length H H2:=kp1.trans a2;rw [hB3];have ha2:=ha.ext kp2;simp [-qAt,qAk,qAn,qAl,qAh,qAg,qAe,qAb,qAd,qAa,qAi,qAf,qAc,qAs,qAu,resV,retV,qAm,qAj,qAr,qAq,qAp,qAo];refine ha2.pushK (by have:=kp2.1; omega) (by have:=hlt.len; omega) (x:=(k,B)) (cs:=[vI k,vL vI (qCc B)]) rfl (by simp) fun v' h' a1 a2 a3 a4=>?_
        simp [qAk,qAn,qAl,qAh,qAg,qAe,qAb,qAd,qAa,qAi,qAf,qAc,qAs,qAu,resV,retV,qAm,qAj,qAr,qAq,qAp,qAo,wk];exact .go (k1,out++[(k,B)],v',h') (by simp only []; omega) (by simp) rfl ⟨by simp only []; omega,by rw [hk11]; exact .one hlt hb0 hBo,a1,kp.trans (qBs.trans ⟨kp2.1,fun i hi=>kp2.2 i (by omega)⟩ a2)⟩
  . obtain rfl:k=s.length:=by omega
    have hif:¬ (s.length:Int) < s.length:=by omega
    simp [qAk,qAn,qAl,qAh,qAg,qAe,qAb,qAd,qAa,qAi,qAf,qAc,qAs,qAu,resV,retV,qAm,qAj,qAr,qAq,qAp,qAo,hif];exact ⟨kp.ext,_,AccM.inl (F:=vLp) (b:=h.length) ha (fun _=>rfl),hk out hlt⟩
end
end Pm
