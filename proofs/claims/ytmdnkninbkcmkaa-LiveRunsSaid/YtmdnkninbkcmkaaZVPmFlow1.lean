/- What holds where: the small functions, walked.
   No condition: plain lemmas. -/

import Derived.Test.YtmdnkninbkcmkaaZVPmRow
import Derived.Test.YtmdnkninbkcmkaaZVPmCfgC
namespace Pm
set_option linter.unusedSimpArgs false
set_option linter.unusedVariables false
open Go Am
open Go.Proofs.Try (prog)

theorem bits_andNot {a b:Nat} (ha:a < big) (hb:b < big):bits .u64 .andNot (a:Int) (b:Int)=((andN a b:Nat):Int):=by
  have e:(BitVec.ofInt 64 (a:Int) &&& ~~~ BitVec.ofInt 64 (b:Int)).toNat=andN a b:=by
    rw [BitVec.ofInt_natCast,BitVec.ofInt_natCast];apply Nat.eq_of_testBit_eq;intro k;rw [andN_bit,BitVec.testBit_toNat,BitVec.getLsbD_and,BitVec.getLsbD_not,BitVec.getLsbD_ofNat,BitVec.getLsbD_ofNat]
    by_cases hk:k < 64
    . simp [hk]
    . have e:big≤2 ^ k:=Nat.pow_le_pow_right (n:=2) (by omega) (show 64≤k by omega)
      rw [Nat.testBit_lt_two_pow (Nat.lt_of_lt_of_le ha e)];simp [hk]
  show IntKind.u64.wrap ((BitVec.ofInt 64 (a:Int) &&& ~~~ BitVec.ofInt 64 (b:Int)).toNat:Int)=_;rw [e,qHw,Nat.mod_eq_of_lt (qSw ha)]

section
variable {h : Heap} {K : Value → Heap → Prop}
theorem fAt_call {l:List Nat} {i:Nat} (hk:K (vU (gN l i)) h):qBu prog 111 [vL vU l,vI i] h K:=by
  refine Pure.go (Pure.one (p:=vU (gN l i)) rfl fun h=>?_) hk
  refine call_fAt (by simp) ?_
  by_cases hi:l.length≤i
  . have e:gN l i=0:=by simp [gN,List.getElem?_eq_none hi]
    simp [qAk,qAn,qAl,qAi,qAf,qAe,qAb,qAc,qAa,qAj,qAg,qAd,qAu,qAv,resV,retV,qAm,qAh,qAt,qAs,qAr,qAq,qUs,hi,e]
  . obtain ⟨x,hx⟩:∃ x,l[i]?=some x:=⟨_,List.getElem?_eq_getElem (by omega)⟩
    have e:gN l i=x:=qUz hx;simp [qAk,qAn,qAl,qAi,qAf,qAe,qAb,qAc,qAa,qAj,qAg,qAd,qAu,qAv,resV,retV,qAm,qAh,qAt,qAs,qAr,qAq,qUs,hi,e,hx]
theorem Idx1_pure {l:List Int} {x:Int} (hl:l.length≤lim):∃ r:Int,(0≤r↔x∈l)∧Pure prog 129 [vL vI l,vI x] (vI r):=by
  refine ⟨match l.idxOf? x with | some i=>i | none=>-1,?_,?_⟩
  . cases hi:l.idxOf? x with
    | none=>simp [List.idxOf?_eq_none_iff.1 hi]
    | some i =>
      have:x∈l:=by
        rcases Classical.em (x∈l) with h | h
        . exact h
        . rw [List.idxOf?_eq_none_iff.2 h] at hi; cases hi
      simp [this]
  . refine Pure.one rfl fun h=>?_
    refine call_Idx1 (by simp) ?_
    simp [qAk,qAn,qAl,qAi,qAf,qAe,qAb,qAc,qAa,qAj,qAg,qAd,qAu,qAv,resV,retV,qAm,qAh,qAt,qAs,qAr,qAq,qUg];refine qFe (σ:=Nat) (fun k=>[(0,vL vI l),(1,vI x),(7,vI l.length),(8,vI k)]) (fun _=>h) (fun k=>k≤l.length∧∀ j y,j < k→l[j]?=some y→y≠x) (fun k=>l.length - k) 0 (by simp) rfl ⟨by omega,by omega⟩ ?_
    rintro k fr ⟨hk,hne⟩
    by_cases hlt:k < l.length
    . obtain ⟨k1,hk1,wk⟩:=qCj (show k < lim by omega)
      obtain ⟨y,hy⟩:∃ y,l[k]?=some y:=⟨_,List.getElem?_eq_getElem hlt⟩;have hkf:(k:Int) < l.length:=by omega
      by_cases hyx:x=y
      . have e:l.idxOf? x=some k:=by
          rw [List.idxOf?,List.findIdx?_eq_some_iff_getElem];refine ⟨hlt,by have:=(List.getElem?_eq_some_iff.1 hy).2; simp [this,hyx],fun j hj=>?_⟩
          have:=hne j (l[j]'(by omega)) hj (List.getElem?_eq_getElem _)
          simpa using this
        simp [qAk,qAn,qAl,qAi,qAf,qAe,qAb,qAc,qAa,qAj,qAg,qAd,qAu,qAv,resV,retV,qAm,qAh,qAt,qAs,qAr,qAq,hkf,hy,hyx];rw [← hyx,e]
      . simp [qAk,qAn,qAl,qAi,qAf,qAe,qAb,qAc,qAa,qAj,qAg,qAd,qAu,qAv,resV,retV,qAm,qAh,qAt,qAs,qAr,qAq,hkf,hy,hyx,wk]
        refine .go k1 (by omega) (by simp) rfl ⟨by omega,fun j y' hj hy'=>?_⟩
        by_cases hjk:j=k
        . subst hjk; rw [hy] at hy'; cases hy'; exact fun e=>hyx e.symm
        . exact hne j y' (by omega) hy'
    . have e:l.idxOf? x=none:=by
        rw [List.idxOf?_eq_none_iff];intro hm;obtain ⟨j,hj⟩:=List.mem_iff_getElem?.1 hm;exact hne j x (by have:=(List.getElem?_eq_some_iff.1 hj).1; omega) hj rfl
      have hkf:¬ (k:Int) < l.length:=by omega
      simp [qAk,qAn,qAl,qAi,qAf,qAe,qAb,qAc,qAa,qAj,qAg,qAd,qAu,qAv,resV,retV,qAm,qAh,qAt,qAs,qAr,qAq,hkf];rw [e]
theorem Cont1_call {l:List Int} {x:Int} (hl:l.length≤lim) (hk:K (vB (decide (x∈l))) h):qBu prog 125 [vL vI l,vI x] h K:=by
  refine Pure.go (Pure.one (p:=vB (decide (x∈l))) rfl fun h=>?_) hk
  refine call_Cont1 (by simp) ?_
  obtain ⟨r,hr,hp⟩:=Idx1_pure (x:=x) hl;simp [qAk,qAn,qAl,qAi,qAf,qAe,qAb,qAc,qAa,qAj,qAg,qAd,qAu,qAv,resV,retV,qAm,qAh,qAt,qAs,qAr,qAq,qSt];refine hp.go ?_;simp [qAk,qAn,qAl,qAi,qAf,qAe,qAb,qAc,qAa,qAj,qAg,qAd,qAu,qAv,resV,retV,qAm,qAh,qAt,qAs,qAr,qAq,callK_def];exact hr
end
end Pm
/- What holds where: rows of numbers, copied, and with some left out.
   No condition: plain lemmas. -/
namespace Pm
set_option linter.unusedSimpArgs false
set_option linter.unusedVariables false
open Go Am
open Go.Proofs.Try (prog)

def Rd (h:Heap) (s:Value) (l:List Int):Prop:=pLen s=some (vI l.length)∧∀ (i:Nat) (x:Int),l[i]?=some x→∃ a,qIf 1 s (vI i)=some a∧pLd h a=some (vI x)
section
variable {h : Heap} {K : Value → Heap → Prop}
theorem Clone1_call {l:List Int} (hl:l.length≤lim) (k0:l=[]→K nilS h) (k1:K (.slice (some ⟨h.length,0,none⟩) l.length 1) (h++[bxQ (l.map vI) 1])):qBu prog 107 [vL vI l] h K:=by
  refine call_Clone1 (by simp) ?_
  simp [qAk,qAn,qAl,qAi,qAf,qAe,qAb,qAc,qAa,qAj,qAg,qAd,qAu,qAv,resV,retV,qAm,qAh,qAt,qAs,qAr,qAq,qRm];refine pOps_nilT (by simp) fun b hb=>?_
  cases b with
  | true =>
    have e:l=[]:=by simpa using hb
    subst e;simp [qAk,qAn,qAl,qAi,qAf,qAe,qAb,qAc,qAa,qAj,qAg,qAd,qAu,qAv,resV,retV,qAm,qAh,qAt,qAs,qAr,qAq];exact k0 rfl
  | false =>
    simp [qAk,qAn,qAl,qAi,qAf,qAe,qAb,qAc,qAa,qAj,qAg,qAd,qAu,qAv,resV,retV,qAm,qAh,qAt,qAs,qAr,qAq];rw [show (h:Heap).length=h.length+0 from rfl,push_at (r:=⟨[],1,0,true⟩) (n:=l.length) (new:=l.map vI) rfl (by simp) rfl rfl (by simp) (by omega)]
    simp [qAk,qAn,qAl,qAi,qAf,qAe,qAb,qAc,qAa,qAj,qAg,qAd,qAu,qAv,resV,retV,qAm,qAh,qAt,qAs,qAr,qAq]
    simpa [bxQ] using k1
def fstI (g:Int→Bool) (l:List Int):Int:=match l.findIdx? g with | some i=>i | none=>-1
theorem IdxF1_call {F:FuncId} {cap s:Value} {g:Int→Bool} {l:List Int} (hc:qEi prog F=true) (hl:l.length≤lim) (hs:Rd h s l) (hf:∀ (x:Int) (K:Value→Heap→Prop),K (vB (g x)) h→qBu prog F [vI x,cap] h K) (hk:K (vI (fstI g l)) h) :
    qBu prog 124 [s,.func (.func F) #[] #[cap]] h K:=by
  refine call_IdxF1 (by simp) ?_
  simp [qAk,qAn,qAl,qAi,qAf,qAe,qAb,qAc,qAa,qAj,qAg,qAd,qAu,qAv,resV,retV,qAm,qAh,qAt,qAs,qAr,qAq,qRk,hs.1];refine qFe (σ:=Nat) (fun k=>[(0,s),(1,.func (.func F) #[] #[cap]),(7,vI l.length),(8,vI k)]) (fun _=>h) (fun k=>k≤l.length∧∀ j y,j < k→l[j]?=some y→g y=false) (fun k=>l.length - k) 0 (by simp) rfl ⟨by omega,by omega⟩ ?_
  rintro k fr ⟨hk1,hne⟩
  by_cases hlt:k < l.length
  . obtain ⟨k1,hk1,wk⟩:=qCj (show k < lim by omega)
    obtain ⟨y,hy⟩:∃ y,l[k]?=some y:=⟨_,List.getElem?_eq_getElem hlt⟩;have hkf:(k:Int) < l.length:=by omega
    obtain ⟨a,ha1,ha2⟩:=hs.2 k y hy;simp [qAk,qAn,qAl,qAi,qAf,qAe,qAb,qAc,qAa,qAj,qAg,qAd,qAu,qAv,resV,retV,qAm,qAh,qAt,qAs,qAr,qAq,hkf,ha1,ha2];rw [pOps_callv (f:=F) (first:=#[]) (caps:=#[cap]) (by simp) hc]
    simp [qAk,qAn,qAl,qAi,qAf,qAe,qAb,qAc,qAa,qAj,qAg,qAd,qAu,qAv,resV,retV,qAm,qAh,qAt,qAs,qAr,qAq];refine hf y _ ?_;cases hg:g y with
    | true =>
      have e:l.findIdx? g=some k:=by
        rw [List.findIdx?_eq_some_iff_getElem];refine ⟨hlt,by rw [(List.getElem?_eq_some_iff.1 hy).2]; exact hg,fun j hj=>?_⟩
        rw [hne j (l[j]'(by omega)) hj (List.getElem?_eq_getElem _)]; simp
      simp [qAk,qAn,qAl,qAi,qAf,qAe,qAb,qAc,qAa,qAj,qAg,qAd,qAu,qAv,resV,retV,qAm,qAh,qAt,qAs,qAr,qAq,callK_def]
      simpa [fstI,e] using hk
    | false =>
      simp [qAk,qAn,qAl,qAi,qAf,qAe,qAb,qAc,qAa,qAj,qAg,qAd,qAu,qAv,resV,retV,qAm,qAh,qAt,qAs,qAr,qAq,callK_def,wk];refine .go k1 (by omega) (by simp) rfl ⟨by omega,fun j y' hj hy'=>?_⟩
      by_cases hjk:j=k
      . subst hjk; rw [hy] at hy'; cases hy'; exact hg
      . exact hne j y' (by omega) hy'
  . have e:l.findIdx? g=none:=by
      rw [List.findIdx?_eq_none_iff];intro x hm;obtain ⟨j,hj⟩:=List.mem_iff_getElem?.1 hm;exact hne j x (by have:=(List.getElem?_eq_some_iff.1 hj).1; omega) hj
    have hkf:¬ (k:Int) < l.length:=by omega
    simp [qAk,qAn,qAl,qAi,qAf,qAe,qAb,qAc,qAa,qAj,qAg,qAd,qAu,qAv,resV,retV,qAm,qAh,qAt,qAs,qAr,qAq,hkf]
    simpa [fstI,e] using hk
end
end Pm
/- What holds where: a row of numbers, with some left out.
   No condition: plain lemmas. -/
namespace Pm
set_option linter.unusedSimpArgs false
set_option linter.unusedVariables false
open Go Am
open Go.Proofs.Try (prog)

theorem rep_map {α:Type} {f:α→Value} (x:α):∀ n:Nat,rep n [f x]=(List.replicate n x).map f
  | 0=>rfl
  | n+1=>by simp [rep,rep_map x n,List.replicate_succ]
theorem set_same {α:Type} {l:List α} {j:Nat} {a:α} (h:l[j]?=some a):l.set j a=l:=by
  apply List.ext_getElem?;intro k;rw [List.getElem?_set]
  split
  . rename_i e; subst e
    rw [if_pos (List.getElem?_eq_some_iff.1 h).1,h]
  . rfl
structure Left (g:Int→Bool) (l l':List Int) (i j:Nat):Prop where
  ij:i≤j
  jn:j≤l.length
  len:l'.length=l.length
  tk:l'.take i=(l.take j).filter fun x=>!g x
  dr:∀ k,j≤k→l'[k]?=l[k]?
section
variable {h : Heap} {K : Value → Heap → Prop} {g : Int → Bool} {l l' : List Int} {i j : Nat}
theorem Left.start {k:Nat} (hk:l.findIdx? g=some k):Left g l l k (k+1):=by
  obtain ⟨h1,h2,h3⟩:=List.findIdx?_eq_some_iff_getElem.1 hk;refine ⟨by omega,by omega,rfl,?_,fun _ _=>rfl⟩
  rw [← List.take_append_getElem h1,List.filter_append];have e1:(l.take k).filter (fun x=>!g x)=l.take k:=by
    rw [List.filter_eq_self];intro x hx;obtain ⟨a,ha,hb⟩:=List.mem_take_iff_getElem.1 hx;have:=h3 a (by omega)
    rw [hb] at this
    simpa using this
  rw [e1];simp [h2]
theorem Left.skip (v:Left g l l' i j) {x:Int} (hx:l[j]?=some x) (hg:g x=true):Left g l l' i (j+1):=by
  obtain ⟨h1,h2⟩:=List.getElem?_eq_some_iff.1 hx;refine ⟨by have:=v.ij; omega,by omega,v.len,?_,fun k hk=>v.dr k (by omega)⟩
  rw [v.tk,← List.take_append_getElem h1,List.filter_append,h2];simp [hg]
theorem Left.keep (v:Left g l l' i j) {x:Int} (hx:l[j]?=some x) (hg:g x=false):Left g l (l'.set i x) (i+1) (j+1):=by
  obtain ⟨h1,h2⟩:=List.getElem?_eq_some_iff.1 hx;have hij:=v.ij;have hl:=v.len;refine ⟨by omega,by omega,by simp [hl],?_,fun k hk=>?_⟩
  . rw [← List.take_append_getElem h1,List.filter_append,h2,← v.tk,← List.take_append_getElem (by simp; omega),List.take_set,List.getElem_set_self]
    rw [List.set_eq_of_length_le (by simp; omega)]
    simp [hg]
  . rw [List.getElem?_set,if_neg (by omega)]; exact v.dr k (by omega)
theorem Left.le (v:Left g l l' i j):i≤l.length:=Nat.le_trans v.ij v.jn
theorem rd_row {L:List Ob} {j ver:Nat} (hj:L[j]?=some (bxQ (l.map vI) ver)):Rd (h++L) (.slice (some ⟨h.length+j,0,none⟩) l.length ver) l:=by
  refine ⟨rfl,fun i x hx=>⟨.pointer (some ⟨h.length+j,i,some ver⟩),?_,?_⟩⟩
  . have:=(List.getElem?_eq_some_iff.1 hx).1
    simp [qIf,qFn,qIz,this]
  . simp [pLd,qEs,ldV,cell_at,hj,qLt,hx]
set_option maxHeartbeats 1000000 in
theorem DelF1_call {L:List Ob} {ver:Nat} {F:FuncId} {cap:Value} (hc:qEi prog F=true) (hl:l.length < lim) (hj:L[j]?=some (bxQ (l.map vI) ver))
    (hf:∀ (l':List Int) (x:Int) (K:Value→Heap→Prop),K (vB (g x)) (h++L.set j (bxQ (l'.map vI) ver))→qBu prog F [vI x,cap] (h++L.set j (bxQ (l'.map vI) ver)) K)
    (hk:∀ l':List Int,l'.length=l.length→l'.take (l.filter fun x=>!g x).length=(l.filter fun x=>!g x)→K (.slice (some ⟨h.length+j,0,none⟩) (l.filter fun x=>!g x).length ver) (h++L.set j (bxQ (l'.map vI) ver))) :
    qBu prog 106 [.slice (some ⟨h.length+j,0,none⟩) l.length ver,.func (.func F) #[] #[cap]] (h++L) K:=by
  refine call_DelF1 (by simp) ?_
  simp [qAk,qAn,qAl,qAi,qAf,qAe,qAb,qAc,qAa,qAj,qAg,qAd,qAu,qAv,resV,retV,qAm,qAh,qAt,qAs,qAr,qAq,qRl];have hLj:L.set j (bxQ (l.map vI) ver)=L:=set_same hj;have hjl:j < L.length:=(List.getElem?_eq_some_iff.1 hj).1;refine IdxF1_call hc (by omega) (rd_row hj) (fun x K hK=>by have:=hf l x K; rw [hLj] at this; exact this hK) ?_
  cases hi:l.findIdx? g with
  | none =>
    have e:(l.filter fun x=>!g x)=l:=by
      rw [List.filter_eq_self];intro x hx;simp [List.findIdx?_eq_none_iff.1 hi x hx]
    have:=hk l rfl (by rw [e]; simp)
    rw [hLj,e] at this;simp [qAk,qAn,qAl,qAi,qAf,qAe,qAb,qAc,qAa,qAj,qAg,qAd,qAu,qAv,resV,retV,qAm,qAh,qAt,qAs,qAr,qAq,callK_def,fstI,hi];exact this
  | some k =>
    have hst:=Left.start hi;have hkl:k < l.length:=by have:=hst.jn; omega
    obtain ⟨k1,hk1,wk⟩:=qCj (show k < lim by omega)
    have hn1:¬ (k:Int)=-1:=by omega
    rw [← hk1] at hst;simp [qAk,qAn,qAl,qAi,qAf,qAe,qAb,qAc,qAa,qAj,qAg,qAd,qAu,qAv,resV,retV,qAm,qAh,qAt,qAs,qAr,qAq,callK_def,fstI,hi,hn1,wk];refine qFe (σ:=Nat×Nat×List Int) (fun x=>[(0,.slice (some ⟨h.length+j,0,none⟩) l.length ver),(1,.func (.func F) #[] #[cap]),(5,vI x.1),(6,vI x.2.1)]) (fun x=>h++L.set j (bxQ (x.2.2.map vI) ver)) (fun x=>Left g l x.2.2 x.1 x.2.1) (fun x=>l.length - x.2.1) (k,k1,l) (by simp) (by simp [hLj]) hst ?_
    rintro ⟨a,b,l'⟩ fr v;simp only at v ⊢;have hl':=v.len;have hab:=v.ij;have hbn:=v.jn;have hgj:(L.set j (bxQ (l'.map vI) ver))[j]?=some (bxQ (l'.map vI) ver):=by simp [hjl]
    by_cases hb:b < l.length
    . obtain ⟨b1,hb1,wb⟩:=qCj (show b < lim by omega)
      obtain ⟨a1,ha1,wa⟩:=qCj (show a < lim by omega)
      obtain ⟨x,hx⟩:∃ x,l[b]?=some x:=⟨_,List.getElem?_eq_getElem hb⟩;have hbf:(b:Int) < l.length:=by omega
      have hx':l'[b]?=some x:=by rw [v.dr b (Nat.le_refl _),hx]
      have hal:a < l.length:=by omega
      obtain ⟨pa,hp1,hp2⟩:=(rd_row (h:=h) hgj).2 b x hx';rw [hl'] at hp1;simp [qAk,qAn,qAl,qAi,qAf,qAe,qAb,qAc,qAa,qAj,qAg,qAd,qAu,qAv,resV,retV,qAm,qAh,qAt,qAs,qAr,qAq,hbf,hp1,hp2];rw [pOps_callv (f:=F) (first:=#[]) (caps:=#[cap]) (by simp) hc]
      simp [qAk,qAn,qAl,qAi,qAf,qAe,qAb,qAc,qAa,qAj,qAg,qAd,qAu,qAv,resV,retV,qAm,qAh,qAt,qAs,qAr,qAq];refine hf l' x _ ?_;cases hg:g x with
      | true =>
        simp [qAk,qAn,qAl,qAi,qAf,qAe,qAb,qAc,qAa,qAj,qAg,qAd,qAu,qAv,resV,retV,qAm,qAh,qAt,qAs,qAr,qAq,callK_def,wb];exact .go (a,b1,l') (by simp only []; omega) (by simp) rfl (by rw [hb1]; exact v.skip hx hg)
      | false =>
        have haf:(a:Int) < l.length:=by omega
        simp [qAk,qAn,qAl,qAi,qAf,qAe,qAb,qAc,qAa,qAj,qAg,qAd,qAu,qAv,resV,retV,qAm,qAh,qAt,qAs,qAr,qAq,callK_def,wb,wa,qIf,qFn,qIz,hal];rw [eK_optK,storeQ_at (g:=vI) (x:=x) hgj rfl rfl (by omega)]
        simp [qAk,qAn,qAl,qAi,qAf,qAe,qAb,qAc,qAa,qAj,qAg,qAd,qAu,qAv,resV,retV,qAm,qAh,qAt,qAs,qAr,qAq,wa,wb];exact .go (a1,b1,l'.set a x) (by simp only []; omega) (by simp) (by simp [List.map_set]) (by rw [hb1,ha1]; exact v.keep hx hg)
    . have hbl:b=l.length:=by omega
      subst hbl;have htk:=v.tk;rw [List.take_length] at htk;have hal:a≤l.length:=v.le;have hla:(l.filter fun x=>!g x).length=a:=by rw [← htk,List.length_take]; omega
      have e1:((l':List Int).take a++List.replicate (l.length - a) 0).length=l.length:=by simp; omega
      have hfin:=hk (l'.take a++List.replicate (l.length - a) 0) e1 (by rw [hla,List.take_left' (by simp; omega)]; exact htk)
      rw [hla] at hfin;have hcut:=qUe (ver:=ver) (h:=h) (rs:=L.set j (bxQ (l'.map vI) ver)) (j:=j) (off:=0) (len:=l.length) (e:=1) (lo:=some (.int .i64 (a:Int))) (hi:=none) (a:=a) (b:=l.length) (r:=⟨l'.map vI,1,ver,true⟩) (by rw [hgj]; exact qLt) rfl (by simp) (by simp) hal
      have hcut2:=qUe (ver:=ver) (h:=h) (rs:=L.set j (bxQ ((l'.take a++List.replicate (l.length - a) 0).map vI) ver)) (j:=j) (off:=0) (len:=l.length) (e:=1) (lo:=none) (hi:=some (.int .i64 (a:Int))) (a:=0) (b:=a) (r:=⟨(l'.take a++List.replicate (l.length - a) 0).map vI,1,ver,true⟩) (by simp [hjl,qLt]) rfl (by simp) (by simp; omega) (by omega)
      have hclr:qKj (h++L.set j (bxQ (l'.map vI) ver)) [.int .i64 0] (.slice (some ⟨h.length+j,a,none⟩) (l.length - a) ver)=some (h++L.set j (bxQ ((l'.take a++List.replicate (l.length - a) 0).map vI) ver)):=by
        simp only [qKj,qLs,hgj,qLt]
        by_cases h0:l.length - a=0
        . rw [if_pos h0,h0,List.take_of_length_le (by omega)]; simp
        . rw [if_neg h0]
          simp only [List.length_map,List.length_singleton,Nat.mul_one,true_and];rw [if_pos (by omega),List.set_append_right _ _ (Nat.le_add_right _ _),Nat.add_sub_cancel_left,List.set_set,rep_map (f:=vI) 0,qFk _ _ _ (by simp; omega),over]
          simp only [List.length_map,List.length_replicate];rw [List.drop_eq_nil_of_le (by simp; omega)]
          simp [bxQ]
      obtain ⟨z,hz⟩:∃ z,z=l'.take a++List.replicate (l.length - a) 0:=⟨_,rfl⟩;rw [← hz] at hclr hcut2 hfin;simp [qAk,qAn,qAl,qAi,qAf,qAe,qAb,qAc,qAa,qAj,qAg,qAd,qAu,qAv,resV,retV,qAm,qAh,qAt,qAs,qAr,qAq,qLz,hcut,hclr,hcut2];exact hfin
end
end Pm
/- What holds where: next places that are places.
   No condition: plain lemmas. -/
namespace Pm
set_option linter.unusedSimpArgs false
set_option linter.unusedVariables false
open Go Am
open Go.Proofs.Try (prog)

theorem cell_old {h L:Heap} {b off ver:Nat} (hb:b < h.length):(h++L).cell? b off ver=h.cell? b off ver:=by
  simp only [Heap.cell?,Heap.row?,List.getElem?_append_left hb]
theorem cell_keep {h h':Heap} {b off ver:Nat} (hb:h'[b]?=h[b]?):h'.cell? b off ver=h.cell? b off ver:=by
  simp only [Heap.cell?,Heap.row?,hb]
theorem AccL.more {α:Type} {f:α→Value} {b b':Nat} {h:Heap} {v:Value} {l:List α} (ha:AccL f b' h v l) (hb:b≤b'):AccL f b h v l:=by
  rcases ha with h1 | ⟨id,ver,h1,h2,h3,h4⟩
  . exact Or.inl h1
  . exact Or.inr ⟨id,ver,h1,Nat.le_trans hb h2,h3,h4⟩
theorem frz_Q {α:Type} {f:α→Value} {h:Heap} {L:List Ob} {j ver m e:Nat} {l:List α} (hc:∀ x,qCk (f x)=true) (hj:L[j]?=some (bxQ (l.map f) ver)) (hm:m≤l.length) :
    frzV (h++L) e (.slice (some ⟨h.length+j,0,none⟩) m ver)=some (vL f (l.take m),h++L.set j (.row ⟨l.map f,1,ver,false⟩)):=by
  simp only [frzV,frzC,qLs,hj,qLt,seg,List.drop_zero,Nat.mul_one,Nat.zero_add];rw [if_pos ⟨by simpa using hm,by rw [← List.map_take]; exact qHv hc _⟩,List.set_append_right _ _ (Nat.le_add_right _ _),Nat.add_sub_cancel_left]
  simp [vL,List.map_take,Nat.min_eq_left hm]
section
variable {h : Heap} {K : Value → Heap → Prop}
theorem DelF1_nil {F:FuncId} {cap:Value} (hc:qEi prog F=true) (hk:K nilS h):qBu prog 106 [nilS,.func (.func F) #[] #[cap]] h K:=by
  have hr:=IdxF1_call (h:=h) (g:=fun _=>false) (l:=[]) (s:=nilS) (cap:=cap) (K:=fun v h'=>v=vI (-1)∧h'=h) hc (by simp) ⟨rfl,fun i x hx=>by simp at hx⟩
  refine call_DelF1 (by simp) ?_
  simp [qAk,qAn,qAl,qAi,qAf,qAe,qAb,qAc,qAa,qAj,qAg,qAd,qAu,qAv,resV,retV,qAm,qAh,qAt,qAs,qAr,qAq,qRl];refine call_IdxF1 (by simp) ?_
  simp [qAk,qAn,qAl,qAi,qAf,qAe,qAb,qAc,qAa,qAj,qAg,qAd,qAu,qAv,resV,retV,qAm,qAh,qAt,qAs,qAr,qAq,qRk];refine loop_n 1 ?_;rw [qHu];simp [qAk,qAn,qAl,qAi,qAf,qAe,qAb,qAc,qAa,qAj,qAg,qAd,qAu,qAv,resV,retV,qAm,qAh,qAt,qAs,qAr,qAq,callK_def];exact hk
theorem fInside1_call {s:List (List Int)} {x:Int} {b:Nat} (hb:h.cell? b 0 0=some (vL (vL vI) s)) (hk:K (vB (decide (x < 0∨(s.length:Int)≤x))) h):qBu prog 108 [vI x,.pointer (some ⟨b,0,some 0⟩)] h K:=by
  refine call_fInside1 (by simp) ?_
  by_cases h0:x < 0
  . have e:decide (x < 0∨(s.length:Int)≤x)=true:=by simp [h0]
    rw [e] at hk;simp [qJc,qAu,qAv,resV,retV,h0,hk]
  . by_cases h1:(s.length:Int)≤x
    . have e:decide (x < 0∨(s.length:Int)≤x)=true:=by simp [h1]
      rw [e] at hk;simp [qJc,qAu,qAv,resV,retV,h0,hk,pLd,qEs,ldV,hb,h1]
    . have e:decide (x < 0∨(s.length:Int)≤x)=false:=by simp [h0]; omega
      rw [e] at hk;have h1':x < s.length:=by omega
      simp [qJc,qAu,qAv,resV,retV,h0,hk,pLd,qEs,ldV,hb,h1,h1']
set_option maxHeartbeats 1000000 in
theorem inside_call {s:List (List Int)} (hl:s.length < lim) (hs:∀ l∈s,l.length < lim) (hk:K (vL (vL vI) (qEz s)) h):qBu prog 87 [vL (vL vI) s] h K:=by
  refine Pure.go (Pure.list (fun x=>rfl) fun h=>?_) hk
  refine call_fInside (by simp) ?_
  have hcb:qEi prog 108=true:=by kernel_rfl
  simp [qOv,pLd,qEs,ldV];obtain ⟨h0,hh0⟩:∃ h0,h0=Am.newRow h [vL (vL vI) s] 1:=⟨_,rfl⟩;have hh1:h0.length=h.length+1:=by rw [hh0]; simp [Am.newRow]
  have hbx:h0.cell? h.length 0 0=some (vL (vL vI) s):=by rw [hh0]; simp [Am.newRow,Heap.cell?,Heap.row?]
  rw [← hh0];simp [hbx];refine qFe (σ:=Nat×Value×Heap) (fun x=>[(1,.pointer (some ⟨h.length,0,some 0⟩)),(3,x.2.1),(6,vL (vL vI) s),(7,vI s.length),(8,vI x.1)]) (fun x=>x.2.2)
    (fun x=>x.1≤s.length∧AccL (vL vI) (h.length+1) x.2.2 x.2.1 ((qEz s).take x.1)∧qCx (h.length+1) h0 x.2.2) (fun x=>s.length - x.1) (0,nilS,h0) (by simp) rfl ⟨by simp,by simpa using AccL.nil,.refl _ _⟩ ?_
  rintro ⟨k,v,hp⟩ fr ⟨hk,ha,kp⟩;simp only at hk ha kp ⊢;have hpl:h.length+1≤hp.length:=by have:=kp.1; omega
  have hbp:hp.cell? h.length 0 0=some (vL (vL vI) s):=by rw [cell_keep (kp.2 h.length (by omega))]; exact hbx
  by_cases hlt:k < s.length
  . obtain ⟨k1,hk1,wk⟩:=qCj (show k < lim by omega)
    obtain ⟨l,hll⟩:∃ l,s[k]?=some l:=⟨_,List.getElem?_eq_getElem hlt⟩;have hkf:(k:Int) < s.length:=by omega
    have hln:=hs l (List.mem_of_getElem? hll);obtain ⟨l1,hl1⟩:∃ l1,l1=l.filter fun x:Int=>decide (0≤x∧x < (s.length:Int)):=⟨_,rfl⟩
    have htk:(qEz s).take k1=(qEz s).take k++[l1]:=by
      have hkl:k < (qEz s).length:=by rw [qIy]; exact hlt
      have h1:(qEz s)[k]?=some l1:=by unfold qEz; rw [List.getElem?_map,hll,hl1]; rfl
      have h2:=(List.getElem?_eq_some_iff.1 h1).2;rw [hk1,← List.take_append_getElem hkl,h2]
    have hnew:((qEz s).take k).length < lim:=by simp [qIy]; omega
    simp [hkf,hll];refine Clone1_call (by omega) (fun e=>?_) ?_
    . subst e
      have e1:l1=[]:=by rw [hl1]; rfl
      simp [callK_def];refine DelF1_nil hcb ?_;simp [callK_def];refine ha.pushK (f:=vL vI) (by omega) hnew (x:=([]:List Int)) (by simp) fun v' h' a1 a2 _ _=>?_
      simp [wk];exact .go (k1,v',h') (by simp only []; omega) (by simp) rfl ⟨by simp only []; omega,by simp only [htk,e1]; exact a1,kp.trans a2⟩
    . simp [callK_def]
      have hlen:(hp++[bxQ (l.map vI) 1]).length=hp.length+1:=by simp
      have hbL:∀ L,(hp++L).cell? h.length 0 0=some (vL (vL vI) s):=fun L=>by rw [cell_old (by omega)]; exact hbp
      refine DelF1_call (h:=hp) (L:=[bxQ (l.map vI) 1]) (j:=0) (g:=fun x=>decide (x < 0∨(s.length:Int)≤x)) hcb hln rfl (fun l' x K hK=>fInside1_call (hbL _) hK) fun l' e1 e2=>?_
      have e3:(l.filter fun x=>!decide (x < 0∨(s.length:Int)≤x))=l1:=by
        rw [hl1];refine List.filter_congr fun x _=>?_
        by_cases h1:x < 0<;>by_cases h2:(s.length:Int)≤x<;>simp [h1,h2]<;>omega
      rw [e3] at e2 ⊢;have hml:l1.length≤l'.length:=by rw [e1,hl1]; exact List.length_filter_le _ _
      simp [callK_def];have hfz:=frz_Q (h:=hp) (L:=[bxQ (l'.map vI) 1]) (f:=vI) (j:=0) (ver:=1) (m:=l1.length) (e:=1) (l:=l') (fun _=>rfl) rfl hml
      rw [e2] at hfz;simp at hfz;simp [hfz];refine (AccL.ext ha (qCx.app)).pushK (by simp; omega) hnew (x:=l1) (by simp) fun v' h' a1 a2 _ _=>?_
      simp [wk];have kq:qCx (h.length+1) hp (hp++[Ob.row ⟨l'.map vI,1,1,false⟩]):=⟨by simp,fun i hi=>List.getElem?_append_left (by omega)⟩
      exact .go (k1,v',h') (by simp only []; omega) (by simp) rfl ⟨by simp only []; omega,by simp only [htk]; exact a1,kp.trans (kq.trans a2)⟩
  . have hkn:k=s.length:=by omega
    subst hkn;rw [List.take_of_length_le (by rw [qIy]; exact Nat.le_refl _)] at ha
    simp [qAu,qAv,resV,retV];refine ⟨⟨by omega,fun i hi=>?_⟩,ha.more (by omega)⟩
    rw [kp.2 i (by omega),hh0]
    exact List.getElem?_append_left hi
end
end Pm
/- What holds where: the solver's small methods.
   No condition: plain lemmas. -/
namespace Pm
set_option linter.unusedSimpArgs false
set_option linter.unusedVariables false
open Go Am
open Go.Proofs.Try (prog)

abbrev ptr (b:Nat):Value:=.pointer (some ⟨b,0,some 0⟩)
theorem cell_lock {h:Heap} {b off ver:Nat}:(lockAll h).cell? b off ver=h.cell? b off ver:=by
  simp only [Heap.cell?,Heap.row?,qKv];cases h[b]? with
  | none=>rfl
  | some o=>cases o with
    | row r=>by_cases hr:r.ver=ver<;>simp [hr]
    | _=>rfl
section
variable {h : Heap} {K : Value → Heap → Prop} {p : Prob} {b : Nat}
theorem fAll_call (h4:h.cell? b 4 0=some (vB p.must)) (hk:K (vU p.all) h):qBu prog 88 [ptr b] h K:=by
  refine call_fAll (by simp) ?_
  cases hm:p.must with
  | true =>
    rw [hm] at h4;simp [qTi,h4];refine All_call (n:=64) (by omega) ?_
    simp [callK_def,qAu,qAv,resV,retV]
    simpa [Prob.all,hm] using hk
  | false =>
    rw [hm] at h4;simp [qTi,h4,qAu,qAv,resV,retV]
    simpa [Prob.all,hm,vU] using hk
theorem fAll_still (h4:h.cell? b 4 0=some (vB p.must)) (hk:K (vU p.all) h):qKn prog 88 [ptr b] h K :=
  qKn.lock (fAll_call (by rw [cell_lock]; exact h4) ⟨rfl,hk⟩)
theorem fMeet_call {x y:Nat} (hx:x < big) (hy:y < big) (h4:h.cell? b 4 0=some (vB p.must)) (hk:K (vU (p.meet x y)) h):qBu prog 110 [ptr b,vU x,vU y] h K:=by
  refine call_fMeet (by simp) ?_
  have e1:=bits_and hx hy;have e2:=qSu hx hy;cases hm:p.must with
  | true =>
    rw [hm] at h4;simp [qRg,h4,qAu,qAv,resV,retV,e1]
    simpa [Prob.meet,hm] using hk
  | false =>
    rw [hm] at h4;simp [qRg,h4,qAu,qAv,resV,retV,e2]
    simpa [Prob.meet,hm] using hk
theorem fEdge_call {i:Nat} (ok:p.Ok) (hi:i < p.n) (h5:h.cell? b 5 0=some (vB p.back)) (h0:h.cell? b 0 0=some (vL (vL vI) p.succs)) (hk:K (vB (p.edge i)) h):qBu prog 109 [ptr b,vI i] h K:=by
  refine call_fEdge (by simp) ?_
  cases hm:p.back with
  | true =>
    rw [hm] at h5;obtain ⟨l,hl⟩:∃ l,p.succs[i]?=some l:=⟨_,List.getElem?_eq_getElem hi⟩;have hs:=ok.short l (List.mem_of_getElem? hl);simp [qRh,h5,h0,hl];refine Cont1_call (l:=l) (by omega) ?_
    simp [callK_def,qAu,qAv,resV,retV];have e:p.edge i=decide ((p.succs.length:Int)∈l):=by simp [Prob.edge,hm,Prob.n,qHn hl]
    rw [← e]; exact hk
  | false =>
    rw [hm] at h5;have e:p.edge i=decide (i=0):=by simp [Prob.edge,hm]
    simp [qRh,h5,h0,qAu,qAv,resV,retV];rw [e] at hk; simpa using hk
end

/-! ### The solver's rows -/
def svC (b:Nat) (p:Prob) (qv:Value):List Value :=
  [vL (vL vI) p.succs,vL vU p.gen,vL vU p.kill,vU p.start,vB p.must,vB p.back,vL (vL vI) p.froms,vL (vL vI) p.tos,.slice (some ⟨b+1,0,none⟩) p.n 0,.slice (some ⟨b+2,0,none⟩) p.n 0,qv,.slice (some ⟨b+3,0,none⟩) p.n 0]
def svL (b:Nat) (p:Prob) (a:Ob) (inn out:List Nat) (w:List Bool) (qv:Value) (rest:List Ob):List Ob :=
  a :: bxL vU inn :: bxL vU out :: bxL vB w :: bx (svC b p qv) 12 :: rest
inductive QV (b:Nat) (rest:List Ob):Value→List Nat→Prop
  | nil:QV b rest nilS []
  | row {k ver:Nat} {pre:List Value} {q:List Nat} (hk:rest[k]?=some (bxQ (pre++q.map fun i:Nat=>vI i) ver)):QV b rest (.slice (some ⟨b+(k+5),pre.length,none⟩) q.length ver) q
section
variable {h : Heap} {K : Value → Heap → Prop} {p : Prob} {a : Ob} {inn out q : List Nat} {w : List Bool} {qv : Value} {rest : List Ob}
theorem qEb {off:Nat}:(h++svL h.length p a inn out w qv rest).cell? (h.length+4) off 0=(svC h.length p qv)[off]?:=by
  rw [qAi]; simp [svL,qAj]
theorem qKs {L:List Ob} {m n:Nat} {cs:List Value} (hj:L[m]?=some (bx cs 1)) (hl:cs.length=n):qDu (h++L) 1 (.slice (some ⟨h.length+m,0,none⟩) n 0)=some (n,cs):=by
  rw [qIv,cells_at,hj,qSh];simp [hl,List.take_of_length_le]
theorem QV.more (v:QV h.length rest qv q) (L:List Ob):QV h.length (rest++L) qv q:=by
  cases v with
  | nil=>exact .nil
  | row hk=>exact .row (by rw [List.getElem?_append_left (List.getElem?_eq_some_iff.1 hk).1]; exact hk)
set_option maxHeartbeats 1000000 in
theorem fPush_call {i:Nat} (hi:i < p.n) (hw:w.length=p.n) (hq:q.length < lim) (hqv:QV h.length rest qv q)
    (hk:∀ qv' rest',QV h.length rest' qv' (qEl q w [(i:Int)]).1→K (.tuple #[]) (h++svL h.length p a inn out (qEl q w [(i:Int)]).2 qv' rest')) :
    qBu prog 89 [ptr (h.length+4),vI i] (h++svL h.length p a inn out w qv rest) K:=by
  refine call_fPush (by simp) ?_
  obtain ⟨x,hx⟩:∃ x,w[i]?=some x:=⟨_,List.getElem?_eq_getElem (by omega)⟩
  have hin:(i:Int) < p.n:=by omega
  have hgx:w[i]'(by omega)=x:=(List.getElem?_eq_some_iff.1 hx).2
  cases x with
  | true =>
    have e:qEl q w [(i:Int)]=(q,w):=by simp [qEl,qUn,hx]
    rw [e] at hk;simp [qAk,qAn,qAl,qAi,qAf,qAe,qAb,qAc,qAa,qAj,qAg,qAd,qAu,qAv,resV,retV,qAm,qAh,qAt,qAs,qAr,qAq,qRf,svL,svC,hi,qKk,hx];exact hk qv rest hqv
  | false =>
    have e:qEl q w [(i:Int)]=(q++[i],w.set i true):=by simp [qEl,qUn,hx]
    rw [e] at hk;simp [qAk,qAn,qAl,qAi,qAf,qAe,qAb,qAc,qAa,qAj,qAg,qAd,qAu,qAv,resV,retV,qAm,qAh,qAt,qAs,qAr,qAq,qRf,svL,svC,hi,qKk,hx,storeB_bxB,hw,hgx];cases hqv with
    | nil =>
      rw [eK_optK,pushN (n:=1) (new:=[vI (i:Int)]) (qKs (m:=rest.length+1+1+1+1+1) (cs:=[vI (i:Int)]) (by simp) rfl) (by omega) (by simp [lim])]
      have key:=hk (.slice (some ⟨h.length+(rest.length+1+5),([]:List Value).length,none⟩) ([i]:List Nat).length 0) (rest++[bx [vI (i:Int)] 1]++[bxQ ([]++[i].map fun i:Nat=>vI i) 0]) (QV.row (by simp))
      simp [qAk,qAn,qAl,qAi,qAf,qAe,qAb,qAc,qAa,qAj,qAg,qAd,qAu,qAv,resV,retV,qAm,qAh,qAt,qAs,qAr,qAq,Nat.add_assoc]
      simpa [svL,svC,bx,bxQ,Nat.add_assoc] using key
    | @row k ver pre q hkk =>
      have hkl:=(List.getElem?_eq_some_iff.1 hkk).1;rw [eK_optK,pushQ_at (j:=k+5) (n:=1) (new:=[vI (i:Int)]) (pre:=pre) (q:=q.map fun i:Nat=>vI i) (ver:=ver) (by simp [List.getElem?_append_left hkl,hkk]) (qKs (m:=rest.length+1+1+1+1+1) (cs:=[vI (i:Int)]) (by simp) rfl) rfl (by simp) (by omega)]
      have key:=hk (.slice (some ⟨h.length+(k+5),([]:List Value).length,none⟩) (q++[i]).length (ver+1)) ((rest++[bx [vI (i:Int)] 1]).set k (bxQ ([]++(q++[i]).map fun i:Nat=>vI i) (ver+1))) (QV.row (by rw [List.getElem?_set_self (by simp; omega)]))
      simp [qAk,qAn,qAl,qAi,qAf,qAe,qAb,qAc,qAa,qAj,qAg,qAd,qAu,qAv,resV,retV,qAm,qAh,qAt,qAs,qAr,qAq]
      simpa [svL,svC] using key
end
end Pm
/- What holds where: a place is looked at.
   No condition: plain lemmas. -/
namespace Pm
set_option linter.unusedSimpArgs false
set_option linter.unusedVariables false
open Go Am
open Go.Proofs.Try (prog)

section
variable {h : Heap} {K : Value → Heap → Prop} {p : Prob} {a : Ob} {inn out q : List Nat} {w : List Bool} {qv : Value} {rest : List Ob}
theorem cell_in {off:Nat}:(h++svL h.length p a inn out w qv rest).cell? (h.length+1) off 0=(inn[off]?).map vU:=by
  rw [qAi]; simp [svL,qKk]
theorem qFd {off:Nat}:(h++svL h.length p a inn out w qv rest).cell? (h.length+2) off 0=(out[off]?).map vU:=by
  rw [qAi]; simp [svL,qKk]
theorem qJb {off:Nat}:(h++svL h.length p a inn out w qv rest).cell? (h.length+3) off 0=(w[off]?).map vB:=by
  rw [qAi]; simp [svL,qKk]
theorem qFa {off x:Nat}:qCm (h++svL h.length p a inn out w qv rest) 1 (.pointer (some ⟨h.length+1,off,some 0⟩)) (.int .u64 x)=if off < inn.length then some (h++svL h.length p a (inn.set off x) out w qv rest) else none:=by
  rw [qAc]; simp [svL,storeB_U]
theorem qEn {off x:Nat}:qCm (h++svL h.length p a inn out w qv rest) 1 (.pointer (some ⟨h.length+2,off,some 0⟩)) (.int .u64 x)=if off < out.length then some (h++svL h.length p a inn (out.set off x) w qv rest) else none:=by
  rw [qAc]; simp [svL,storeB_U]
theorem qHc {off:Nat} {x:Bool}:qCm (h++svL h.length p a inn out w qv rest) 1 (.pointer (some ⟨h.length+3,off,some 0⟩)) (.bool x)=if off < w.length then some (h++svL h.length p a inn out (w.set off x) qv rest) else none:=by
  rw [qAc]; simp [svL,storeB_bxB]
theorem froms_at {i:Nat} (hi:i < p.n):p.froms[i]?=some (qEd p.froms i):=by
  have hl:i < p.froms.length:=by
    unfold Prob.froms; split
    . rw [qIy]; exact hi
    . rw [qOe]; exact hi
  simp [qEd,List.getElem?_eq_getElem hl]
theorem tos_at {i:Nat} (hi:i < p.n):p.tos[i]?=some (qEd p.tos i):=by
  have hl:i < p.tos.length:=by
    unfold Prob.tos; split
    . rw [qOe]; exact hi
    . rw [qIy]; exact hi
  simp [qEd,List.getElem?_eq_getElem hl]
theorem xv_len (ok:p.Ok) {i:Nat} (hi:i < p.n) (l:List Int) (hl:l=qEd p.froms i∨l=qEd p.tos i):l.length < lim:=by
  have hb:∀ j,(qFq p.succs p.succs.length j).length < lim:=fun j=>by
    have:=qOz p.succs p.succs.length j;have:=ok.few;unfold Prob.n at this;simp [lim]; omega
  have hs:(qEd (qEz p.succs) i).length < lim:=by
    rw [nexts_inside];obtain ⟨l,hl⟩:∃ l,p.succs[i]?=some l:=⟨_,List.getElem?_eq_getElem hi⟩;rw [qHn hl];exact Nat.lt_of_le_of_lt (List.length_filter_le _ _) (ok.short l (List.mem_of_getElem? hl))
  rcases hl with rfl | rfl
  . unfold Prob.froms; split
    . exact hs
    . rw [qHi hi]; exact hb i
  . unfold Prob.tos; split
    . rw [qHi hi]; exact hb i
    . exact hs
theorem qVa {l:List Nat} {i:Nat} (hi:i < l.length):l[i]?=some (gN l i):=by simp [gN,List.getElem?_eq_getElem hi]
theorem pushes_take {l:List Int} {j:Nat} {x:Int} (hx:l[j]?=some x):qEl q w (l.take (j+1))=qEl (qEl q w (l.take j)).1 (qEl q w (l.take j)).2 [x]:=by
  obtain ⟨h1,h2⟩:=List.getElem?_eq_some_iff.1 hx;rw [← List.take_append_getElem h1,h2,pushes_snoc,show ∀ (q:List Nat) (w:List Bool),qEl q w [x]=if w[x.toNat]?=some true then (q,w) else (q++[x.toNat],w.set x.toNat true) from fun _ _=>rfl]

set_option maxHeartbeats 2000000 in
theorem fLook_call {i:Nat} (ok:p.Ok) (v:FOne p inn out q w i) (hi:i < p.n) (hqv:QV h.length rest qv q)
    (hk:∀ inn' out' q' w' qv' rest',FInv p inn' out' q' w'→QV h.length rest' qv' q'→(out'=out∧q'=q∨wts p out' < wts p out)→K (.tuple #[]) (h++svL h.length p a inn' out' w' qv' rest')) :
    qBu prog 90 [ptr (h.length+4),vI i] (h++svL h.length p a inn out w qv rest) K:=by
  refine call_fLook (by simp) ?_
  have hc:∀ (inn out:List Nat) (w:List Bool) (qv:Value) (rest:List Ob) (off:Nat),(h++svL h.length p a inn out w qv rest).cell? (h.length+4) off 0=(svC h.length p qv)[off]?:=fun _ _ _ _ _ _=>qEb
  have hin:i < inn.length:=by rw [v.ilen]; exact hi
  have hon:i < out.length:=by rw [v.olen]; exact hi
  have hif:(i:Int) < p.n:=by omega
  obtain ⟨l,hl⟩:∃ l,l=qEd p.froms i:=⟨_,rfl⟩;have hfa:=froms_at hi;rw [← hl] at hfa;have hll:l.length < lim:=xv_len ok hi l (.inl hl);obtain ⟨l2,hl2⟩:∃ l,l=qEd p.tos i:=⟨_,rfl⟩;have hta:=tos_at hi;rw [← hl2] at hta;have hll2:l2.length < lim:=xv_len ok hi l2 (.inr hl2);simp [qAu,qAv,resV,retV,qAh,qAt,qAs,qAr,qAq,qSp];refine fAll_call (p:=p) (by rw [qEb]; rfl) ?_
  simp [qAu,qAv,resV,retV,qAh,qAt,qAs,qAr,qAq,callK_def];refine fEdge_call ok hi (by rw [qEb]; rfl) (by rw [qEb]; rfl) ?_
  obtain ⟨x0,hx0⟩:∃ x,x=p.xv0 i:=⟨_,rfl⟩;simp [-qAy,qAu,qAv,resV,retV,qAh,qAt,qAs,qAr,qAq,callK_def];refine cK_join [(0,ptr (h.length+4)),(1,vI i),(4,vU (p.xv0 i))] (h++svL h.length p a inn out w qv rest) (fun e=>?_) (fun e=>?_) fun fr=>?_
  . simp [qAu,qAv,resV,retV,qAh,qAt,qAs,qAr,qAq,qEb,cell_in,qFd,qJb,qFa,qEn,qHc,svC]
    refine fMeet_call (p:=p) all_lt' ok.start (by rw [qEb]; rfl) ?_
    simp [qAu,qAv,resV,retV,qAh,qAt,qAs,qAr,qAq,callK_def];simp [Prob.xv0,e]
  . simp [qAu,qAv,resV,retV,qAh,qAt,qAs,qAr,qAq]
    simp [Prob.xv0,e]
  rw [qAy];simp [-qAy,qAu,qAv,resV,retV,qAh,qAt,qAs,qAr,qAq,qEb,cell_in,qFd,qJb,qFa,qEn,qHc,svC,hfa];refine qFe (σ:=Nat) (fun t=>[(0,ptr (h.length+4)),(1,vI i),(4,vU (p.xvT out i t)),(29,vL vI l),(30,vI l.length),(31,vI t)]) (fun _=>h++svL h.length p a inn out w qv rest) (fun t=>t≤l.length) (fun t=>l.length - t) 0 (by simp [Prob.xvT]) rfl (by simp) ?_
  . intro t fr ht
    by_cases hlt:t < l.length
    . obtain ⟨t1,ht1,wt⟩:=qCj (show t < lim by omega)
      obtain ⟨x,hx⟩:∃ x,l[t]?=some x:=⟨_,List.getElem?_eq_getElem hlt⟩;have htf:(t:Int) < l.length:=by omega
      obtain ⟨x,rfl,hxn⟩:=qMc hi (by rw [← hl]; exact List.mem_of_getElem? hx)
      have hxf:(x:Int) < p.n:=by omega
      have hox:=qVa (l:=out) (i:=x) (by rw [v.olen]; exact hxn)
      have hsu:=xvT_succ (out:=out) (p:=p) (i:=i) (t:=t) (j:=(x:Int)) (by rw [← hl]; exact hx)
      rw [← ht1] at hsu;simp [qAu,qAv,resV,retV,qAh,qAt,qAs,qAr,qAq,htf,hx,qEb,cell_in,qFd,qJb,qFa,qEn,qHc,svC,hxn,hox];refine fMeet_call (p:=p) (qPn ok v.olt) (v.olt x) (by rw [qEb]; rfl) ?_
      simp [qAu,qAv,resV,retV,qAh,qAt,qAs,qAr,qAq,callK_def,wt];exact .go t1 (by omega) (by simp [hsu]) rfl (by omega)
    . have htf:¬ (t:Int) < l.length:=by omega
      have htl:t=l.length:=by omega
      obtain ⟨x,hx⟩:∃ x,x=p.xv out i:=⟨_,rfl⟩;have hxT:p.xvT out i t=x:=by rw [htl,hl,hx]; rfl
      have hxb:x < big:=by rw [hx]; exact qPn ok v.olt
      have hoi:=qVa hon;have ha1:=bits_andNot hxb (ok.kill i);have ha2:=qSu (qSw hxb (b:=gN p.kill i)) (ok.gen i);simp [qAu,qAv,resV,retV,qAh,qAt,qAs,qAr,qAq,htf,qEb,cell_in,qFd,qJb,qFa,qEn,qHc,svC,hi,hin,hxT];refine qHg (by simp [qEb,svC]) (qKn.lock (fAt_call ⟨rfl,?_⟩))
      simp [qAu,qAv,resV,retV,qAh,qAt,qAs,qAr,qAq,ha1];refine fAt_call ?_;obtain ⟨y,hy⟩:∃ y,y=p.thru i x:=⟨_,rfl⟩;have hy':andN x (gN p.kill i) ||| gN p.gen i=y:=by rw [hy]; rfl
      have ha3:bits .u64 .or ((andN x (gN p.kill i):Nat):Int) ((gN p.gen i:Nat):Int)=(y:Int):=by rw [ha2,hy']
      have hgo:out[i]'hon=gN out i:=(List.getElem?_eq_some_iff.1 hoi).2
      by_cases hyo:y=gN out i
      . simp [qAu,qAv,resV,retV,qAh,qAt,qAs,qAr,qAq,callK_def,ha3,qEb,cell_in,qFd,qJb,qFa,qEn,qHc,svC,hi,hoi,hyo,hgo]
        have:=v.same hi ok (by rw [← hx,← hy]; exact hyo)
        rw [← hx] at this;exact hk _ _ _ _ _ _ this hqv (.inl ⟨rfl,rfl⟩)
      . have hyo':¬ (y:Int)=(gN out i:Int):=by omega
        simp [qAu,qAv,resV,retV,qAh,qAt,qAs,qAr,qAq,callK_def,ha3,qEb,cell_in,qFd,qJb,qFa,qEn,qHc,svC,hi,hoi,hyo',hon,hta,hgo];have hnew:=v.new hi ok;rw [← hx,← hy,← hl2] at hnew;have hwt:wts p (out.set i y) < wts p out:=by
          refine wts_set hoi (wt_lt (v.olt i) (by rw [hy]; exact thru_lt ok hxb) (fun k hk1 hk2=>?_) hyo)
          rw [hy,hx]; exact v.mono i k hi hk1 hk2
        refine qFe (σ:=Nat×Value×List Ob) (fun x=>[(0,ptr (h.length+4)),(92,vL vI l2),(93,vI l2.length),(94,vI x.1)]) (fun z=>h++svL h.length p a (inn.set i x) (out.set i y) (qEl q w (l2.take z.1)).2 z.2.1 z.2.2) (fun z=>z.1≤l2.length∧QV h.length z.2.2 z.2.1 (qEl q w (l2.take z.1)).1) (fun z=>l2.length - z.1) (0,qv,rest) (by simp) (by simp [qMo]) ⟨by simp,by simpa [qMo] using hqv⟩ ?_
        rintro ⟨t,qv1,rest1⟩ fr ⟨ht,hqv1⟩;simp only at ht hqv1 ⊢
        by_cases hlt:t < l2.length
        . obtain ⟨t1,ht1,wt⟩:=qCj (show t < lim by omega)
          obtain ⟨z,hz⟩:∃ z,l2[t]?=some z:=⟨_,List.getElem?_eq_getElem hlt⟩;have htf:(t:Int) < l2.length:=by omega
          have hpt:=pushes_take (q:=q) (w:=w) hz;rw [← ht1] at hpt;obtain ⟨z,rfl,hzn⟩:=to_mem hi (by rw [← hl2]; exact List.mem_of_getElem? hz)
          obtain ⟨P1,P2⟩:=pushes_inv (n:=p.n) ⟨v.wlen,v.nodup,v.qw⟩ (l2.take t) (fun x hx=>nexts_to_lt hi x (by rw [← hl2]; exact List.mem_of_mem_take hx))
          simp [qAu,qAv,resV,retV,qAh,qAt,qAs,qAr,qAq,htf,hz];refine fPush_call hzn P1.wlen (by have:=P1.qlen; have:=ok.few; simp [lim]; omega) hqv1 fun qv2 rest2 hq2=>?_
          simp [qAu,qAv,resV,retV,qAh,qAt,qAs,qAr,qAq,callK_def,wt];exact .go (t1,qv2,rest2) (by simp only []; omega) (by simp) (by simp only [hpt]) ⟨by simp only []; omega,by simp only [hpt]; exact hq2⟩
        . have htf:¬ (t:Int) < l2.length:=by omega
          rw [List.take_of_length_le (by omega)] at hqv1 ⊢
          simp [qAu,qAv,resV,retV,qAh,qAt,qAs,qAr,qAq,htf];exact hk _ _ _ _ _ _ hnew hqv1 (.inr hwt)
end
end Pm
/- What holds where: the problem is solved.
   No condition: plain lemmas. -/
namespace Pm
set_option linter.unusedSimpArgs false
set_option linter.unusedVariables false
open Go Am
open Go.Proofs.Try (prog)

def cP (p:Prob):List Value:=[vL (vL vI) p.succs,vL vU p.gen,vL vU p.kill,vU p.start,vB p.must,vB p.back]
def vP (p:Prob):Value:=.agg (cP p).toArray
def fill {α:Type} (k n:Nat) (x y:α):List α:=List.replicate k x++List.replicate (n - k) y
theorem fill_len {α:Type} {k n:Nat} {x y:α} (h:k≤n):(fill k n x y).length=n:=by simp [fill]; omega
theorem fill_zero {α:Type} {n:Nat} {x y:α}:fill 0 n x y=List.replicate n y:=by simp [fill]
theorem fill_all {α:Type} {n:Nat} {x y:α}:fill n n x y=List.replicate n x:=by simp [fill]
theorem fill_set {α:Type} {k n:Nat} {x y:α} (h:k < n):(fill k n x y).set k x=fill (k+1) n x y:=by
  unfold fill;rw [List.set_append_right _ _ (by simp),List.length_replicate,Nat.sub_self,show n - k=(n - (k+1))+1 by omega,List.replicate_succ,List.set_cons_zero,List.replicate_succ']
  simp
theorem fill_at {α:Type} {k n:Nat} {x y:α} (h:k < n):(fill k n x y)[k]?=some y:=by
  unfold fill;rw [List.getElem?_append_right (by simp),List.length_replicate,Nat.sub_self,List.getElem?_replicate,if_pos (by omega)]
theorem push_fill {k n:Nat} (h:k < n):qEl (List.range k) (fill k n true false) [(k:Int)]=(List.range (k+1),fill (k+1) n true false):=by
  show (if (fill k n true false)[((k:Int)).toNat]?=some true then (List.range k,fill k n true false) else (List.range k++[((k:Int)).toNat],(fill k n true false).set ((k:Int)).toNat true))=_
  rw [Int.toNat_natCast,fill_at h,if_neg (by simp),fill_set h,List.range_succ]
section
variable {h : Heap} {K : Value → Heap → Prop} {p : Prob} {a : Ob} {inn out q : List Nat} {w : List Bool} {qv : Value} {rest : List Ob}
theorem qLb {v:Value} (hv:cellsOf v=some [v]):qCm (h++svL h.length p a inn out w qv rest) 1 (.pointer (some ⟨h.length+4,10,some 0⟩)) v=some (h++svL h.length p a inn out w v rest):=by
  rw [qAc,hv]; simp [svL,qAd,svC]
theorem qPz {α:Type} {f:α→Value} {L:List Ob} {j n:Nat} {l:List α} (hj:L[j]?=some (bxL f l)) (hc:∀ x,qCk (f x)=true) (hn:n=l.length):Inl h.length (h++L) (.slice (some ⟨h.length+j,0,none⟩) n 0) (vL f l) :=
  AccL.inl (b:=h.length) (.inr ⟨_,0,by rw [hn],Nat.le_add_right _ _,by rw [List.getElem?_append_right (Nat.le_add_right _ _),Nat.add_sub_cancel_left,hj]; rfl,by simp⟩) hc
theorem cellsOf_vP:cellsOf (vP p)=some (cP p):=rfl
theorem agg_cP:Value.agg (cP p).toArray=vP p:=rfl
set_option maxHeartbeats 4000000 in
theorem fSolve_call (ok:p.Ok) (hk:∀ inn out,Solved p inn out→K (.tuple #[vL vU (if p.back then out else inn),vL vU (if p.back then inn else out)]) h):qBu prog 74 [vP p] h K:=by
  refine qBu.forget ?_;refine call_fSolve (by simp) ?_
  have hn:=ok.few;have hln:p.succs.length=p.n:=rfl;have hnl:p.n≤lim:=by simp [lim]; omega
  obtain ⟨n,hnn⟩:∃ n,n=p.n:=⟨_,rfl⟩;have hn64':¬ (64:Int) < p.n:=by omega
  obtain ⟨A,hA⟩:∃ A,A=Ob.row ⟨cP p,6,0,false⟩:=⟨_,rfl⟩;have hfz:frzV (h++[bx (cP p) 6]) 6 (.pointer (some ⟨h.length,0,some 0⟩))=some (fptr (cP p),h++[A]):=by
    simp only [frzV,frzC,row_at0];simp [qSh,cP,hA]
  have c0:(cP p)[0]?=some (vL (vL vI) p.succs):=rfl;have c5:(cP p)[5]?=some (vB p.back):=rfl;have cl:(cP p).length=6:=rfl;have g0:∀ hh,(cP p)[0]'hh=vL (vL vI) p.succs:=fun _=>rfl
  have g5:∀ hh,(cP p)[5]'hh=vB p.back:=fun _=>rfl
  have hsa:setAll [nilS,nilS,nilS,.int .u64 0,.bool false,.bool false,nilS,nilS,nilS,nilS,nilS,nilS] 0 (cP p)=[vL (vL vI) p.succs,vL vU p.gen,vL vU p.kill,vU p.start,vB p.must,vB p.back,nilS,nilS,nilS,nilS,nilS,nilS]:=rfl;have ct:(cP p).take 6=cP p:=rfl;simp [-qAy,qAk,qAn,qAl,qAi,qAf,qAe,qAb,qAc,qAa,qAj,qAg,qAd,qAu,qAv,resV,retV,qAm,qAh,qAt,qAs,qAr,qAq,qRe,cellsOf_vP,cl,hfz,g0,hln];rw [qAy];simp [-qAy,qAk,qAn,qAl,qAi,qAf,qAe,qAb,qAc,qAa,qAj,qAg,qAd,qAu,qAv,resV,retV,qAm,qAh,qAt,qAs,qAr,qAq,hn64',ct,agg_cP,make_box hnl,cellsOf_vP,cl,g0,hsa,bx_repU,bx_repB]
  refine pOps_froz (by simp; exact ⟨rfl,_,rfl,_,c0⟩) (inside_call (by unfold lim; omega) ok.short ?_)
  simp [-qAy,qAk,qAn,qAl,qAi,qAf,qAe,qAb,qAc,qAa,qAj,qAg,qAd,qAu,qAv,resV,retV,qAm,qAh,qAt,qAs,qAr,qAq,g0,cl];refine Preds_call (by unfold lim; omega) (fun l hl=>Nat.le_of_lt (ok.short l hl)) ?_
  simp [-qAy,qAk,qAn,qAl,qAi,qAf,qAe,qAb,qAc,qAa,qAj,qAg,qAd,qAu,qAv,resV,retV,qAm,qAh,qAt,qAs,qAr,qAq,callK_def];rw [qAy];simp [-qAy,qAk,qAn,qAl,qAi,qAf,qAe,qAb,qAc,qAa,qAj,qAg,qAd,qAu,qAv,resV,retV,qAm,qAh,qAt,qAs,qAr,qAq,g5,cl];have hsv:[A,bxL vU (List.replicate p.n 0),bxL vU (List.replicate p.n 0),bxL vB (List.replicate p.n false),bx [vL (vL vI) p.succs,vL vU p.gen,vL vU p.kill,vU p.start,vB p.must,vB p.back,vL (vL vI) p.froms,vL (vL vI) p.tos,.slice (some ⟨h.length+1,0,none⟩) p.n 0,.slice (some ⟨h.length+2,0,none⟩) p.n 0,nilS,.slice (some ⟨h.length+3,0,none⟩) p.n 0] 12] =
    svL h.length p A (fill 0 p.n p.all 0) (fill 0 p.n p.all 0) (fill 0 p.n true false) nilS []:=by rw [fill_zero,fill_zero]; rfl
  refine cK_join [(1,fptr (cP p)),(4,vI p.n),(5,ptr (h.length+4))] (h++svL h.length p A (fill 0 p.n p.all 0) (fill 0 p.n p.all 0) (fill 0 p.n true false) nilS []) (fun e=>?_) (fun e=>?_) fun fr=>?_
  . simp [qAk,qAn,qAl,qAi,qAf,qAe,qAb,qAc,qAa,qAj,qAg,qAd,qAu,qAv,resV,retV,qAm,qAh,qAt,qAs,qAr,qAq]
    rw [← hsv];simp [Prob.froms,Prob.tos,e]
  . simp [qAk,qAn,qAl,qAi,qAf,qAe,qAb,qAc,qAa,qAj,qAg,qAd,qAu,qAv,resV,retV,qAm,qAh,qAt,qAs,qAr,qAq]
    rw [← hsv];simp [Prob.froms,Prob.tos,e]
  rw [qAy];simp [-qAy,qAk,qAn,qAl,qAi,qAf,qAe,qAb,qAc,qAa,qAj,qAg,qAd,qAu,qAv,resV,retV,qAm,qAh,qAt,qAs,qAr,qAq];refine qFe (σ:=Nat×Value×List Ob) (fun x=>[(1,fptr (cP p)),(5,ptr (h.length+4)),(50,vI p.n),(51,vI x.1)]) (fun z=>h++svL h.length p A (fill z.1 p.n p.all 0) (fill z.1 p.n p.all 0) (fill z.1 p.n true false) z.2.1 z.2.2) (fun z=>z.1≤p.n∧QV h.length z.2.2 z.2.1 (List.range z.1)) (fun z=>p.n - z.1) (0,nilS,[]) (by simp) rfl ⟨by simp,.nil⟩ ?_
  rintro ⟨k,qv,rest⟩ fr ⟨hk0,hqv⟩;simp only at hk0 hqv ⊢
  by_cases hlt:k < p.n
  . obtain ⟨k1,hk1,wk⟩:=qCj (show k < lim by unfold lim; omega)
    have hkf:(k:Int) < p.n:=by omega
    simp [qAu,qAv,resV,retV,qAh,qAt,qAs,qAr,qAq,hkf,qEb,cell_in,qFd,qJb,qFa,qEn,qHc,qLb,svC];refine qHg (by simp [qEb,svC]) (fAll_still (p:=p) (by rw [qEb]; rfl) ?_)
    refine qHg (by simp [qEb,svC]) (fAll_still (p:=p) (by rw [qEb]; rfl) ?_)
    simp [qAu,qAv,resV,retV,qAh,qAt,qAs,qAr,qAq,hlt,qEb,cell_in,qFd,qJb,qFa,qEn,qHc,qLb,svC,fill_len hk0,fill_set hlt];refine fPush_call hlt (fill_len hk0) (by simp; unfold lim; omega) hqv fun qv' rest' hqv'=>?_
    rw [push_fill hlt] at hqv' ⊢;simp [qAu,qAv,resV,retV,qAh,qAt,qAs,qAr,qAq,callK_def,wk];exact .go (k1,qv',rest') (by simp only []; omega) (by simp) (by simp only [hk1]) ⟨by simp only []; omega,by simp only [hk1]; exact hqv'⟩
  . have hkf:¬ (k:Int) < p.n:=by omega
    obtain rfl:k=p.n:=by omega
    rw [fill_all,fill_all];simp [qAu,qAv,resV,retV,qAh,qAt,qAs,qAr,qAq,hkf];have hinit:=FInv.init ok;refine qFe (σ:=(List Nat×List Nat)×(List Nat×List Bool)×Value×List Ob) (fun x=>[(1,fptr (cP p)),(5,ptr (h.length+4))]) (fun z=>h++svL h.length p A z.1.1 z.1.2 z.2.1.2 z.2.2.1 z.2.2.2) (fun z=>FInv p z.1.1 z.1.2 z.2.1.1 z.2.1.2∧QV h.length z.2.2.2 z.2.2.1 z.2.1.1) (fun z=>(p.n+1) * wts p z.1.2+z.2.1.1.length) ((List.replicate p.n p.all,List.replicate p.n p.all),(List.range p.n,List.replicate p.n true),qv,rest) (by simp) rfl ⟨hinit,hqv⟩ ?_
    rintro ⟨⟨inn,out⟩,⟨q,w⟩,qv,rest⟩ fr ⟨v,hqv⟩;simp only at v hqv ⊢;have hcell:∀ (qv:Value) (k:Nat) (ver off:Nat),(h++svL h.length p A inn out w qv rest).cell? (h.length+(k+5)) off ver=(rowO rest[k]? ver).bind fun r=>r.cells[off]?:=fun qv k ver off=>by
      rw [cell_at]; simp [svL]
    cases hqv with
    | nil =>
      have hS:=v.end ok;have r1:∀ (qv:Value) (rest:List Ob),Inl h.length (h++svL h.length p A inn out w qv rest) (.slice (some ⟨h.length+1,0,none⟩) p.n 0) (vL vU inn):=fun _ _=>qPz (j:=1) rfl (fun _=>rfl) v.ilen.symm
      have r2:∀ (qv:Value) (rest:List Ob),Inl h.length (h++svL h.length p A inn out w qv rest) (.slice (some ⟨h.length+2,0,none⟩) p.n 0) (vL vU out):=fun _ _=>qPz (j:=2) rfl (fun _=>rfl) v.olen.symm
      have hfin:=hk inn out hS;cases hb:p.back with
      | true =>
        rw [hb] at c5 hfin;simp [qAu,qAv,resV,retV,qAh,qAt,qAs,qAr,qAq,qEb,cell_in,qFd,qJb,qFa,qEn,qHc,qLb,svC,c5];exact ⟨_,Inls.tup (xs:=[_,_]) (ys:=[_,_]) ⟨r2 _ _,r1 _ _,trivial⟩,by simpa using hfin⟩
      | false =>
        rw [hb] at c5 hfin;simp [qAu,qAv,resV,retV,qAh,qAt,qAs,qAr,qAq,qEb,cell_in,qFd,qJb,qFa,qEn,qHc,qLb,svC,c5];exact ⟨_,Inls.tup (xs:=[_,_]) (ys:=[_,_]) ⟨r1 _ _,r2 _ _,trivial⟩,by simpa using hfin⟩
    | @row k ver pre q hkk =>
      cases q with
      | nil =>
        have hS:=v.end ok;have r1:∀ (qv:Value) (rest:List Ob),Inl h.length (h++svL h.length p A inn out w qv rest) (.slice (some ⟨h.length+1,0,none⟩) p.n 0) (vL vU inn):=fun _ _=>qPz (j:=1) rfl (fun _=>rfl) v.ilen.symm
        have r2:∀ (qv:Value) (rest:List Ob),Inl h.length (h++svL h.length p A inn out w qv rest) (.slice (some ⟨h.length+2,0,none⟩) p.n 0) (vL vU out):=fun _ _=>qPz (j:=2) rfl (fun _=>rfl) v.olen.symm
        have hfin:=hk inn out hS;cases hb:p.back with
        | true =>
          rw [hb] at c5 hfin;simp [qAu,qAv,resV,retV,qAh,qAt,qAs,qAr,qAq,qEb,cell_in,qFd,qJb,qFa,qEn,qHc,qLb,svC,c5];exact ⟨_,Inls.tup (xs:=[_,_]) (ys:=[_,_]) ⟨r2 _ _,r1 _ _,trivial⟩,by simpa using hfin⟩
        | false =>
          rw [hb] at c5 hfin;simp [qAu,qAv,resV,retV,qAh,qAt,qAs,qAr,qAq,qEb,cell_in,qFd,qJb,qFa,qEn,qHc,qLb,svC,c5];exact ⟨_,Inls.tup (xs:=[_,_]) (ys:=[_,_]) ⟨r1 _ _,r2 _ _,trivial⟩,by simpa using hfin⟩
      | cons i q =>
        have hi:=v.qlt (i:=i) (by simp)
        have v1:=v.pop;have hiw:i < w.length:=by rw [v.wlen]; exact hi
        have hq0:(0:Int) < (q.length:Int)+1:=by omega
        have hcut:=qUe (h:=h) (rs:=svL h.length p A inn out w (.slice (some ⟨h.length+(k+5),pre.length,none⟩) (q.length+1) ver) rest) (j:=k+5) (ver:=ver) (off:=pre.length) (len:=q.length+1) (e:=1) (lo:=some (.int .i64 1)) (hi:=none) (a:=1) (b:=q.length+1) (r:=⟨pre++(i :: q).map fun i:Nat=>vI i,1,ver,true⟩) (by simp only [svL,List.getElem?_cons_succ,hkk]; exact qLt) rfl (by simp) (by simp) (by omega)
        have hkk':rest[k]?=some (bxQ ((pre++[vI (i:Int)])++q.map fun i:Nat=>vI i) ver):=by rw [hkk]; simp
        simp [qAu,qAv,resV,retV,qAh,qAt,qAs,qAr,qAq,qEb,cell_in,qFd,qJb,qFa,qEn,qHc,qLb,svC,hq0,hcell,hkk,qLt,qLz,hcut,hi,hiw];have hq1:QV h.length rest (.slice (some ⟨h.length+(k+5),pre.length+1,none⟩) q.length ver) q:=by
          have:=QV.row (b:=h.length) hkk'
          simpa using this
        refine fLook_call ok v1 hi hq1 fun inn' out' q' w' qv' rest' v' hqv' hm=>?_
        simp [qAu,qAv,resV,retV,qAh,qAt,qAs,qAr,qAq,callK_def];refine .go ((inn',out'),(q',w'),qv',rest') ?_ (by simp) rfl ⟨v',hqv'⟩
        have hq':q'.length≤p.n:=qMa v'.nodup fun i hi=>v'.qlt hi
        rcases hm with ⟨rfl,rfl⟩ | hm
        . simp
        . have:(p.n+1) * (wts p out'+1)≤(p.n+1) * wts p out:=Nat.mul_le_mul (Nat.le_refl _) hm
          rw [Nat.mul_add,Nat.mul_one] at this;simp only [List.length_cons]; omega
end
end Pm
