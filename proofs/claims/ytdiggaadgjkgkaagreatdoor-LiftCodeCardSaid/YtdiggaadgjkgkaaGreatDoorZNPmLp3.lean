/- A list of numbers of one's own that grows and shrinks at its end; loops, without the program.
   No condition: plain lemmas. -/

import Derived.Test.YtdiggaadgjkgkaaGreatDoorZNPmFlow1
import Derived.Test.YtdiggaadgjkgkaaGreatDoorZNPmCfgA
import Derived.Test.YtdiggaadgjkgkaaGreatDoorZNPmIr2
import Derived.Test.YtdiggaadgjkgkaaGreatDoorZNAmSeq2
import Derived.Test.YtdiggaadgjkgkaaGreatDoorZNPmLoop
import Derived.Test.YtdiggaadgjkgkaaGreatDoorZNPmCfgC
import Derived.Test.YtdiggaadgjkgkaaGreatDoorZNPmLoads1
namespace Pm
set_option linter.unusedSimpArgs false
set_option linter.unusedVariables false
open Go Am

def OwnP (b:Nat) (H:Heap) (v:Value) (L:List Int):Prop :=
  (v=nilS∧L=[])∨∃ (id ver:Nat) (cs:List Int),v=.slice (some ⟨id,0,none⟩) L.length ver∧b≤id∧H[id]?=some (.row ⟨cs.map vI,1,ver,true⟩)∧cs.take L.length=L
section
variable {b : Nat} {H H' : Heap} {v : Value} {L : List Int}
theorem OwnP.nil:OwnP b H nilS []:=.inl ⟨rfl,rfl⟩
theorem OwnP.len (h:OwnP b H v L):pLen v=some (vI L.length):=by
  rcases h with ⟨rfl,rfl⟩ | ⟨id,ver,cs,rfl,_,_,_⟩<;>rfl
theorem OwnP.cell (h:OwnP b H v L):cellsOf v=some [v]:=by
  rcases h with ⟨rfl,rfl⟩ | ⟨id,ver,cs,rfl,_,_,_⟩<;>rfl
theorem OwnP.keep (h:OwnP b H v L) (hk:∀ i,b≤i→i < H.length→H'[i]?=H[i]?):OwnP b H' v L:=by
  rcases h with h | ⟨id,ver,cs,h1,h2,h3,h4⟩
  . exact .inl h
  . exact .inr ⟨id,ver,cs,h1,h2,by rw [hk id h2 (List.getElem?_eq_some_iff.1 h3).1]; exact h3,h4⟩
theorem OwnP.ext (h:OwnP b H v L) (rs:List Ob):OwnP b (H++rs) v L:=h.keep fun i _ hi=>List.getElem?_append_left hi
theorem OwnP.less {b':Nat} (h:OwnP b H v L) (hb:b'≤b):OwnP b' H v L:=by
  rcases h with h | ⟨id,ver,cs,h1,h2,h3,h4⟩
  . exact .inl h
  . exact .inr ⟨id,ver,cs,h1,by omega,h3,h4⟩
theorem OwnP.last {x:Int} (h:OwnP b H v (L++[x])):∃ a,qGa 1 v (vI L.length)=some a∧pLd H a=some (vI x):=by
  rcases h with ⟨_,h⟩ | ⟨id,ver,cs,rfl,h2,h3,h4⟩
  . simp at h
  . refine ⟨.pointer (some ⟨id,L.length,some ver⟩),by
      have:(L.length:Int) < L.length+1:=by omega
      simp [qGa,qDx,qGf,this],?_⟩
    have:cs[L.length]?=some x:=by
      have e:(cs.take (L++[x]).length)[L.length]?=some x:=by rw [h4]; simp
      rw [List.getElem?_take,if_pos (by simp)] at e
      exact e
    simp [pLd,qEc,ldV,Heap.cell?,Heap.row?,h3,this]
theorem OwnP.cut {x:Int} (h:OwnP b H v (L++[x])):∃ v',pCut H 1 v none (some (vI L.length))=some v'∧OwnP b H v' L:=by
  rcases h with ⟨_,h⟩ | ⟨id,ver,cs,rfl,h2,h3,h4⟩
  . simp at h
  . refine ⟨.slice (some ⟨id,0,none⟩) L.length ver,by
      have:(L.length:Int)≤L.length+1:=by omega
      simp [pCut,qDx,cutV,Heap.row?,h3,this],.inr ⟨id,ver,cs,rfl,h2,h3,?_⟩⟩
    have:(cs.take (L++[x]).length).take L.length=L:=by rw [h4]; simp
    rw [List.take_take] at this
    simpa using this
theorem OwnP.app (h:OwnP b H v L) (hb:b≤H.length) {new:List Int} (hl:L.length+new.length≤lim):∃ v' H',pApp H 1 v (vL vI new)=some (v',H')∧OwnP b H' v' (L++new)∧qBs b H H':=by
  have hp:qCv H 1 (vL vI new)=some (new.length,new.map vI):=by simp [qCv,vL]
  simp only [pApp,hp];rcases h with ⟨rfl,rfl⟩ | ⟨id,ver,cs,rfl,h2,h3,h4⟩
  . by_cases h0:new.length=0
    . have:new=[]:=List.length_eq_zero_iff.1 h0
      subst this;exact ⟨nilS,H,by simp [qJg],.inl ⟨rfl,rfl⟩,.refl _ _⟩
    . refine ⟨.slice (some ⟨H.length,0,none⟩) new.length 0,H++[.row ⟨new.map vI,1,0,true⟩],?_,.inr ⟨H.length,0,new,by simp,hb,by simp,by simp⟩,⟨by simp,fun i hi=>List.getElem?_append_left (by omega)⟩⟩
      have hl':new.length≤lim:=by simp at hl; omega
      simp [qJg,h0,hl',Am.newRow]
  . have hid:=(List.getElem?_eq_some_iff.1 h3).1
    have hcl:L.length≤cs.length:=by
      have:(cs.take L.length).length=L.length:=by rw [h4]
      rw [List.length_take] at this; omega
    refine ⟨.slice (some ⟨id,0,none⟩) (L.length+new.length) (ver+1),H.set id (.row ⟨(L++new).map vI,1,ver+1,true⟩),?_,.inr ⟨id,ver+1,L++new,by simp,h2,by rw [List.getElem?_set_self hid],List.take_of_length_le (Nat.le_refl _)⟩,⟨by simp,fun i hi=>by rw [List.getElem?_set_ne (by omega)]⟩⟩
    have e:((cs.map vI).take L.length)=L.map vI:=by rw [← List.map_take,h4]
    simp [qJg,Heap.row?,h3,hcl,hl,e]
end
def qHp (s:List (List Int)) (hd t:Nat):Prop:=t < s.length∧(hd:Int)∈qDr s t∧Come s t∧qIm s hd t
inductive InLp (s:List (List Int)) (hd:Nat):Nat→Prop
  | head:InLp s hd hd
  | back {t:Nat} (h:qHp s hd t):InLp s hd t
  | step {x t:Nat} (h:InLp s hd x) (hx:x≠hd) (ht:t < s.length) (hn:(x:Int)∈qDr s t) (hc:Come s t):InLp s hd t
structure LoopOf (s:List (List Int)) (hd B:Nat):Prop where
  lt:B < big
  bit:∀ t,t < 64→(B.testBit t=true↔InLp s hd t)
theorem LoopOf.unique {s:List (List Int)} {hd A B:Nat} (ha:LoopOf s hd A) (hb:LoopOf s hd B):A=B:=by
  refine qPf ha.lt hb.lt fun t ht=>?_
  have h1:=ha.bit t ht;have h2:=hb.bit t ht;cases hA:A.testBit t<;>cases hB:B.testBit t<;>simp_all
inductive LoopsTo (s:List (List Int)):Nat→List (Nat×Nat)→Prop
  | zero:LoopsTo s 0 []
  | none {n:Nat} {l:List (Nat×Nat)} (h:LoopsTo s n l) (hn:¬ ∃ t,qHp s n t):LoopsTo s (n+1) l
  | one {n B t:Nat} {l:List (Nat×Nat)} (h:LoopsTo s n l) (hn:qHp s n t) (hB:LoopOf s n B):LoopsTo s (n+1) (l++[(n,B)])
theorem LoopsTo.unique {s:List (List Int)}:∀ {n:Nat} {a b:List (Nat×Nat)},LoopsTo s n a→LoopsTo s n b→a=b:=by
  intro n
  induction n with
  | zero=>intro a b ha hb; cases ha; cases hb; rfl
  | succ n ih =>
    intro a b ha hb;cases ha with
    | none h1 n1 =>
      cases hb with
      | none h2 n2=>exact ih h1 h2
      | one h2 n2 _=>exact absurd ⟨_,n2⟩ n1
    | one h1 n1 B1 =>
      cases hb with
      | none h2 n2=>exact absurd ⟨_,n1⟩ n2
      | one h2 n2 B2=>rw [ih h1 h2,B1.unique B2]
theorem LoopsTo.len {s:List (List Int)} {n:Nat} {l:List (Nat×Nat)} (h:LoopsTo s n l):l.length≤n:=by
  induction h with
  | zero=>simp
  | none _ _ ih=>omega
  | one _ _ _ ih=>simp; omega
def vLp (x:Nat×Nat):List Value:=[vI x.1,vL vI (qCc x.2)]
end Pm

/- Loops of a graph: what leads back, walked.
   No condition: plain lemmas. -/

namespace Pm
set_option linter.unusedSimpArgs false
set_option linter.unusedVariables false
open Go Am
open Go.Proofs.Tryz (prog)

structure GrB (H:Heap) (b:Nat) (s:List (List Int)) (d:List Nat) (re:List Bool):Prop where
  c0:H.cell? b 0 0=some (vL (vL vI) s)
  c1:H.cell? b 1 0=some (vL (vL vI) (qFp s))
  c2:H.cell? b 2 0=some (vL vU d)
  c3:H.cell? b 3 0=some (vL vB re)
  lt:b < H.length
theorem qDb {H H':Heap} {b off ver:Nat} (hb:H'[b]?=H[b]?):H'.cell? b off ver=H.cell? b off ver:=by
  simp only [Heap.cell?,Heap.row?,hb]
theorem GrB.keep {H H':Heap} {b:Nat} {s:List (List Int)} {d:List Nat} {re:List Bool} (h:GrB H b s d re) (hk:H'[b]?=H[b]?) (hl:H.length≤H'.length):GrB H' b s d re :=
  ⟨by rw [qDb hk]; exact h.c0,by rw [qDb hk]; exact h.c1,by rw [qDb hk]; exact h.c2,by rw [qDb hk]; exact h.c3,by have:=h.lt; omega⟩
theorem GrB.ext {H:Heap} {b:Nat} {s:List (List Int)} {d:List Nat} {re:List Bool} (h:GrB H b s d re) (rs:List Ob):GrB (H++rs) b s d re:=h.keep (List.getElem?_append_left h.lt) (by simp)
def qQy (re:List Bool) (d:List Nat) (hd:Nat) (t:Int):Bool:=(re[t.toNat]?.getD false) && hasB (gN d t.toNat) hd
section
variable {h : Heap} {K : Value → Heap → Prop} {s : List (List Int)} {d : List Nat} {re : List Bool} {b c1 c2 hd : Nat}
theorem callBk1:qCg prog 81=true:=by kernel_rfl
theorem lpBk1_call {t:Int} (G:GrB h b s d re) (h1:h.cell? c1 0 0=some (ptr b)) (h2:h.cell? c2 0 0=some (vI hd)) (hr:re.length=s.length) (hdl:d.length=s.length) (hdb:∀ x∈d,x < big) (ht:0≤t∧t < s.length) (hk:K (vB (!qQy re d hd t)) h) :
    qBl prog 81 [vI t,ptr c1,ptr c2] h K:=by
  refine call_lpBk1 (by simp) ?_
  obtain ⟨k,rfl⟩:∃ k:Nat,t=k:=⟨t.toNat,by omega⟩
  have hkr:k < re.length:=by omega
  have hkd:k < d.length:=by omega
  have hkrI:(k:Int) < re.length:=by omega
  have hkdI:(k:Int) < d.length:=by omega
  obtain ⟨x,hx⟩:∃ x,re[k]?=some x:=⟨_,List.getElem?_eq_getElem hkr⟩;have hD:=gN_at hkd;have g3:=G.c3;have g2:=G.c2;unfold qQy at hk;rw [show ((k:Int)).toNat=k by omega,hx] at hk
  cases x with
  | false =>
    simp at hk;simp [qAk,qAn,qAl,qAh,qAg,qAe,qAb,qAd,qAa,qAi,qAf,qAc,qAs,qAu,resV,retV,qAm,qAj,qAr,qAq,qAp,qAo,qPs,h1,g3,hkrI,hx];exact hk
  | true =>
    simp at hk;simp [-qAt,qAk,qAn,qAl,qAh,qAg,qAe,qAb,qAd,qAa,qAi,qAf,qAc,qAs,qAu,resV,retV,qAm,qAj,qAr,qAq,qAp,qAo,qPs,h1,h2,g3,g2,hkrI,hkdI,hx,hD];refine qFg (hdb _ (List.mem_of_getElem? hD)) ?_;simp [qAk,qAn,qAl,qAh,qAg,qAe,qAb,qAd,qAa,qAi,qAf,qAc,qAs,qAu,resV,retV,qAm,qAj,qAr,qAq,qAp,qAo,callK_def];exact hk
def qLm (s:List (List Int)) (d:List Nat) (re:List Bool) (hd:Nat):List Int:=(qDc s s.length hd).filter (qQy re d hd)
set_option maxHeartbeats 1000000 in
theorem lpBacks_call (G:GrB h b s d re) (hr:re.length=s.length) (hdl:d.length=s.length) (hdb:∀ x∈d,x < big) (hs:hd < s.length) (hl:(qDc s s.length hd).length < lim)
    (hk:∀ v g,OwnP h.length (h++g) v (qLm s d re hd)→K v (h++g)) :
    qBl prog 39 [ptr b,vI hd] h K:=by
  refine call_lpBacks (by simp) ?_
  have g1:∀ rs,(h++rs).cell? b 1 0=some (vL (vL vI) (qFp s)):=fun rs=>(G.ext rs).c1
  have hp:(qFp s)[hd]?=some (qDc s s.length hd):=qJz hs;have hpl:(qFp s).length=s.length:=by simp [qFp]
  have hsI:(hd:Int) < (qFp s).length:=by rw [hpl]; omega
  have mem:∀ x∈qDc s s.length hd,0≤x∧x < s.length:=fun x hx=>by
    obtain ⟨a,rfl,h1,_⟩:=qDw.1 hx; omega
  obtain ⟨pl,hpe⟩:∃ pl,pl=qDc s s.length hd:=⟨_,rfl⟩;have hB:qLm s d re hd=pl.filter (qQy re d hd):=by rw [hpe]; rfl
  rw [← hpe] at hp hl mem;simp [-qAt,qAk,qAn,qAl,qAh,qAg,qAe,qAb,qAd,qAa,qAi,qAf,qAc,qAs,qAu,resV,retV,qAm,qAj,qAr,qAq,qAp,qAo,qNn,g1,hsI,hp];refine Clone1_call (by omega) (fun e=>?_) ?_
  . subst e
    simp [-qAt,qAk,qAn,qAl,qAh,qAg,qAe,qAb,qAd,qAa,qAi,qAf,qAc,qAs,qAu,resV,retV,qAm,qAj,qAr,qAq,qAp,qAo,callK_def];refine DelF1_nil callBk1 ?_;simp [qAk,qAn,qAl,qAh,qAg,qAe,qAb,qAd,qAa,qAi,qAf,qAc,qAs,qAu,resV,retV,qAm,qAj,qAr,qAq,qAp,qAo,callK_def];refine hk nilS _ ?_;rw [hB];exact .nil
  . simp [-qAt,qAk,qAn,qAl,qAh,qAg,qAe,qAb,qAd,qAa,qAi,qAf,qAc,qAs,qAu,resV,retV,qAm,qAj,qAr,qAq,qAp,qAo,callK_def]
    refine DelF1_call (h:=h) (L:=[bx [ptr b] 1,bx [vI hd] 1,bxQ (pl.map vI) 1]) (j:=2) (g:=fun t=>!qQy re d hd t) callBk1 hl rfl (fun l' x K hx hK=>?_) fun l' e1 e2=>?_
    . refine lpBk1_call (c1:=h.length) (c2:=h.length+1) (G.ext _) ?_ ?_ hr hdl hdb (mem x hx) hK
      . simp [qAk,qAn,qAl,qAh,qAg,qAe,qAb,qAd,qAa,qAi,qAf,qAc,qAs,qAu,resV,retV,qAm,qAj,qAr,qAq,qAp,qAo]
      . simp [qAk,qAn,qAl,qAh,qAg,qAe,qAb,qAd,qAa,qAi,qAf,qAc,qAs,qAu,resV,retV,qAm,qAj,qAr,qAq,qAp,qAo]
    . have e3:(pl.filter fun x=>!(fun t=>!qQy re d hd t) x)=qLm s d re hd:=by
        rw [hB];refine List.filter_congr fun x _=>by simp
      rw [e3] at e2 ⊢;simp [qAk,qAn,qAl,qAh,qAg,qAe,qAb,qAd,qAa,qAi,qAf,qAc,qAs,qAu,resV,retV,qAm,qAj,qAr,qAq,qAp,qAo,callK_def];refine hk _ _ (.inr ⟨h.length+2,1,l',rfl,by omega,?_,e2⟩)
      simp [bxQ]
end
end Pm

/- Loops of a graph: what is of the loop of a head, walked.
   No condition: plain lemmas. -/

namespace Pm
set_option linter.unusedSimpArgs false
set_option linter.unusedVariables false
open Go Am
open Go.Proofs.Tryz (prog)

theorem frz_new (H:Heap) (r:Int):frzV (H++[bx [vI r] 1]) 1 (.slice (some ⟨H.length,0,none⟩) 1 0)=some (vL vI [r],H++[.row ⟨[vI r],1,0,false⟩]):=by
  have:=frz_one (h:=H) (L:=[bx [vI r] 1]) (r:=r) (k:=0) rfl
  simpa using this
theorem bitN_nat {i:Nat} (hi:i < 64):bitN (i:Int)=2 ^ i:=by
  unfold bitN;rw [if_pos ⟨by omega,by omega⟩]
  simp
theorem with_nat {S i:Nat} (hi:i < 64):qDi S [(i:Int)]=S ||| 2 ^ i:=by
  show S ||| bitN (i:Int)=_
  rw [bitN_nat hi]
theorem qJw {S i t:Nat} (hi:i < 64):(qDi S [(i:Int)]).testBit t=(S.testBit t || decide (t=i)):=by
  rw [with_nat hi,Nat.testBit_or,Nat.testBit_two_pow]
  by_cases h:t=i
  . simp [h]
  . simp [h,Ne.symm h]
theorem with_big {S i:Nat} (hi:i < 64) (hS:S < big):qDi S [(i:Int)] < big:=by
  rw [with_nat hi];exact Nat.or_lt_two_pow (n:=64) hS (Nat.pow_lt_pow_right (by omega) hi)
def qLp (s:List (List Int)) (S:Nat) (n:Nat):Nat:=((List.range n).map fun t=>if S.testBit t=true then 0 else (qDc s s.length t).length+1).sum
theorem qGo (s:List (List Int)) (S n:Nat):qLp s S (n+1)=qLp s S n+if S.testBit n=true then 0 else (qDc s s.length n).length+1:=by
  unfold qLp;rw [List.range_succ,List.map_append,List.sum_append];simp
theorem workL_same {s:List (List Int)} {S i:Nat} (hi:i < 64):∀ n,n≤i→qLp s (qDi S [(i:Int)]) n=qLp s S n
  | 0,_=>rfl
  | n+1,h=>by
    rw [qGo,qGo,workL_same hi n (by omega),qJw hi]
    have:¬ n=i:=by omega
    simp [this]
theorem workL_with {s:List (List Int)} {S i:Nat} (hi:i < 64) (hn:S.testBit i=false):∀ n,i < n→qLp s S n=qLp s (qDi S [(i:Int)]) n+((qDc s s.length i).length+1)
  | 0,h=>by omega
  | n+1,h=>by
    rw [qGo,qGo]
    by_cases e:n=i
    . subst e
      rw [workL_same hi n (Nat.le_refl _),qJw hi,hn];simp
    . rw [workL_with hi hn n (by omega),qJw hi]
      simp [e];omega
structure BodyI (s:List (List Int)) (hd:Nat) (S:Nat) (L:List Int):Prop where
  lt:S < big
  sIn:∀ t,t < 64→S.testBit t=true→InLp s hd t
  hdS:S.testBit hd=true
  lIn:∀ x∈L,∃ t:Nat,x=(t:Int)∧t < s.length∧(Come s t→InLp s hd t)
  base:∀ t,qHp s hd t→S.testBit t=true∨(t:Int)∈L
  clo:∀ x t:Nat,S.testBit x=true→x≠hd→t < s.length→(x:Int)∈qDr s t→Come s t→S.testBit t=true∨(t:Int)∈L
section
variable {s : List (List Int)} {hd S : Nat} {L : List Int}
theorem BodyI.skip {i:Nat} (v:BodyI s hd S (L++[(i:Int)])) (hc:S.testBit i=true∨¬ Come s i):BodyI s hd S L:=by
  refine ⟨v.lt,v.sIn,v.hdS,fun x hx=>v.lIn x (List.mem_append_left _ hx),fun t ht=>?_,fun x t h1 h2 h3 h4 h5=>?_⟩
  . rcases v.base t ht with h | h
    . exact .inl h
    . rcases List.mem_append.1 h with h | h
      . exact .inr h
      . have:t=i:=by have:=List.mem_singleton.1 h; omega
        subst this;rcases hc with hc | hc
        . exact .inl hc
        . exact absurd ht.2.2.1 hc
  . rcases v.clo x t h1 h2 h3 h4 h5 with h | h
    . exact .inl h
    . rcases List.mem_append.1 h with h | h
      . exact .inr h
      . have:t=i:=by have:=List.mem_singleton.1 h; omega
        subst this;rcases hc with hc | hc
        . exact .inl hc
        . exact absurd h5 hc
theorem BodyI.add {i:Nat} (v:BodyI s hd S (L++[(i:Int)])) (hn:s.length≤64) (hS:S.testBit i=false) (hc:Come s i):BodyI s hd (qDi S [(i:Int)]) (L++qDc s s.length i):=by
  obtain ⟨i',e,hi,hin⟩:=v.lIn (i:Int) (by simp)
  obtain rfl:i=i':=by omega
  have hi64:i < 64:=by omega
  have hih:i≠hd:=fun e=>by rw [e,v.hdS] at hS; cases hS
  have wb:∀ t,(qDi S [(i:Int)]).testBit t=(S.testBit t || decide (t=i)):=fun t=>qJw hi64
  refine ⟨with_big hi64 v.lt,fun t ht h=>?_,by rw [wb,v.hdS]; rfl,fun x hx=>?_,fun t ht=>?_,fun x t h1 h2 h3 h4 h5=>?_⟩
  . rw [wb,Bool.or_eq_true,decide_eq_true_eq] at h
    rcases h with h | h
    . exact v.sIn t ht h
    . rw [h]; exact hin hc
  . rcases List.mem_append.1 hx with h | h
    . exact v.lIn x (List.mem_append_left _ h)
    . obtain ⟨t,rfl,h1,h2⟩:=qDw.1 h
      exact ⟨t,rfl,h1,fun hct=>.step (hin hc) hih h1 h2 hct⟩
  . rcases v.base t ht with h | h
    . exact .inl (by rw [wb,h]; rfl)
    . rcases List.mem_append.1 h with h | h
      . exact .inr (List.mem_append_left _ h)
      . have:t=i:=by have:=List.mem_singleton.1 h; omega
        exact .inl (by rw [wb,this]; simp)
  . rw [wb,Bool.or_eq_true,decide_eq_true_eq] at h1
    rcases h1 with h1 | h1
    . rcases v.clo x t h1 h2 h3 h4 h5 with h | h
      . exact .inl (by rw [wb,h]; rfl)
      . rcases List.mem_append.1 h with h | h
        . exact .inr (List.mem_append_left _ h)
        . have:t=i:=by have:=List.mem_singleton.1 h; omega
          exact .inl (by rw [wb,this]; simp)
    . subst h1
      exact .inr (List.mem_append_right _ (qDw.2 ⟨t,rfl,h3,h4⟩))
theorem InLp.lt {t:Nat} (h:InLp s hd t) (hh:hd < s.length):t < s.length:=by
  cases h with
  | head=>exact hh
  | back h=>exact h.1
  | step _ _ h _ _=>exact h
theorem BodyI.fin (v:BodyI s hd S []) (hh:hd < s.length) (hn:s.length≤64):LoopOf s hd S:=by
  have key:∀ t,InLp s hd t→S.testBit t=true:=by
    intro t h
    induction h with
    | head=>exact v.hdS
    | back h =>
      rcases v.base _ h with h | h
      . exact h
      . simp at h
    | step h hx ht2 hn hc ih =>
      rcases v.clo _ _ ih hx ht2 hn hc with h | h
      . exact h
      . simp at h
  exact ⟨v.lt,fun t ht=>⟨v.sIn t ht,key t⟩⟩
end
section
variable {h : Heap} {K : Value → Heap → Prop} {s : List (List Int)} {d : List Nat} {re : List Bool} {b hd hlow : Nat}
set_option maxHeartbeats 4000000 in
theorem lpBody_call {v:Value} {L:List Int} (G:GrB h b s d re) (hb:b < hlow) (hlow':hlow≤h.length) (O:OwnP hlow h v L) (hn:s.length≤64) (hr:re.length=s.length) (hre:∀ i,re[i]?=some true↔Come s i) (hs:hd < s.length)
    (hb0:∀ x∈L,∃ t:Nat,x=(t:Int)∧t < s.length∧(Come s t→InLp s hd t)) (hb1:∀ t,qHp s hd t→(t:Int)∈L) (hw:L.length≤64)
    (hk:∀ B H,LoopOf s hd B→qBs hlow h H→K (vU B) H) :
    qBl prog 41 [ptr b,vI hd,v] h K:=by
  refine call_lpBody (by simp) ?_
  have hlim:lim=1048576:=rfl;have hhd64:hd < 64:=by omega
  have w0:qLp s (qDi 0 [(hd:Int)]) s.length+L.length≤4096+128:=by
    have:∀ (S n:Nat),n≤s.length→qLp s S n≤n * 65:=by
      intro S n
      induction n with
      | zero=>intro _; simp [qLp]
      | succ n ih =>
        intro h1;rw [qGo];have:=ih (by omega)
        have hbl:(qDc s s.length n).length≤s.length:=by
          unfold qDc;rw [List.length_map];exact Nat.le_trans (List.length_filter_le _ _) (by simp)
        split<;>omega
    have:=this (qDi 0 [(hd:Int)]) s.length (Nat.le_refl _);omega
  have bI:BodyI s hd (qDi 0 [(hd:Int)]) L:=by
    have wb:∀ t,(qDi 0 [(hd:Int)]).testBit t=decide (t=hd):=fun t=>by rw [qJw hhd64]; simp
    refine ⟨with_big hhd64 (by decide),fun t _ ht=>?_,by rw [wb]; simp,hb0,fun t ht=>.inr (hb1 t ht),fun x t h1 h2=>?_⟩
    . rw [wb,decide_eq_true_eq] at ht; rw [ht]; exact .head
    . rw [wb,decide_eq_true_eq] at h1; exact absurd h1 h2
  have hfz0:=frz_new h (hd:Int);simp [-qAt,qAk,qAn,qAl,qAh,qAg,qAe,qAb,qAd,qAa,qAi,qAf,qAc,qAs,qAu,resV,retV,qAm,qAj,qAr,qAq,qAp,qAo,qPr,hfz0];refine qKm (by decide) (by simp; omega) ?_
  simp [-qAt,qAk,qAn,qAl,qAh,qAg,qAe,qAb,qAd,qAa,qAi,qAf,qAc,qAs,qAu,resV,retV,qAm,qAj,qAr,qAq,qAp,qAo,callK_def];rw [qAt];simp [-qAt,qAk,qAn,qAl,qAh,qAg,qAe,qAb,qAd,qAa,qAi,qAf,qAc,qAs,qAu,resV,retV,qAm,qAj,qAr,qAq,qAp,qAo];refine qDh (σ:=Nat×List Int×Value×Heap) (fun x=>[(0,ptr b),(2,x.2.2.1),(7,vU x.1)]) (fun x=>x.2.2.2) (fun x=>BodyI s hd x.1 x.2.1∧OwnP hlow x.2.2.2 x.2.2.1 x.2.1∧qBs hlow h x.2.2.2∧qLp s x.1 s.length+x.2.1.length≤4096+128) (fun x=>qLp s x.1 s.length+x.2.1.length) (qDi 0 [(hd:Int)],L,v,h++[.row ⟨[vI (hd:Int)],1,0,false⟩]) (by simp) rfl ⟨bI,O.ext _,⟨by simp,fun i hi=>List.getElem?_append_left (by omega)⟩,w0⟩ ?_
  rintro ⟨S,L1,v1,H⟩ fr ⟨bi,o,kp,wk⟩;simp only at bi o kp wk ⊢;have G1:GrB H b s d re:=G.keep (kp.2 b hb) kp.1;have hlH:hlow≤H.length:=by have:=kp.1; omega
  rcases List.eq_nil_or_concat L1 with rfl | ⟨L',x,rfl⟩
  . have hl0:=o.len
    rw [qAt];simp [qAk,qAn,qAl,qAh,qAg,qAe,qAb,qAd,qAa,qAi,qAf,qAc,qAs,qAu,resV,retV,qAm,qAj,qAr,qAq,qAp,qAo,hl0];exact hk S H (bi.fin hs hn) kp
  . rw [List.concat_eq_append] at bi o wk ⊢
    obtain ⟨t,rfl,ht,_⟩:=bi.lIn x (by simp)
    obtain ⟨a,ha1,ha2⟩:=o.last;obtain ⟨v2,hc1,o2⟩:=o.cut;have hl0:=o.len;have hlen:(L'++[(t:Int)]).length=L'.length+1:=by simp
    rw [hlen] at hl0 wk;have hpos:(0:Int) < ((L'.length+1:Nat):Int):=by omega
    have ws:IntKind.i64.wrap (((L'.length+1:Nat):Int) - 1)=L'.length:=by rw [wrap_i64 (by omega) (by omega)]; omega
    obtain ⟨n1,hn1⟩:∃ n1,n1=L'.length+1:=⟨_,rfl⟩;rw [← hn1] at hl0 wk hpos ws;have hposN:0 < n1:=by omega
    rw [qAt];simp [-qAt,qAk,qAn,qAl,qAh,qAg,qAe,qAb,qAd,qAa,qAi,qAf,qAc,qAs,qAu,resV,retV,qAm,qAj,qAr,qAq,qAp,qAo,hl0,hpos,hposN,ws,ha1,ha2,hc1];rw [qAt];simp [-qAt,qAk,qAn,qAl,qAh,qAg,qAe,qAb,qAd,qAa,qAi,qAf,qAc,qAs,qAu,resV,retV,qAm,qAj,qAr,qAq,qAp,qAo];refine qFg bi.lt ?_;rw [qIz (by omega)]
    have htr:t < re.length:=by omega
    have htrI:(t:Int) < re.length:=by omega
    obtain ⟨z,hz⟩:∃ z,re[t]?=some z:=⟨_,List.getElem?_eq_getElem htr⟩;cases hbit:S.testBit t with
    | true =>
      simp [qAk,qAn,qAl,qAh,qAg,qAe,qAb,qAd,qAa,qAi,qAf,qAc,qAs,qAu,resV,retV,qAm,qAj,qAr,qAq,qAp,qAo,callK_def];exact .go (S,L',v2,H) (by simp only [hlen]; omega) (by simp) rfl ⟨bi.skip (.inl hbit),o2,kp,by simp only []; omega⟩
    | false =>
      simp [-qAt,qAk,qAn,qAl,qAh,qAg,qAe,qAb,qAd,qAa,qAi,qAf,qAc,qAs,qAu,resV,retV,qAm,qAj,qAr,qAq,qAp,qAo,callK_def,G1.c3,htrI,hz];cases z with
      | false =>
        have hnc:¬ Come s t:=fun h=>by rw [(hre t).2 h] at hz; cases hz
        simp [qAk,qAn,qAl,qAh,qAg,qAe,qAb,qAd,qAa,qAi,qAf,qAc,qAs,qAu,resV,retV,qAm,qAj,qAr,qAq,qAp,qAo,callK_def];exact .go (S,L',v2,H) (by simp only [hlen]; omega) (by simp) rfl ⟨bi.skip (.inr hnc),o2,kp,by simp only []; omega⟩
      | true =>
        have hcm:Come s t:=(hre t).1 hz;have bi2:=bi.add hn hbit hcm;have hw2:=workL_with (s:=s) (S:=S) (i:=t) (by omega) hbit s.length ht
        have hp:(qFp s)[t]?=some (qDc s s.length t):=qJz ht;have hpl:(qFp s).length=s.length:=preds_len s;have hpI:(t:Int) < (qFp s).length:=by rw [hpl]; omega
        have hfz:=frz_new H (t:Int);obtain ⟨v3,H3,p1,o3,k3⟩:=(o2.ext [Ob.row ⟨[vI (t:Int)],1,0,false⟩]).app (by simp; omega) (new:=qDc s s.length t) (by omega)
        have G2:=G1.ext [Ob.row ⟨[vI (t:Int)],1,0,false⟩];simp [-qAt,qAk,qAn,qAl,qAh,qAg,qAe,qAb,qAd,qAa,qAi,qAf,qAc,qAs,qAu,resV,retV,qAm,qAj,qAr,qAq,qAp,qAo,callK_def,hfz];refine qKm bi.lt (by simp; omega) ?_
        simp [qAk,qAn,qAl,qAh,qAg,qAe,qAb,qAd,qAa,qAi,qAf,qAc,qAs,qAu,resV,retV,qAm,qAj,qAr,qAq,qAp,qAo,callK_def,G2.c1,hpI,hp,p1];refine .go (qDi S [(t:Int)],L'++qDc s s.length t,v3,H3) (by simp only [hlen,List.length_append]; omega) (by simp) rfl ⟨bi2,o3,?_,by simp only [List.length_append]; omega⟩
        exact kp.trans ⟨by have:=k3.1; simp at this; show H.length≤H3.length; omega,fun i hi=>by show H3[i]?=H[i]?; rw [k3.2 i hi,List.getElem?_append_left (by omega)]⟩
end
end Pm

/- Loops of a graph, walked.
   No condition: plain lemmas. -/

namespace Pm
set_option linter.unusedSimpArgs false
set_option linter.unusedVariables false
open Go Am
open Go.Proofs.Tryz (prog)

instance : Flat vLp 2 := ⟨fun _ => rfl⟩
section
variable {h : Heap} {K : Value → Heap → Prop} {s : List (List Int)}
theorem mem_backsL {d:List Nat} {re:List Bool} (hd:DomsOf s d) (hre:∀ i,re[i]?=some true↔Come s i) (hn:s.length≤64) {k:Nat} {x:Int} (hk:k < s.length):x∈qLm s d re k↔∃ t:Nat,x=(t:Int)∧qHp s k t:=by
  unfold qLm;rw [List.mem_filter,qDw];have key:∀ t:Nat,t < s.length→(qQy re d k (t:Int)=true↔Come s t∧qIm s k t):=fun t ht=>by
    have hdt:d[t]?=some (gN d t):=gN_at (by rw [hd.len]; exact ht)
    unfold qQy;rw [show ((t:Int)).toNat=t by omega,qIz (by omega),Bool.and_eq_true,hd.bit t _ k hdt,← hre t]
    constructor
    . rintro ⟨h1,h2⟩
      refine ⟨?_,h2⟩;cases hx:re[t]? with
      | none=>rw [hx] at h1; cases h1
      | some y=>rw [hx] at h1; simp at h1; rw [h1]
    . rintro ⟨h1,h2⟩
      exact ⟨by rw [h1]; rfl,h2⟩
  constructor
  . rintro ⟨⟨t,rfl,h1,h2⟩,h3⟩
    obtain ⟨h4,h5⟩:=(key t h1).1 h3;exact ⟨t,rfl,h1,h2,h4,h5⟩
  . rintro ⟨t,rfl,h1,h2,h4,h5⟩
    exact ⟨⟨t,rfl,h1,h2⟩,(key t h1).2 ⟨h4,h5⟩⟩
set_option maxHeartbeats 4000000 in
theorem lpOf_call (hn:s.length≤64) (hsum:(s.map List.length).sum+s.length+1≤lim) (hll:∀ l∈s,l.length≤lim) (hk:∀ out,LoopsTo s s.length out→K (vM 2 vLp out) h) :
    qBl prog 17 [vL (vL vI) s] h K:=by
  refine qBl.forget ?_;refine call_lpOf (by simp) ?_
  have hlim:lim=1048576:=rfl;have h64:¬ (64:Int) < s.length:=by omega
  have h64n:¬ 64 < s.length:=by omega
  simp [-qAt,qAk,qAn,qAl,qAh,qAg,qAe,qAb,qAd,qAa,qAi,qAf,qAc,qAs,qAu,resV,retV,qAm,qAj,qAr,qAq,qAp,qAo,qTf];rw [qAt];simp [-qAt,qAk,qAn,qAl,qAh,qAg,qAe,qAb,qAd,qAa,qAi,qAf,qAc,qAs,qAu,resV,retV,qAm,qAj,qAr,qAq,qAp,qAo,h64,h64n];refine Preds_call (by omega) hll ?_
  simp [-qAt,qAk,qAn,qAl,qAh,qAg,qAe,qAb,qAd,qAa,qAi,qAf,qAc,qAs,qAu,resV,retV,qAm,qAj,qAr,qAq,qAp,qAo,callK_def];refine Doms_call hn hsum fun d hd=>?_
  simp [-qAt,qAk,qAn,qAl,qAh,qAg,qAe,qAb,qAd,qAa,qAi,qAf,qAc,qAs,qAu,resV,retV,qAm,qAj,qAr,qAq,qAp,qAo,callK_def];refine Reach_call hsum fun re hr hre=>?_
  have hz:cellsOf (.agg #[vL (vL vI) s,vL (vL vI) (qFp s),vL vU d,vL vB re])=some [vL (vL vI) s,vL (vL vI) (qFp s),vL vU d,vL vB re]:=rfl;simp [-qAt,qAk,qAn,qAl,qAh,qAg,qAe,qAb,qAd,qAa,qAi,qAf,qAc,qAs,qAu,resV,retV,qAm,qAj,qAr,qAq,qAp,qAo,callK_def,hz];rw [qAt];simp [-qAt,qAk,qAn,qAl,qAh,qAg,qAe,qAb,qAd,qAa,qAi,qAf,qAc,qAs,qAu,resV,retV,qAm,qAj,qAr,qAq,qAp,qAo,hz];obtain ⟨H0,hH0⟩:∃ H0,H0=h++[bx [vL (vL vI) s,vL (vL vI) (qFp s),vL vU d,vL vB re] 4]:=⟨_,rfl⟩
  have hH0l:H0.length=h.length+1:=by rw [hH0]; simp
  have G0:GrB H0 h.length s d re:=by
    subst hH0;exact ⟨by simp [qAk,qAn,qAl,qAh,qAg,qAe,qAb,qAd,qAa,qAi,qAf,qAc,qAs,qAu,resV,retV,qAm,qAj,qAr,qAq,qAp,qAo],by simp [qAk,qAn,qAl,qAh,qAg,qAe,qAb,qAd,qAa,qAi,qAf,qAc,qAs,qAu,resV,retV,qAm,qAj,qAr,qAq,qAp,qAo],by simp [qAk,qAn,qAl,qAh,qAg,qAe,qAb,qAd,qAa,qAi,qAf,qAc,qAs,qAu,resV,retV,qAm,qAj,qAr,qAq,qAp,qAo],by simp [qAk,qAn,qAl,qAh,qAg,qAe,qAb,qAd,qAa,qAi,qAf,qAc,qAs,qAu,resV,retV,qAm,qAj,qAr,qAq,qAp,qAo],by simp⟩
  rw [← hH0];refine qDh (σ:=Nat×List (Nat×Nat)×Value×Heap) (fun x=>[(3,ptr h.length),(4,x.2.2.1),(20,vI s.length),(21,vI x.1)]) (fun x=>x.2.2.2) (fun x=>x.1≤s.length∧LoopsTo s x.1 x.2.1∧AccM 2 vLp (h.length+1) x.2.2.2 x.2.2.1 x.2.1∧qBs (h.length+1) H0 x.2.2.2) (fun x=>s.length - x.1) (0,[],nilS,H0) (by simp) rfl ⟨by simp,.zero,AccM.nil,.refl _ _⟩ ?_
  rintro ⟨k,out,ov,H⟩ fr ⟨hk1,hlt,ha,kp⟩;simp only at hk1 hlt ha kp ⊢;have G1:GrB H h.length s d re:=G0.keep (kp.2 _ (by omega)) kp.1
  have hHl:h.length+1≤H.length:=by have:=kp.1; omega
  by_cases hlt2:k < s.length
  . obtain ⟨k1,hk11,wk⟩:=qBr (show k < lim by omega)
    have hkf:(k:Int) < s.length:=by omega
    have hbl:(qDc s s.length k).length≤s.length:=by
      unfold qDc;rw [List.length_map];exact Nat.le_trans (List.length_filter_le _ _) (by simp)
    have hBl:(qLm s d re k).length≤s.length:=Nat.le_trans (List.length_filter_le _ _) hbl;have hmem:=fun x=>mem_backsL (s:=s) hd hre hn (k:=k) (x:=x) hlt2
    simp [-qAt,qAk,qAn,qAl,qAh,qAg,qAe,qAb,qAd,qAa,qAi,qAf,qAc,qAs,qAu,resV,retV,qAm,qAj,qAr,qAq,qAp,qAo,hkf];rw [qAt];simp [-qAt,qAk,qAn,qAl,qAh,qAg,qAe,qAb,qAd,qAa,qAi,qAf,qAc,qAs,qAu,resV,retV,qAm,qAj,qAr,qAq,qAp,qAo];rw [qAt];simp [-qAt,qAk,qAn,qAl,qAh,qAg,qAe,qAb,qAd,qAa,qAi,qAf,qAc,qAs,qAu,resV,retV,qAm,qAj,qAr,qAq,qAp,qAo];refine lpBacks_call G1 hr hd.len hd.lt hlt2 (by omega) fun v g O=>?_
    have hvl:=O.len;simp [-qAt,qAk,qAn,qAl,qAh,qAg,qAe,qAb,qAd,qAa,qAi,qAf,qAc,qAs,qAu,resV,retV,qAm,qAj,qAr,qAq,qAp,qAo,callK_def,hvl]
    by_cases hB:qLm s d re k=[]
    . have hno:¬ ∃ t,qHp s k t:=by
        rintro ⟨t,ht⟩;have:=(hmem (t:Int)).2 ⟨t,rfl,ht⟩;rw [hB] at this; simp at this
      simp [qAk,qAn,qAl,qAh,qAg,qAe,qAb,qAd,qAa,qAi,qAf,qAc,qAs,qAu,resV,retV,qAm,qAj,qAr,qAq,qAp,qAo,hB,wk];exact .go (k1,out,ov,H++g) (by simp only []; omega) (by simp) rfl ⟨by simp only []; omega,by rw [hk11]; exact .none hlt hno,ha.ext qBs.app,kp.trans ⟨by simp,fun i hi=>List.getElem?_append_left (by omega)⟩⟩
    . obtain ⟨n,hn1,hn0⟩:∃ n:Nat,n=(qLm s d re k).length∧0 < n:=⟨_,rfl,List.length_pos_iff.2 hB⟩
      have hn0I:(0:Int) < n:=by omega
      obtain ⟨x0,hx0⟩:=List.exists_mem_of_ne_nil _ hB;obtain ⟨t0,rfl,hb0⟩:=(hmem x0).1 hx0;rw [← hn1];simp [-qAt,qAk,qAn,qAl,qAh,qAg,qAe,qAb,qAd,qAa,qAi,qAf,qAc,qAs,qAu,resV,retV,qAm,qAj,qAr,qAq,qAp,qAo,hn0,hn0I];refine lpBody_call (hlow:=H.length) (G1.ext g) (by omega) (by simp) O hn hr hre hlt2 (fun x hx=>?_) (fun t ht=>(hmem (t:Int)).2 ⟨t,rfl,ht⟩) (by omega) fun B H2 hBo kp2=>?_
      . obtain ⟨t,rfl,ht⟩:=(hmem x).1 hx
        exact ⟨t,rfl,ht.1,fun _=>.back ht⟩
      have kp3:qBs H.length H H2:=⟨by have:=kp2.1; simp at this; omega,fun i hi=>by rw [kp2.2 i hi,List.getElem?_append_left hi]⟩
      simp [-qAt,qAk,qAn,qAl,qAh,qAg,qAe,qAb,qAd,qAa,qAi,qAf,qAc,qAs,qAu,resV,retV,qAm,qAj,qAr,qAq,qAp,qAo,callK_def];refine bList_call hBo.lt ?_;have ha2:AccM 2 vLp (h.length+1) H2 ov out:=ha.ext kp3;simp [-qAt,qAk,qAn,qAl,qAh,qAg,qAe,qAb,qAd,qAa,qAi,qAf,qAc,qAs,qAu,resV,retV,qAm,qAj,qAr,qAq,qAp,qAo,callK_def];refine ha2.pushK (by have:=kp3.1; omega) (by have:=hlt.len; omega) (x:=(k,B)) (cs:=[vI k,vL vI (qCc B)]) rfl (by simp) fun v' h' a1 a2 a3 a4=>?_
      simp [qAk,qAn,qAl,qAh,qAg,qAe,qAb,qAd,qAa,qAi,qAf,qAc,qAs,qAu,resV,retV,qAm,qAj,qAr,qAq,qAp,qAo,wk];exact .go (k1,out++[(k,B)],v',h') (by simp only []; omega) (by simp) rfl ⟨by simp only []; omega,by rw [hk11]; exact .one hlt hb0 hBo,a1,kp.trans (qBs.trans ⟨kp3.1,fun i hi=>kp3.2 i (by omega)⟩ a2)⟩
  . obtain rfl:k=s.length:=by omega
    have hif:¬ (s.length:Int) < s.length:=by omega
    simp [qAk,qAn,qAl,qAh,qAg,qAe,qAb,qAd,qAa,qAi,qAf,qAc,qAs,qAu,resV,retV,qAm,qAj,qAr,qAq,qAp,qAo,hif];have kh:qBs h.length h H:=⟨by omega,fun i hi=>by rw [kp.2 i (by omega),hH0,List.getElem?_append_left hi]⟩
    exact ⟨kh.ext,_,AccM.inl (F:=vLp) (b:=h.length) (by
      rcases ha with h1 | ⟨id,ver,h1,h2,h3,h4⟩
      . exact Or.inl h1
      . exact Or.inr ⟨id,ver,h1,by omega,h3,h4⟩) (fun _=>rfl),hk out hlt⟩
end
end Pm
