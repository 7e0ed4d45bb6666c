/- Graphs: what the program's functions on them yield.
   No condition: plain lemmas. -/
import Derived.Test.YtdiggaadgjkgkaaGreatDoorZNAmRep
import Derived.Test.YtdiggaadgjkgkaaGreatDoorZNAmCfgC
namespace Am
set_option linter.unusedSimpArgs false
set_option linter.unusedVariables false
open Go
open Go.Proofs.Tryz (prog)

def Small (s:List (List Int)) (n k:Nat):Prop:=1≤s.length∧s.length≤n∧(s.map List.length).sum≤k

theorem qSz:∀ {l:List Nat} {x:Nat},x∈l→x≤l.sum
  | a :: l,x,h=>by
    rcases List.mem_cons.1 h with rfl | h
    . simp
    . have:=qSz h; simp; omega
theorem Small.one {s:List (List Int)} {i:Nat} (h:i < s.length):s[i].length≤(s.map List.length).sum:=by
  have:s[i].length∈s.map List.length:=List.mem_map.2 ⟨s[i],List.getElem_mem h,rfl⟩;exact qSz this

theorem sum_set:∀ (l:List Nat) (i x y:Nat),l[i]?=some x→(l.set i y).sum+x=l.sum+y
  | [],i,x,y,h=>by simp at h
  | a :: l,0,x,y,h=>by simp at h; subst h; simp; omega
  | a :: l,i+1,x,y,h=>by
    have:=sum_set l i x y (by simpa using h)
    simp; omega

/-! ### What is come to -/
inductive Come (s:List (List Int)):Nat→Prop
  | start (h:0 < s.length):Come s 0
  | step {i j:Nat} {l:List Int} (h:Come s i) (hl:s[i]?=some l) (hj:(j:Int)∈l) (hlt:j < s.length):Come s j

abbrev vB:Bool→Value:=Value.bool
def work (s:List (List Int)) (seen:List Bool):Nat:=((s.zip seen).map fun p=>if p.2 then 0 else p.1.length+1).sum

theorem work_set {s:List (List Int)} {seen:List Bool} {i:Nat} {l:List Int} (hi:s[i]?=some l) (hs:seen[i]?=some false):work s (seen.set i true)+(l.length+1)=work s seen:=by
  unfold work;have e:((s.zip (seen.set i true)).map fun p=>if p.2 then 0 else p.1.length+1)=((s.zip seen).map fun p=>if p.2 then 0 else p.1.length+1).set i 0:=by
    apply List.ext_getElem?;intro j
    by_cases hj:j=i
    . subst hj
      have h1:=(List.getElem?_eq_some_iff.1 hi).1;have h2:=(List.getElem?_eq_some_iff.1 hs).1;rw [List.getElem?_set_self (by simp [List.zip]; omega)]
      simp [List.zip,List.getElem?_zipWith,h2,hi]
    . simp [List.zip,List.getElem?_set_ne (Ne.symm hj),List.getElem?_zipWith]
  rw [e];have:=sum_set ((s.zip seen).map fun p=>if p.2 then 0 else p.1.length+1) i (l.length+1) 0 (by simp [List.zip,List.getElem?_zipWith,hi,hs])
  omega
theorem work_new (s:List (List Int)):work s (List.replicate s.length false)=(s.map List.length).sum+s.length:=by
  unfold work
  induction s with
  | nil=>rfl
  | cons l s ih=>simp [List.replicate_succ] at ih ⊢; omega

theorem L2.mono' {H H':Heap} {v:Value} {s:List (List Int)} {S:Nat→Prop} (hv:L2 vI S H v s) (hS:∀ i,S i→i < H.length) (hlow:∀ i,i < H.length→H'[i]?=H[i]?):L2 vI S H' v s :=
  hv.mono (fun _ x=>x) fun i hi=>(hlow i (hS i hi)).symm
theorem low_app {H ext:Heap}:∀ i,i < H.length→(H++ext)[i]?=H[i]?:=fun i hi=>List.getElem?_append_left hi

theorem take_last {cells:List Value} {L:List Int} {x:Int} (h:cells.take (L.length+1)=(L++[x]).map vI):cells[L.length]?=some (vI x)∧cells.take L.length=L.map vI:=by
  constructor
  . have:(cells.take (L.length+1))[L.length]?=some (vI x):=by rw [h]; simp
    rw [List.getElem?_take,if_pos (by omega)] at this; exact this
  . have:(cells.take (L.length+1)).take L.length=L.map vI:=by rw [h]; simp
    rw [List.take_take] at this; rw [← this]; congr 1; omega

structure RInv (s:List (List Int)) (seen:List Bool) (L:List Int):Prop where
  len:seen.length=s.length
  big:L.length+work s seen≤lim
  k1:∀ i,seen[i]?=some true→Come s i
  k2:∀ i:Nat,(i:Int)∈L→i < s.length→Come s i
  k3:∀ (i:Nat) (l:List Int) (j:Nat),seen[i]?=some true→s[i]?=some l→(j:Int)∈l→j < s.length→seen[j]?=some true∨(j:Int)∈L
  k4:0 < s.length→(0:Int)∈L∨seen[0]?=some true

theorem RInv.new {s:List (List Int)} (hl:(s.map List.length).sum+s.length+1≤lim):RInv s (List.replicate s.length false) [0]:=by
  refine ⟨by simp,by rw [work_new]; simp; omega,fun i h=>?_,fun i h hi=>?_,fun i l j h=>?_,fun _=>by simp⟩
  . have:=List.getElem?_eq_some_iff.1 h; simp at this
  . simp at h; subst h; exact .start hi
  . have:=List.getElem?_eq_some_iff.1 h; simp at this
theorem RInv.skip {s:List (List Int)} {seen:List Bool} {L:List Int} {x:Int} (h:RInv s seen (L++[x])) (hx:∀ i:Nat,(i:Int)=x→i < s.length→seen[i]?=some true):RInv s seen L:=by
  refine ⟨h.len,by have:=h.big; simp at this; omega,h.k1,fun i hi=>h.k2 i (by simp [hi]),fun i l j h1 h2 h3 h4=>?_,fun hs=>?_⟩
  . rcases h.k3 i l j h1 h2 h3 h4 with h | h
    . exact .inl h
    . rcases List.mem_append.1 h with h | h
      . exact .inr h
      . exact .inl (hx j (List.mem_singleton.1 h) h4)
  . rcases h.k4 hs with h | h
    . rcases List.mem_append.1 h with h | h
      . exact .inl h
      . exact .inr (hx 0 (List.mem_singleton.1 h) hs)
    . exact .inr h
theorem RInv.go {s:List (List Int)} {seen:List Bool} {L:List Int} {i:Nat} {l:List Int} (h:RInv s seen (L++[(i:Int)])) (hi:s[i]?=some l) (hs:seen[i]?=some false):RInv s (seen.set i true) (L++l):=by
  have hil:=(List.getElem?_eq_some_iff.1 hi).1;have hsl:=(List.getElem?_eq_some_iff.1 hs).1;have hci:Come s i:=h.k2 i (by simp) hil
  have old:∀ {j:Nat},seen[j]?=some true→(seen.set i true)[j]?=some true:=by
    intro j hj
    by_cases e:j=i
    . subst e; rw [hs] at hj; cases hj
    . rw [List.getElem?_set_ne (Ne.symm e)]; exact hj
  refine ⟨by simpa using h.len,?_,fun j hj=>?_,fun j hj hjl=>?_,fun j l' k h1 h2 h3 h4=>?_,fun h0=>?_⟩
  . have:=h.big; have:=work_set hi hs; simp at *; omega
  . by_cases e:j=i
    . subst e; exact hci
    . rw [List.getElem?_set_ne (Ne.symm e)] at hj; exact h.k1 j hj
  . rcases List.mem_append.1 hj with hj | hj
    . exact h.k2 j (by simp [hj]) hjl
    . exact .step hci hi hj hjl
  . by_cases e:j=i
    . subst e; rw [hi] at h2; cases h2; exact .inr (by simp [h3])
    . rw [List.getElem?_set_ne (Ne.symm e)] at h1
      rcases h.k3 j l' k h1 h2 h3 h4 with q | q
      . exact .inl (old q)
      . rcases List.mem_append.1 q with q | q
        . exact .inr (by simp [q])
        . have:k=i:=by have:=List.mem_singleton.1 q; omega
          subst this; exact .inl (by simp [hsl])
  . rcases h.k4 h0 with q | q
    . rcases List.mem_append.1 q with q | q
      . exact .inl (by simp [q])
      . have:0=i:=by have:=List.mem_singleton.1 q; omega
        subst this; exact .inr (by simp [hsl])
    . exact .inr (old q)
theorem RInv.done {s:List (List Int)} {seen:List Bool} (h:RInv s seen []) (i:Nat):seen[i]?=some true↔Come s i:=by
  refine ⟨h.k1 i,fun hc=>?_⟩
  induction hc with
  | start h0=>simpa using h.k4 h0
  | step _ hl hj hlt ih=>simpa using h.k3 _ _ _ ih hl hj hlt

set_option maxHeartbeats 1000000 in
theorem Reach_spec {H:Heap} {v:Value} {s:List (List Int)} {S:Nat→Prop} (hv:L2 vI S H v s) (hS:∀ i,S i→i < H.length) (hl:(s.map List.length).sum+s.length+1≤lim) :
    qCq prog 38 [v] H fun r H'=>∃ seen:List Bool,L1 vB (From H.length) H' r seen∧(∃ ext,H'=H++ext)∧seen.length=s.length∧∀ i,seen[i]?=some true↔Come s i:=by
  refine call_Reach (by simp) ?_
  have hn:(s.length:Int)≤lim:=by omega
  simp [qQb,qBv,hv.len,qIc,newRow,qKv,qEa,cellsOf,setAll,hn];refine loop_rule (fun m fr H'=>fr 0=v∧fr 3=.slice (some ⟨H.length,0,none⟩) s.length 0∧∃ (seen:List Bool) (L:List Int) (cells:List Value) (ver:Nat),
    fr 4=.slice (some ⟨H.length+1,0,none⟩) L.length ver∧H'=H++[.row ⟨seen.map vB,1,0,true⟩,.row ⟨cells,1,ver,true⟩]∧cells.take L.length=L.map vI∧L.length≤cells.length ∧
    m=L.length+work s seen∧RInv s seen L) ?_ (n:=1+work s (List.replicate s.length false)) ?_
  . rintro m fr H' ⟨h0,h3,seen,L,cells,ver,h4,rfl,hc1,hc2,rfl,hI⟩
    rcases List.eq_nil_or_concat L with rfl | ⟨L,x,rfl⟩
    . simp [h3,h4,qAs,qAu,resV,retV]
      refine ⟨seen,?_,hI.len,hI.done⟩;rw [← hI.len]; exact L1.ofRow (rw:=true) (by simp) (Nat.le_refl _)
    . simp only [List.concat_eq_append] at *
      obtain ⟨g1,g2⟩:=take_last (by simpa using hc1)
      have hc:L.length+1≤cells.length:=by simpa using hc2
      obtain ⟨q,hq⟩:∃ q,q=L.length:=⟨_,rfl⟩;have hb:q+1+work s seen≤lim:=by have:=hI.big; simp at this; omega
      have w1:IntKind.i64.wrap (q:Int)=q:=wrap_i64 (by omega) (by simp [lim] at hb; omega)
      rw [← hq] at g1 g2 hc;have h4':fr 4=.slice (some ⟨H.length+1,0,none⟩) (q+1) ver:=by rw [h4]; simp [hq]
      have c0:(0:Int) < (q:Int)+1:=by omega
      have c1:(q:Int) < (q:Int)+1:=by omega
      have c2:(q:Int)≤(q:Int)+1:=by omega
      by_cases x1:x < 0
      . simp [h0,h3,h4',c0,c1,c2,w1,Heap.cell?,Heap.row?,g1,x1]
        exact ⟨_,by omega,seen,L,cells,ver,⟨hq,rfl⟩,⟨rfl,rfl,rfl⟩,hq ▸ g2,by omega,rfl,hI.skip fun i e _=>by omega⟩
      . obtain ⟨i,rfl⟩:∃ i:Nat,x=i:=⟨x.toNat,by omega⟩
        by_cases x2:i < s.length
        . have x2':¬ s.length≤i:=by omega
          have x3:(i:Int) < s.length:=by omega
          obtain ⟨b,hb'⟩:∃ b,seen[i]?=some b:=⟨_,List.getElem?_eq_getElem (by rw [hI.len]; exact x2)⟩
          cases b with
          | true =>
            simp [h0,h3,h4',c0,c1,c2,w1,Heap.cell?,Heap.row?,g1,x1,hv.len,x2',x2,x3,hb',vB];exact ⟨_,by omega,seen,L,cells,ver,⟨hq,rfl⟩,⟨rfl,rfl,rfl⟩,hq ▸ g2,by omega,rfl,hI.skip fun j e _=>(show j=i by omega) ▸ hb'⟩
          | false =>
            have hv':=L2.mono' (H':=H++[.row ⟨(seen.map vB).set i (.bool true),1,0,true⟩,.row ⟨cells,1,ver,true⟩]) hv hS low_app;obtain ⟨p,w,e1,e2,e3⟩:=L2.at hv' (List.getElem?_eq_getElem x2);have e4:=e3.elems;have hwk:=work_set (List.getElem?_eq_getElem x2) hb';have hlm:L.length+s[i].length≤lim:=by omega
            have hsl:i < seen.length:=by rw [hI.len]; exact x2
            have hsl':i+1≤seen.length:=hsl;have hqc:q≤cells.length:=by omega
            rw [← hq] at hlm;have hb2:seen[i]=false:=(List.getElem?_eq_some_iff.1 hb').2;simp [h0,h3,h4',c0,c1,c2,w1,Heap.cell?,Heap.row?,g1,x1,hv.len,x2',x2,x3,hb',vB,qBu,cellsOf,setAll,e1,e2,appV,e4,hsl,hsl',hb2,hqc,hlm];exact ⟨(L++s[i]).length+work s (seen.set i true),by simp; omega,seen.set i true,L++s[i],cells.take q++s[i].map vI,ver+1,⟨by simp [hq],rfl⟩,⟨by simp,rfl,rfl⟩,
              by rw [g2,← List.map_append]; exact List.take_of_length_le (by simp),by rw [g2]; simp,rfl,hI.go (List.getElem?_eq_getElem x2) hb'⟩
        . have x2':s.length≤i:=by omega
          simp [h0,h3,h4',c0,c1,c2,w1,Heap.cell?,Heap.row?,g1,x1,hv.len,x2',x2];exact ⟨_,by omega,seen,L,cells,ver,⟨hq,rfl⟩,⟨rfl,rfl,rfl⟩,hq ▸ g2,by omega,rfl,hI.skip fun j e _=>by omega⟩
  . exact ⟨by simp [qBv],by simp,List.replicate s.length false,[0],[vI 0],0,by simp,by simp [vB],by simp,by simp,by simp,RInv.new hl⟩
end Am
