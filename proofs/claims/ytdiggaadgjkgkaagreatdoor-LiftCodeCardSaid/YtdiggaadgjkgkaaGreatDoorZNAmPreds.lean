/- Graphs: the way back.
   No condition: plain lemmas. -/
import Derived.Test.YtdiggaadgjkgkaaGreatDoorZNAmCfg1
namespace Am
set_option linter.unusedSimpArgs false
set_option linter.unusedVariables false
open Go
open Go.Proofs.Tryz (prog)

def qDr (s:List (List Int)) (i:Nat):List Int:=(s[i]?).getD []
def qDc (s:List (List Int)) (i j:Nat):List Int:=((List.range i).filter fun a=>decide ((j:Int)∈qDr s a)).map Int.ofNat
def qFp (s:List (List Int)):List (List Int):=(List.range s.length).map fun j=>qDc s s.length j
def qKx (s:List (List Int)) (i k j:Nat):List Int:=qDc s i j++if (j:Int)∈(qDr s i).take k then [(i:Int)] else []

theorem qEe {s:List (List Int)} {i:Nat} {l:List Int} (h:s[i]?=some l):qDr s i=l:=by simp [qDr,h]
theorem qDw {s:List (List Int)} {i j:Nat} {x:Int}:x∈qDc s i j↔∃ a:Nat,x=a∧a < i∧(j:Int)∈qDr s a:=by
  simp only [qDc,List.mem_map,List.mem_filter,List.mem_range,decide_eq_true_eq];constructor
  . rintro ⟨a,⟨h1,h2⟩,rfl⟩; exact ⟨a,rfl,h1,h2⟩
  . rintro ⟨a,rfl,h1,h2⟩; exact ⟨a,⟨h1,h2⟩,rfl⟩
theorem qNu (s:List (List Int)) (i j:Nat):(qDc s i j).length≤i:=by
  unfold qDc;rw [List.length_map];exact Nat.le_trans (List.length_filter_le _ _) (by simp)
theorem backs_succ (s:List (List Int)) (i j:Nat):qDc s (i+1) j=qKx s i (qDr s i).length j:=by
  unfold qKx;rw [List.take_length];simp only [qDc,List.range_succ,List.filter_append,List.map_append,List.filter_cons,List.filter_nil]
  congr 1
  by_cases h:(j:Int)∈qDr s i
  . rw [if_pos h,if_pos (by simpa using h)]; rfl
  . rw [if_neg h,if_neg (by simpa using h)]; rfl
theorem predI_zero (s:List (List Int)) (i j:Nat):qKx s i 0 j=qDc s i j:=by simp [qKx]
theorem qJz {s:List (List Int)} {j:Nat} (hj:j < s.length):(qFp s)[j]?=some (qDc s s.length j):=by simp [qFp,hj]
theorem preds_len (s:List (List Int)):(qFp s).length=s.length:=by simp [qFp]
theorem qFb {l:List Int} {k:Nat} (hk:k < l.length) {x:Int}:x∈l.take (k+1)↔x∈l.take k∨x=l[k]:=by
  rw [← List.take_append_getElem hk,List.mem_append,List.mem_singleton]

def PInv (s out:List (List Int)) (i k:Nat):Prop:=out.length=s.length∧∀ j,j < s.length→out[j]?=some (qKx s i k j)

theorem PInv.skip {s out:List (List Int)} {i k:Nat} {l:List Int} (h:PInv s out i k) (hl:s[i]?=some l) (hk:k < l.length) (hx:∀ j:Nat,(j:Int)=l[k]→j < s.length→(j:Int)∈l.take k):PInv s out i (k+1):=by
  refine ⟨h.1,fun j hj=>?_⟩
  rw [h.2 j hj];simp only [qKx,qEe hl]
  by_cases hm:(j:Int)∈l.take k
  . rw [if_pos hm,if_pos ((qFb hk).2 (.inl hm))]
  . rw [if_neg hm,if_neg fun h'=>((qFb hk).1 h').elim hm fun h'=>hm (hx j h' hj)]
theorem PInv.push {s out:List (List Int)} {i k x:Nat} {l:List Int} (h:PInv s out i k) (hl:s[i]?=some l) (hk:k < l.length) (hx:(x:Int)=l[k]) (hxs:x < s.length) (hm:¬ (x:Int)∈l.take k):PInv s (out.set x (qDc s i x++[(i:Int)])) i (k+1):=by
  refine ⟨by simp [h.1],fun j hj=>?_⟩
  simp only [qKx,qEe hl]
  by_cases e:j=x
  . subst e
    rw [List.getElem?_set_self (by rw [h.1]; exact hj),if_pos ((qFb hk).2 (.inr hx))]
  . rw [List.getElem?_set_ne (Ne.symm e),h.2 j hj]
    have e':(j:Int)≠l[k]:=by rw [← hx]; omega
    simp only [qKx,qEe hl]
    by_cases hm:(j:Int)∈l.take k
    . rw [if_pos hm,if_pos ((qFb hk).2 (.inl hm))]
    . rw [if_neg hm,if_neg fun h'=>((qFb hk).1 h').elim hm e']
theorem PInv.next {s out:List (List Int)} {i k:Nat} {l:List Int} (h:PInv s out i k) (hl:s[i]?=some l) (hk:l.length=k):PInv s out (i+1) 0:=by
  exact ⟨h.1,fun j hj=>by rw [h.2 j hj,predI_zero,backs_succ,qEe hl,hk]⟩
theorem PInv.done {s out:List (List Int)} (h:PInv s out s.length 0):out=qFp s:=by
  apply List.ext_getElem?;intro j
  by_cases hj:j < s.length
  . rw [h.2 j hj,qJz hj,predI_zero]
  . rw [List.getElem?_eq_none (by rw [h.1]; omega),List.getElem?_eq_none (by rw [preds_len]; omega)]

set_option maxHeartbeats 2000000 in
theorem Preds_spec {H:Heap} {v:Value} {s:List (List Int)} {S:Nat→Prop} (hv:L2 vI S H v s) (hS:∀ i,S i→i < H.length) (hl:s.length < lim) (hll:∀ l∈s,l.length≤lim) :
    qCq prog 36 [v] H fun r H'=>L2 vI (From H.length) H' r (qFp s)∧(∀ i,i < H.length→H'[i]?=H[i]?)∧H.length≤H'.length:=by
  refine call_Preds (by simp) ?_
  have hn:(s.length:Int)≤lim:=by omega
  have hlim:lim=1048576:=rfl;simp [qQf,qBv,hv.len,qIc,newRow,qKv,hn];refine loop_rule (fun m fr H'=>fr 12=v∧fr 13=.int .i64 s.length∧∃ (i:Nat) (out:List (List Int)),fr 14=.int .i64 i∧m=s.length - i∧i≤s.length∧PInv s out i 0∧Own2 vI H.length H' (fr 3) out∧(∀ i,i < H.length→H'[i]?=H[i]?)∧H.length≤H'.length) ?_ (n:=s.length) ?_
  . rintro m fr H' ⟨h12,h13,i,out,h14,rfl,hi,hP,hown,hlow,hlen⟩
    obtain ⟨i',hi'⟩:∃ j,j=i+1:=⟨_,rfl⟩;have wi:IntKind.i64.wrap ((i:Int)+1)=(i':Int):=by rw [wrap_i64 (by omega) (by omega)]; omega
    by_cases hlt:i < s.length
    . obtain ⟨l,hl'⟩:∃ l,s[i]?=some l:=⟨_,List.getElem?_eq_getElem hlt⟩
      have hlb:=hll l (List.mem_of_getElem? hl');obtain ⟨p,w,e1,e2,e3⟩:=L2.at (L2.mono' (H':=H') hv hS hlow) hl';have e3':=(L2.mono' hv hS (fun i _=>rfl)).at hl'
      simp [h12,h13,h14,hlt,e1,e2,e3.len];refine loop_rule (fun m fr H'=>fr 12=v∧fr 13=.int .i64 s.length∧fr 14=.int .i64 i∧fr 4=.int .i64 i∧fr 19=w∧fr 20=.int .i64 l.length∧∃ (k:Nat) (out:List (List Int)),fr 21=.int .i64 k∧m=l.length - k∧k≤l.length∧PInv s out i k ∧
        Own2 vI H.length H' (fr 3) out∧(∀ i,i < H.length→H'[i]?=H[i]?)∧H.length≤H'.length∧L1 vI S H' w l) ?_ (n:=l.length) ?_
      . clear hP hown hlow hlen h12 h13 h14 out e1 e2 e3
        rintro m fr H' ⟨h12,h13,h14,h4,h19,h20,k,out,h21,rfl,hk,hP,hown,hlow,hlen,hw⟩;obtain ⟨k',hk'⟩:∃ j,j=k+1:=⟨_,rfl⟩;have wk:IntKind.i64.wrap ((k:Int)+1)=(k':Int):=by rw [wrap_i64 (by omega) (by omega)]; omega
        by_cases hkl:k < l.length
        . obtain ⟨p2,e4,e5⟩:=L1.at hw (List.getElem?_eq_getElem hkl)
          obtain ⟨x,hx⟩:∃ x,x=l[k]:=⟨_,rfl⟩;rw [← hx] at e5
          by_cases x1:x < 0
          . simp [h12,h13,h14,h4,h19,h20,h21,hkl,e4,e5,x1,wk]
            exact ⟨_,by omega,k',rfl,rfl,by omega,out,hk' ▸ hP.skip hl' hkl fun j h1 h2=>by omega,hown,hlow,hlen,hw⟩
          . obtain ⟨j,rfl⟩:∃ j:Nat,x=j:=⟨x.toNat,by omega⟩
            by_cases x2:j < s.length
            . have x2':¬ out.length≤j:=by rw [hP.1]; omega
              obtain ⟨q,y,f1,f2,f3,f4⟩:=hown.push (hP.2 j x2);have hg:=qEe hl'
              by_cases hm:(j:Int)∈l.take k
              . have e0:qKx s i k j=qDc s i j++[(i:Int)]:=by simp only [qKx,hg,if_pos hm]
                rw [e0] at f3;obtain ⟨n,hn'⟩:∃ n,n=(qDc s i j).length:=⟨_,rfl⟩;obtain ⟨p3,e6,e7⟩:=L1.at f3 (i:=n) (x:=(i:Int)) (by simp [hn'])
                have hnb:=qNu s i j;have wn:IntKind.i64.wrap (n:Int)=(n:Int):=wrap_i64 (by omega) (by omega)
                have hfl:lenV y=some (.int .i64 ((n+1:Nat):Int)):=by rw [f3.len]; simp [hn']
                have hn1:¬ ((n:Int)+1=0):=by omega
                simp [h12,h13,h14,h4,h19,h20,h21,hkl,e4,e5,x1,hown.to.len,x2',f1,f2,hfl,hn1,e6,e7,wn,wk];exact ⟨_,by omega,k',rfl,rfl,by omega,out,hk' ▸ hP.skip hl' hkl fun j' h1 h2=>(show j'=j by omega) ▸ hm,hown,hlow,hlen,hw⟩
              . have e0:qKx s i k j=qDc s i j:=by simp only [qKx,hg,if_neg hm,List.append_nil]
                rw [e0] at f3 f4;have hnb:=qNu s i j;have hres:∀ H3:Heap,(∀ id,id < H.length→H3[id]?=H'[id]?)→H'.length≤H3.length→Own2 vI H.length H3 (fr 3) (out.set j (qDc s i j++[(i:Int)]))→∃ m,m < l.length - k∧∃ k1:Nat,(k':Int)=k1∧m=l.length - k1∧k1≤l.length∧∃ out',PInv s out' i k1 ∧
                    Own2 vI H.length H3 (fr 3) out'∧(∀ i,i < H.length→H3[i]?=H[i]?)∧H.length≤H3.length∧L1 vI S H3 w l :=
                  fun H3 g3 g4 g2=>⟨_,by omega,k',rfl,rfl,by omega,_,hk' ▸ hP.push hl' hkl hx x2 hm,g2,fun id hid=>(g3 id hid).trans (hlow id hid),by omega,hw.mono (fun _ h=>h) fun id hid=>(g3 id (hS id hid)).symm⟩
                by_cases hz:qDc s i j=[]
                . have hfl:lenV y=some (.int .i64 0):=by rw [f3.len,hz]; rfl
                  simp [h12,h13,h14,h4,h19,h20,h21,hkl,e4,e5,x1,hown.to.len,x2',f1,f2,hfl,qEa,cellsOf,setAll,newRow];rw [eK_optK];refine f4 _ _ [_] _ (fun id hid=>by rw [List.getElem?_append_left hid]) (by simp) (by simp [qDz,Heap.cells?,Heap.row?]; rfl) (by simp [lim]; omega) fun w' H2 H3 g1 g2 g3 g4=>?_
                  simp [g1,h12,h13,h14,h4,h19,h20,h21,f1,wk];exact hres H3 g3 g4 g2
                . obtain ⟨n,hn'⟩:∃ n,n+1=(qDc s i j).length:=⟨(qDc s i j).length - 1,by have:=List.length_pos_iff.2 hz; omega⟩
                  obtain ⟨z,hz'⟩:∃ z,(qDc s i j)[n]?=some z:=⟨_,List.getElem?_eq_getElem (by omega)⟩
                  obtain ⟨p3,e6,e7⟩:=L1.at f3 hz';obtain ⟨a,rfl,ha,_⟩:=qDw.1 (List.mem_of_getElem? hz');have wn:IntKind.i64.wrap (n:Int)=(n:Int):=wrap_i64 (by omega) (by omega)
                  have hfl:lenV y=some (.int .i64 ((n+1:Nat):Int)):=by rw [f3.len,← hn']
                  have hn1:¬ ((n:Int)+1=0):=by omega
                  have hai:¬ (a:Int)=(i:Int):=by omega
                  simp [h12,h13,h14,h4,h19,h20,h21,hkl,e4,e5,x1,hown.to.len,x2',f1,f2,hfl,hn1,e6,e7,wn,hai,qEa,cellsOf,setAll,newRow];rw [eK_optK];refine f4 _ _ [_] _ (fun id hid=>by rw [List.getElem?_append_left hid]) (by simp) (by simp [qDz,Heap.cells?,Heap.row?]; rfl) (by simp [lim]; omega) fun w' H2 H3 g1 g2 g3 g4=>?_
                  simp [g1,h12,h13,h14,h4,h19,h20,h21,f1,wk];exact hres H3 g3 g4 g2
            . have x2':out.length≤j:=by rw [hP.1]; omega
              simp [h12,h13,h14,h4,h19,h20,h21,hkl,e4,e5,x1,hown.to.len,x2',wk];exact ⟨_,by omega,k',rfl,rfl,by omega,out,hk' ▸ hP.skip hl' hkl fun j h1 h2=>by omega,hown,hlow,hlen,hw⟩
        . simp [h12,h13,h14,h4,h19,h20,h21,hkl,wi]
          exact ⟨_,by omega,i',rfl,rfl,by omega,out,hi' ▸ hP.next hl' (by omega),hown,hlow,hlen⟩
      . simp [h12,h13,h14]
        exact ⟨0,rfl,by simp,by simp,out,hP,hown,hlow,hlen,e3⟩
    . have:i=s.length:=by omega
      subst this;simp [h12,h13,h14,qAs,qAu,resV,retV];exact ⟨hP.done ▸ hown.to,hlow,hlen⟩
  . simp [qBv]
    exact ⟨0,rfl,by simp,by simp,List.replicate s.length [],⟨by simp,fun j hj=>by simp [hj,qKx,qDc]⟩,by simpa using Own2.make (by simp),fun i hi=>by rw [List.getElem?_append_left hi]⟩
end Am
