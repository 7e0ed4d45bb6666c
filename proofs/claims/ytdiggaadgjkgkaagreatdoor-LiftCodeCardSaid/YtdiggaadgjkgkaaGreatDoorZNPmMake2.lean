/- A program out of choices: the whole.
   No condition: plain lemmas. -/
import Derived.Test.YtdiggaadgjkgkaaGreatDoorZNPmMake
namespace Pm
set_option linter.unusedSimpArgs false
set_option linter.unusedVariables false
open Go Am
open Go.Proofs.Tryz (prog)

structure Prog where
  vars:Int
  atoms:Int
  locks:Int
  chans:List Int
  groups:Int
  onces:Int
  threads:List (List Ins)
def qTu (p:Prog):List Value:=[vI p.vars,vI p.atoms,vI p.locks,vL vI p.chans,vI p.groups,vI p.onces,vL (vM 4 vIns) p.threads]

def nThr (l:List (List Nat)):Nat:=max (min l.length 3) 1
def qNb (n i:Nat):List Ins:=if i=0 then (List.range' 1 (n - 1)).map fun (k:Nat)=>⟨12,(k:Int),0,0⟩ else []
def qJi (c:List Nat):Nat:=min (c.length / 2) 9
def qHb (c:List Nat) (hd:Nat) (m:Nat):List Ins:=(List.range m).map fun k=>qMv (c[2 * k]?.getD 0) (c[2 * k+1]?.getD 0) ((hd+k:Nat):Int) ((hd+qJi c:Nat):Int)
def qNh (l:List (List Nat)) (i:Nat):List Ins:=qNb (nThr l) i++qHb (l[i]?.getD []) (qNb (nThr l) i).length (qJi (l[i]?.getD []))
def qGv (l:List (List Nat)):Prog:=⟨2,1,1,[1],1,1,(List.range (nThr l)).map (qNh l)⟩

theorem AccM.len {α:Type} {F:α→List Value} {e b:Nat} {h:Heap} {v:Value} {l:List α} (ha:AccM e F b h v l):pLen v=some (.int .i64 l.length):=Acc.len ha
theorem AccL.len {α:Type} {f:α→Value} {b:Nat} {h:Heap} {v:Value} {l:List α} (ha:AccL f b h v l):pLen v=some (.int .i64 l.length):=Acc.len ha
theorem qRi (l:List (List Nat)):1≤nThr l∧nThr l≤3:=by unfold nThr; omega
theorem qIy (n i:Nat):(qNb n i).length=if i=0 then n - 1 else 0:=by unfold qNb; split<;>simp
theorem bodyOf_len (c:List Nat) (hd m:Nat):(qHb c hd m).length=m:=by simp [qHb]
theorem codeOf_len (l:List (List Nat)) (i:Nat):(qNh l i).length≤11:=by
  have:=qRi l;have h1:=qIy (nThr l) i;have h2:qJi (l[i]?.getD [])≤9:=by unfold qJi; omega
  rw [qNh,List.length_append,h1,bodyOf_len]
  split<;>omega
theorem bodyOf_succ (c:List Nat) (hd k:Nat):qHb c hd (k+1)=qHb c hd k++[qMv (c[2 * k]?.getD 0) (c[2 * k+1]?.getD 0) ((hd+k:Nat):Int) ((hd+qJi c:Nat):Int)]:=by
  simp [qHb,List.range_succ]

section
variable {h : Heap} {K : Value → Heap → Prop}
set_option maxHeartbeats 4000000 in
theorem Make_call {l:List (List Nat)} (hl:l.length < 9223372036854775808) (hll:∀ c∈l,c.length < 9223372036854775808) (hb:∀ c∈l,∀ x∈c,x≤255) (hk:K (.agg (qTu (qGv l)).toArray) h):qBl prog 6 [vL (vL v8) l] h K:=by
  refine qBl.forget ?_;refine call_Make (by simp) ?_
  obtain ⟨n,hn⟩:∃ n,n=nThr l:=⟨_,rfl⟩;have hn13:=qRi l;rw [← hn] at hn13;obtain ⟨m3,hm3⟩:∃ m,m=min l.length 3:=⟨_,rfl⟩;have hm1:mmV false (.int .i64 (l.length:Int)) [.int .i64 3]=some (.int .i64 (m3:Int)):=by
    rw [qKc,qRj,hm3];simp only [Bool.false_eq_true,if_false]
    congr 2
    split<;>omega
  have hm2:mmV true (.int .i64 (m3:Int)) [.int .i64 1]=some (vI n):=by
    rw [qKc,qRj,hn,nThr,← hm3];simp only [if_true]
    congr 2
    split<;>omega
  let pr:Value→Ob:=fun t=>Ob.row ⟨[vI 2,vI 1,vI 1,.slice (some ⟨h.length+1,0,none⟩) 1 0,vI 1,vI 1,t],7,0,true⟩
  let z7:Ob:=Ob.row ⟨[vI 0,vI 0,vI 0,nilS,vI 0,vI 0,nilS],7,0,true⟩
  let ch:Ob:=Ob.row ⟨[vI 1],1,0,true⟩
  have hprl:(qGv l).threads.length=n:=by simp [qGv,hn]
  simp [c_Make,Am.newRow,qBu,Heap.row?,-qKc,hm1,hm2];refine qEb (σ:=Nat×Value) (fun x fr h1=>fr 0=vL (vL v8) l∧fr 2=.pointer (some ⟨h.length,0,some 0⟩)∧fr 3=.pointer (some ⟨h.length+2,0,some 0⟩)∧fr 4=vI n∧fr 5=vI x.1∧x.1≤n∧qBs h.length h h1∧h1[h.length]?=some z7∧h1[h.length+1]?=some ch∧h1[h.length+2]?=some (pr x.2)∧AccL (vM 4 vIns) (h.length+3) h1 x.2 ((qGv l).threads.take x.1))
    (fun x=>n - x.1) ?_ (0,nilS) ⟨by simp,by simp,by simp,by simp,by simp,by simp,.app,by simp [z7],by simp [ch],by simp [pr],by simpa using AccL.nil⟩
  rintro ⟨i,thr⟩ fr h1 ⟨h0,h2,h3,h4,h5,hi,hkp,hz,hc,hp,hthr⟩;simp only at h5 hi hp hthr
  by_cases hlt:i < n
  . have hif:(i:Int) < n:=by omega
    obtain ⟨c,hcc⟩:∃ c,c=l[i]?.getD []:=⟨_,rfl⟩;obtain ⟨hd,hhd⟩:∃ hd,hd=qNb n i:=⟨_,rfl⟩;obtain ⟨many,hmany⟩:∃ m,m=qJi c:=⟨_,rfl⟩;have hmany9:many≤9:=by rw [hmany]; unfold qJi; omega
    have hhl:hd.length≤2:=by rw [hhd,qIy]; split<;>omega
    have hcode:(qGv l).threads.take (i+1)=(qGv l).threads.take i++[hd++qHb c hd.length many]:=by
      rw [← List.take_append_getElem (by rw [hprl]; exact hlt)]
      congr 2
      simp [qGv,qNh,hhd,hn,hcc,hmany]
    have hcb:∀ x∈c,x≤255:=by
      intro x hx;rw [hcc] at hx;cases hci:l[i]? with
      | none=>rw [hci] at hx; simp at hx
      | some c'=>rw [hci] at hx; exact hb c' (List.mem_of_getElem? hci) x (by simpa using hx)
    simp [h4,h5,hlt];refine qEb (σ:=Nat) (fun k fr h'=>fr 0=vL (vL v8) l∧fr 2=.pointer (some ⟨h.length,0,some 0⟩)∧fr 3=.pointer (some ⟨h.length+2,0,some 0⟩)∧fr 4=vI n∧fr 5=vI i∧fr 7=vI k∧1≤k∧k≤n∧qBs (h.length+3) h1 h'∧AccL (vM 4 vIns) (h.length+3) h' thr ((qGv l).threads.take i)∧AccM 4 vIns (h.length+3) h' (fr 6) (hd.take (k - 1))∧qOd (fr 6) thr)
      (fun k=>n - k) ?_ 1 ⟨by simp [h0],by simp [h2],by simp [h3],by simp [h4],by simp [h5],by simp,by simp,by omega,.refl _ _,hthr,by simpa using AccM.nil,.nil⟩
    clear h0 h2 h3 h4 h5 fr;rintro k fr h' ⟨h0,h2,h3,h4,h5,h7,hk1,hkn,hkp',hthr',hacc,hap⟩;have hlen1:h.length+3≤h1.length:=(List.getElem?_eq_some_iff.1 hp).1;have hlen':h.length+3≤h'.length:=by have:=hkp'.1; omega
    rw [qAt]
    by_cases hc1:k < n∧i=0
    . obtain ⟨hkn',hi0⟩:=hc1
      subst hi0;have hkf:(k:Int) < n:=by omega
      obtain ⟨k1,hk1',wk⟩:=qBr (show k < lim by simp [lim]; omega)
      simp [h0,h2,h3,h4,h5,h7,hkn',hkf];refine hacc.push hlen' (by simp [lim]; omega) (x:=⟨12,k,0,0⟩) rfl fun v' h'' q1 q2 q3 q4=>?_
      simp [h0,h2,h3,h4,h5,h7,wk];refine .go k1 (by omega) ⟨by simp [h0],by simp [h2],by simp [h3],by simp [h4],by simp [h5],by simp,by omega,by omega,hkp'.trans q2,Acc.keep hthr' fun i hi=>q3 i (Acc.lt hthr' hi) (hap.symm i hi),?_,fun i h1 h2=>(q4 i (by simpa using h1)).elim (fun x=>hap i x h2) (fun x=>by have:=Acc.lt hthr' h2; omega)⟩
      have e:hd.take (k1 - 1)=hd.take (k - 1)++[⟨12,k,0,0⟩]:=by
        have hkl:k - 1 < hd.length:=by rw [hhd,qIy]; simp; omega
        rw [show k1 - 1=(k - 1)+1 by omega,← List.take_append_getElem hkl]
        congr 2
        simp only [hhd,qNb,if_true,List.getElem_map,List.getElem_range',Nat.one_mul]
        congr 1; omega
      rw [e]
      simpa using q1
    . have hex:hd.take (k - 1)=hd:=by
        apply List.take_of_length_le;rw [hhd,qIy]
        split<;>omega
      rw [hex] at hacc;have hgo:∀ (Q:Exit→Fr→Heap→Prop) (fr:Fr),fr 7=vI k→fr 4=vI n→fr 5=vI i→(∀ fr',(∀ t,t < 23→fr' t=fr t)→Q (.exit 2) fr' h')→pwp prog (O [V 23 7,V 24 4,B 25 .lss 23 24,V 26 25,Gd 26 true (V 27 5),Gd 26 true (Bn 28 .eql 27 0),Pk 29 26 28 false] (.cond (.tmp 29) .skip (.exit 2))) Q fr h':=by
        intro Q fr g7 g4 g5 hq
        by_cases ckn:k < n
        . have:¬ i=0:=fun e=>hc1 ⟨ckn,e⟩
          have hi0:¬ (i:Int)=0:=by omega
          simp [g7,g4,g5,ckn,hi0,this];exact hq _ fun t ht=>by simp [show t≠29 by omega,show t≠28 by omega,show t≠27 by omega,show t≠26 by omega,show t≠25 by omega,show t≠24 by omega,show t≠23 by omega]
        . simp [g7,g4,g5,ckn]
          exact hq _ fun t ht=>by simp [show t≠29 by omega,show t≠28 by omega,show t≠27 by omega,show t≠26 by omega,show t≠25 by omega,show t≠24 by omega,show t≠23 by omega]
      refine hgo _ fr h7 h4 h5 fun fr' hfr=>?_
      have g0:=(hfr 0 (by omega)).trans h0
      have g2:=(hfr 2 (by omega)).trans h2
      have g3:=(hfr 3 (by omega)).trans h3
      have g4:=(hfr 4 (by omega)).trans h4
      have g5:=(hfr 5 (by omega)).trans h5
      have g6:=hfr 6 (by omega)
      have hacc:AccM 4 vIns (h.length+3) h' (fr' 6) hd:=by rw [g6]; exact hacc
      have hap:qOd (fr' 6) thr:=by rw [g6]; exact hap
      obtain ⟨v6,hv6⟩:∃ v,v=fr' 6:=⟨_,rfl⟩;rw [← hv6] at hacc hap;simp [← hv6,hacc.len,-qAt];refine qLw (fun fr H=>H=h'∧fr 0=vL (vL v8) l∧fr 2=.pointer (some ⟨h.length,0,some 0⟩)∧fr 3=.pointer (some ⟨h.length+2,0,some 0⟩)∧fr 4=vI n∧fr 5=vI i∧fr 6=v6∧fr 8=vI hd.length∧((fr 9=nilS∧c=[])∨fr 9=vL v8 c)) ?_ ?_
      . by_cases hil:i < l.length
        . have hilf:(i:Int) < l.length:=by omega
          have hci:l[i]?=some c:=by rw [hcc,List.getElem?_eq_getElem hil]; rfl
          simp [g0,g2,g3,g4,g5,← hv6,hilf,hci]
        . have hilf:¬ (i:Int) < l.length:=by omega
          have hc0:c=[]:=by rw [hcc,List.getElem?_eq_none (by omega)]; rfl
          simp [g0,g2,g3,g4,g5,← hv6,hilf,hc0]
      . rintro fr H ⟨rfl,h0,h2,h3,h4,h5,h6,h8,h9⟩
        have hclen:c.length < 9223372036854775808:=by
          rw [hcc];cases hci:l[i]? with
          | none=>simp
          | some c'=>simpa using hll c' (List.mem_of_getElem? hci)
        have h9l:pLen (fr 9)=some (vI c.length):=by
          rcases h9 with ⟨e1,e2⟩ | e1
          . rw [e1,e2]; rfl
          . rw [e1]; simp
        obtain ⟨ch2,hch2⟩:∃ m,m=c.length / 2:=⟨_,rfl⟩;have ed:((c.length:Int)).tdiv 2=(ch2:Int):=by rw [Int.tdiv_eq_ediv_of_nonneg (by omega)]; omega
        have ew:IntKind.i64.wrap (ch2:Int)=ch2:=wrap_i64 (by omega) (by omega)
        have em:mmV false (.int .i64 (ch2:Int)) [.int .i64 9]=some (vI many):=by
          rw [qKc,qRj,hmany,qJi,← hch2];simp only [Bool.false_eq_true,if_false]
          congr 2
          split<;>omega
        simp [h9l,ed,ew,em,-qKc];refine qEb (σ:=Nat) (fun k fr H=>fr 0=vL (vL v8) l∧fr 2=.pointer (some ⟨h.length,0,some 0⟩)∧fr 3=.pointer (some ⟨h.length+2,0,some 0⟩)∧fr 4=vI n∧fr 5=vI i∧fr 8=vI hd.length∧fr 10=vI many∧fr 11=vI k∧k≤many∧((fr 9=nilS∧c=[])∨fr 9=vL v8 c)∧qBs (h.length+3) h1 H∧AccL (vM 4 vIns) (h.length+3) H thr ((qGv l).threads.take i)∧AccM 4 vIns (h.length+3) H (fr 6) (hd++qHb c hd.length k)∧qOd (fr 6) thr)
          (fun k=>many - k) ?_ 0 ⟨by simp [h0],by simp [h2],by simp [h3],by simp [h4],by simp [h5],by simp [h8],by simp,by simp,by simp,by simpa using h9,hkp',hthr',by simpa [h6,qHb] using hacc,by simpa [h6] using hap⟩
        rintro k fr H ⟨h0,h2,h3,h4,h5,h8,h10,h11,hkm,h9,hkp',hthr',hacc,hap⟩;have hlenH:h.length+3≤H.length:=by have:=hkp'.1; omega
        by_cases hkl:k < many
        . have h9':fr 9=vL v8 c:=by
            rcases h9 with ⟨_,e⟩ | e
            . subst e; simp [hmany,qJi] at hkl
            . exact e
          have hml:2 * many≤c.length:=by rw [hmany]; unfold qJi; omega
          obtain ⟨k1,hk1',wk⟩:=qBr (show k < lim by simp [lim]; omega)
          obtain ⟨k2,hk2⟩:∃ m,m=2 * k:=⟨_,rfl⟩;obtain ⟨k3,hk3⟩:∃ m,m=2 * k+1:=⟨_,rfl⟩;have w2:IntKind.i64.wrap (2 * (k:Int))=k2:=by rw [wrap_i64 (by omega) (by omega)]; omega
          have w3:IntKind.i64.wrap ((k2:Int)+1)=k3:=by rw [wrap_i64 (by omega) (by omega)]; omega
          obtain ⟨x,hx⟩:∃ x,c[k2]?=some x:=⟨_,List.getElem?_eq_getElem (by omega)⟩
          obtain ⟨y,hy⟩:∃ x,c[k3]?=some x:=⟨_,List.getElem?_eq_getElem (by omega)⟩
          have hxb:=hcb x (List.mem_of_getElem? hx);have hyb:=hcb y (List.mem_of_getElem? hy);obtain ⟨at_,hat⟩:∃ m,m=hd.length+k:=⟨_,rfl⟩;obtain ⟨tot,htot⟩:∃ m,m=hd.length+many:=⟨_,rfl⟩;have w4:IntKind.i64.wrap ((hd.length:Int)+(k:Int))=at_:=by rw [wrap_i64 (by omega) (by omega)]; omega
          have w5:IntKind.i64.wrap ((hd.length:Int)+(many:Int))=tot:=by rw [wrap_i64 (by omega) (by omega)]; omega
          simp [h0,h2,h3,h4,h5,h8,h10,h11,h9',hkl,w2,w3,w4,w5,hx,hy];refine MkIns_call hxb hyb (by omega) ?_
          simp [callK_def,vIns];refine hacc.push hlenH (by simp [lim,bodyOf_len]; omega) (x:=qMv x y at_ tot) rfl fun v' h'' q1 q2 q3 q4=>?_
          simp [h0,h2,h3,h4,h5,h8,h10,h11,wk];refine .go k1 (by omega) ⟨by simp [h0],by simp [h2],by simp [h3],by simp [h4],by simp [h5],by simp [h8],by simp [h10],by simp,by omega,by simpa using h9,hkp'.trans q2,Acc.keep hthr' fun i hi=>q3 i (Acc.lt hthr' hi) (hap.symm i hi),?_,fun i h1 h2=>(q4 i (by simpa using h1)).elim (fun x=>hap i x h2) (fun x=>by have:=Acc.lt hthr' h2; omega)⟩
          have eb:qHb c hd.length k1=qHb c hd.length k++[qMv x y at_ tot]:=by
            rw [hk1',bodyOf_succ,← hk3,← hk2,hx,hy,← hat,← hmany,← htot]; rfl
          rw [eb,← List.append_assoc]
          simpa using q1
        . have hkm':k=many:=by omega
          subst hkm';obtain ⟨i1,hi1,wi⟩:=qBr (show i < lim by simp [lim]; omega)
          have hpH:H[h.length+2]?=some (pr thr):=by rw [hkp'.2 _ (by omega)]; exact hp
          have hpr:∀ H':Heap,H'[h.length+2]?=some (pr thr)→H'.cell? (h.length+2) 6 0=some thr:=by
            intro H' hh; simp only [Heap.cell?,Heap.row?,hh]; rfl
          simp [h0,h2,h3,h4,h5,h10,h11,hkl,hpr H hpH];refine hacc.frz (by simp [vIns]) fun H1 q1 q2 q3=>?_
          have hth1:AccL (vM 4 vIns) (h.length+3) H1 thr ((qGv l).threads.take i):=Acc.keep hthr' fun i hi=>q3 i (hap.symm i hi)
          simp;refine hth1.push (by omega) (by simp [hprl,lim]; omega) (x:=hd++qHb c hd.length k) fun v' H2 r1 r2 r3 r4=>?_
          have hp2:H2[h.length+2]?=some (pr thr):=by rw [r2.2 _ (by omega),q1.2 _ (by omega)]; exact hpH
          have hv'c:cellsOf v'=some [v']:=by
            rcases r1 with ⟨rfl,_⟩ | ⟨_,_,rfl,_⟩<;>rfl
          have hlp:h.length+2 < H2.length:=(List.getElem?_eq_some_iff.1 hp2).1;have hst:qBu H2 1 (.pointer (some ⟨h.length+2,6,some 0⟩)) v'=some (H2.set (h.length+2) (pr v')):=by
            simp only [qBu,hv'c,Heap.row?,hp2,pr];simp
          simp [h0,h2,h3,h4,h5,hst,wi];have hne:∀ j,j≠h.length+2→(H2.set (h.length+2) (pr v'))[j]?=H2[j]?:=fun j hj=>by rw [List.getElem?_set_ne (Ne.symm hj)]
          have hold:∀ j,j < h.length+2→(H2.set (h.length+2) (pr v'))[j]?=h1[j]?:=fun j hj=>by
            rw [hne j (by omega),r2.2 j (by omega),q1.2 j (by omega),hkp'.2 j (by omega)]
          refine .go (i1,v') (by simp; omega) ⟨by simp [h0],by simp [h2],by simp [h3],by simp [h4],by simp,(by simp; omega),⟨?_,fun j hj=>?_⟩,by rw [hold _ (by omega)]; exact hz,by rw [hold _ (by omega)]; exact hc,by simp [hlp],?_⟩
          . have a1:=r2.1; have a2:=hkp'.1; have a3:=hkp.1
            simp; omega
          . rw [hold j (by omega)]; exact hkp.2 j hj
          . simp only [hi1]
            rw [hcode];exact Acc.keep r1 fun j hj=>hne j fun e=>by
              subst e;rcases r1 with ⟨rfl,_⟩ | ⟨id,_,rfl,hb,_⟩
              . simp [rid] at hj
              . simp [rid] at hj; omega
  . have hin:i=n:=by omega
    have hpr:h1.row? (h.length+2) 0=some ⟨[vI 2,vI 1,vI 1,.slice (some ⟨h.length+1,0,none⟩) 1 0,vI 1,vI 1,thr],7,0,true⟩:=by simp only [Heap.row?,hp]; rfl
    have hzr:h1.row? h.length 0=some ⟨[vI 0,vI 0,vI 0,nilS,vI 0,vI 0,nilS],7,0,true⟩:=by simp only [Heap.row?,hz]; rfl
    have hthc:cellLike thr=true:=by
      rcases hthr with ⟨rfl,_⟩ | ⟨_,_,rfl,_⟩<;>rfl
    have hlt1:h.length < h1.length:=(List.getElem?_eq_some_iff.1 hz).1;obtain ⟨H2,hst,hH2⟩:∃ H2,qBu h1 7 (.pointer (some ⟨h.length,0,some 0⟩)) (.agg #[vI 2,vI 1,vI 1,.slice (some ⟨h.length+1,0,none⟩) 1 0,vI 1,vI 1,thr])=some H2∧H2=h1.set h.length (pr thr):=by
      refine ⟨_,?_,rfl⟩;simp [qBu,hzr,hthc,pr]
    have hr2:H2.cells? h.length 0 0 7=some [vI 2,vI 1,vI 1,.slice (some ⟨h.length+1,0,none⟩) 1 0,vI 1,vI 1,thr]:=by
      rw [hH2]; simp [Heap.cells?,Heap.row?,hlt1,pr]
    have hcell:h1.cells? (h.length+2) 0 0 7=some [vI 2,vI 1,vI 1,.slice (some ⟨h.length+1,0,none⟩) 1 0,vI 1,vI 1,thr]:=by
      simp [Heap.cells?,hpr]
    simp [h2,h3,h4,h5,hlt,hcell,hst,hr2,qAs,qAu,resV,retV];have hk2:qBs h.length h H2:=⟨by rw [hH2]; simpa using hkp.1,fun j hj=>by rw [hH2,List.getElem?_set_ne (by omega)]; exact hkp.2 j hj⟩
    refine ⟨hk2.ext,_,?_,hk⟩;have hl3:∀ j,j≠h.length→H2[j]?=h1[j]?:=fun j hj=>by rw [hH2,List.getElem?_set_ne (Ne.symm hj)]
    have hth2:AccL (vM 4 vIns) (h.length+3) H2 thr (qGv l).threads:=by
      rw [hin,← hprl,List.take_length] at hthr;exact Acc.keep hthr fun j hj=>hl3 j fun e=>by
        subst e;rcases hthr with ⟨rfl,_⟩ | ⟨id,_,rfl,hb,_⟩
        . simp [rid] at hj
        . simp [rid] at hj; omega
    have hinl:Inl h.length H2 thr (vL (vM 4 vIns) (qGv l).threads):=by
      have:=hth2.inl (by simp)
      rcases hth2 with ⟨rfl,h5,h6⟩ | ⟨id,ver,rfl,h5,h6,h7⟩
      . have h9:(qGv l).threads=[]:=List.length_eq_zero_iff.1 h5
        rw [h9]; exact .nil
      . exact Acc.inl (.inr ⟨id,ver,rfl,by omega,h6,h7⟩) (qHa (by simp) _)
    have hch:Inl h.length H2 (.slice (some ⟨h.length+1,0,none⟩) 1 0) (vL vI [1]):=by
      have hr:H2.row? (h.length+1) 0=some ⟨[vI 1],1,0,true⟩:=by simp only [Heap.row?]; rw [hl3 _ (by omega),hc]; rfl
      exact .row (r:=⟨[vI 1],1,0,true⟩) (by omega) hr (by simp) rfl fun j c c' h5 h6=>by
        simp only [Nat.zero_add] at h5;have h6:[vI 1][j]?=some c':=h6;rw [h5] at h6; cases h6;have:=List.mem_of_getElem? h5;simp at this; subst this; exact .cell rfl
    exact Inls.agg ⟨.cell rfl,.cell rfl,.cell rfl,hch,.cell rfl,.cell rfl,hinl,trivial⟩
end
end Pm
