/- Registers that are yet to be read: the program's solution.
   No condition: plain lemmas. -/

import Derived.Test.YtmdnkninbkcmkaaZVPmFlow1
import Derived.Test.YtmdnkninbkcmkaaZVPmCfgC
import Derived.Test.YtmdnkninbkcmkaaZVPmSuccs
import Derived.Test.YtmdnkninbkcmkaaZVPmCfg3
import Derived.Test.YtmdnkninbkcmkaaZVPmCfgCode
import Derived.Test.YtmdnkninbkcmkaaZVPmLaw
namespace Pm
set_option linter.unusedSimpArgs false
set_option linter.unusedVariables false
open Go Am
open Go.Proofs.Try (prog)

theorem qAp {c:Ins}:cellsOf (.agg (vIns c).toArray)=some (vIns c):=rfl
theorem qCv {a b d e:Value} {c:Ins}:setAll [a,b,d,e] 0 (vIns c)=vIns c:=rfl
theorem take_snoc' {α:Type} {l:List α} {k k1:Nat} {x:α} (hx:l[k]?=some x) (hk:k1=k+1):l.take k1=l.take k++[x]:=by
  obtain ⟨h1,h2⟩:=List.getElem?_eq_some_iff.1 hx;rw [hk,← List.take_append_getElem h1,h2]
def qIq (code:List Ins):Prob:=⟨succs code,code.map qEk,code.map qDx,0,false,true⟩
theorem usesOf_lt (i:Ins):qEk i < big:=qKd 3 i 3
theorem setsOf_lt (i:Ins):qDx i < big:=qKd 2 i 3
theorem qRw {f:Ins→Nat} {code:List Ins} {i:Nat}:gN (code.map f) i=match code[i]? with | some c=>f c | none=>0:=by
  simp only [gN,List.getElem?_map];cases code[i]?<;>rfl
theorem gN_map_lt {f:Ins→Nat} (hf:∀ c,f c < big) {code:List Ins} {i:Nat}:gN (code.map f) i < big:=by
  rw [qRw]; split
  . exact hf _
  . decide
theorem liveP_ok {code:List Ins} (hl:code.length≤64):(qIq code).Ok :=
  ⟨fun i=>gN_map_lt usesOf_lt,fun i=>gN_map_lt setsOf_lt,(by show 0 < big; decide),by show (succs code).length≤64; rw [qDs]; exact hl,succs_short code⟩
theorem RowV.cellA {H:Heap} {k ver e:Nat} {rs:List Ob} {cs:List Value} {off:Nat} (h:RowV H k ver e cs):(H++rs).cell? k off ver=cs[off]?:=by
  rw [cell_old h.lt,h.cell]
theorem RowV.at_ {H H':Heap} {k ver e:Nat} {cs:List Value} (h:RowV H k ver e cs) (h':H'[k]?=H[k]?):RowV H' k ver e cs:=h.keep h'
theorem AccL.frzC {α:Type} {f:α→Value} {b:Nat} {H:Heap} {v:Value} {l:List α} (ha:AccL f b H v l) (hc:∀ x,qCk (f x)=true) :
    ∃ v' H',Pm.frzC H v=some (v',H')∧Cv v' (vL f l)∧qCx b H H'∧H'.length=H.length∧∀ i,rid v≠some i→H'[i]?=H[i]?:=by
  rcases ha with ⟨rfl,h1,h2⟩ | ⟨id,ver,rfl,h2,h3,h4⟩
  . have e:l=[]:=List.length_eq_zero_iff.1 h1
    subst e;exact ⟨nilS,H,rfl,.nil,.refl _ _,rfl,fun _ _=>rfl⟩
  . obtain ⟨H',k1,k2,k3,k4⟩:=Acc.frz (e:=1) (b:=b) (h:=H) (v:=.slice (some ⟨id,0,none⟩) l.length ver) (n:=l.length) (cs:=l.map f) (.inr ⟨id,ver,rfl,h2,h3,h4⟩) (qHv hc l)
    exact ⟨vL f l,H',k1,.same _,k2,k3,k4⟩
section
variable {h : Heap} {K : Value → Heap → Prop}
theorem irUses_call {i:Ins} (ho:i.op≤255) (hk:K (vU (qEk i)) h):qBu prog 73 [.agg (vIns i).toArray] h K:=by
  refine Pure.go (Pure.one (p:=vU (qEk i)) rfl fun h=>?_) hk
  refine call_irUses (by simp) ?_
  simp [qAk,qAn,qAl,qAi,qAf,qAe,qAb,qAc,qAa,qAj,qAg,qAd,qAu,qAv,resV,retV,qAm,qAh,qAt,qAs,qAr,qAq,qRc,vIns];refine registers_call (i:=i) (w:=3) ho ?_;simp [qAk,qAn,qAl,qAi,qAf,qAe,qAb,qAc,qAa,qAj,qAg,qAd,qAu,qAv,resV,retV,qAm,qAh,qAt,qAs,qAr,qAq,callK_def,qEk]
set_option maxHeartbeats 4000000 in
theorem lSolve_call {code:List Ins} (ho:∀ i∈code,i.op≤255) (hl:code.length≤lim) (hk0:60 < code.length→K (.tuple #[vL vU [],vL vU []]) h) (hk:code.length≤60→∀ inn out,Solved (qIq code) inn out→K (.tuple #[vL vU out,vL vU inn]) h) :
    qBu prog 51 [vM 4 vIns code] h K:=by
  refine qBu.forget ?_;refine call_lSolve (by simp) ?_
  by_cases h60:60 < code.length
  . have h60':(60:Int) < code.length:=by omega
    simp [qAk,qAn,qAl,qAi,qAf,qAe,qAb,qAc,qAa,qAj,qAg,qAd,qAu,qAv,resV,retV,qAm,qAh,qAt,qAs,qAr,qAq,qNy,h60'];exact ⟨_,Inls.tup (xs:=[_,_]) (ys:=[_,_]) ⟨.nil,.nil,trivial⟩,hk0 h60⟩
  . have h60':¬ (60:Int) < code.length:=by omega
    have hsl:code.length < lim:=by unfold lim; omega
    simp [-qAy,qAk,qAn,qAl,qAi,qAf,qAe,qAb,qAc,qAa,qAj,qAg,qAd,qAu,qAv,resV,retV,qAm,qAh,qAt,qAs,qAr,qAq,qNy];rw [qAy];simp [-qAy,qAk,qAn,qAl,qAi,qAf,qAe,qAb,qAc,qAa,qAj,qAg,qAd,qAu,qAv,resV,retV,qAm,qAh,qAt,qAs,qAr,qAq,h60'];refine Succs_call hsl ?_;simp [-qAy,qAk,qAn,qAl,qAi,qAf,qAe,qAb,qAc,qAa,qAj,qAg,qAd,qAu,qAv,resV,retV,qAm,qAh,qAt,qAs,qAr,qAq,callK_def];rw [qAy];simp [-qAy,qAk,qAn,qAl,qAi,qAf,qAe,qAb,qAc,qAa,qAj,qAg,qAd,qAu,qAv,resV,retV,qAm,qAh,qAt,qAs,qAr,qAq]
    obtain ⟨z,hz⟩:∃ z:Value→Value→List Value,z=fun gv kv=>[vL (vL vI) (succs code),gv,kv,vU 0,.bool false,.bool true]:=⟨_,rfl⟩
    refine qFe (σ:=Nat×Value×Value×Heap) (fun x=>[(4,ptr h.length),(13,vM 4 vIns code),(14,vI code.length),(15,vI x.1)]) (fun x=>x.2.2.2)
      (fun x=>x.1≤code.length∧RowV x.2.2.2 h.length 0 6 (z x.2.1 x.2.2.1)∧AccL vU (h.length+1) x.2.2.2 x.2.1 ((code.map qEk).take x.1)∧AccL vU (h.length+1) x.2.2.2 x.2.2.1 ((code.map qDx).take x.1)∧qLq x.2.1 x.2.2.1∧qCx h.length h x.2.2.2)
      (fun x=>code.length - x.1) (0,nilS,nilS,h++[bx (z nilS nilS) 6]) (by simp) (by rw [hz]; rfl) ⟨by simp,by simp [RowV,bx],.nil,.nil,.nil,qCx.app⟩ ?_
    rintro ⟨k,gv,kv,H⟩ fr ⟨hk0,hr,hg,hkl,hap,hkp⟩;simp only at hk0 hr hg hkl hap hkp ⊢;have hb1:h.length+1≤H.length:=hr.lt;have e1:∀ gv kv,(z gv kv)[1]?=some gv:=fun _ _=>by rw [hz]; rfl
    have e2:∀ gv kv,(z gv kv)[2]?=some kv:=fun _ _=>by rw [hz]; rfl
    have s1:∀ gv kv v,(z gv kv).set 1 v=z v kv:=fun _ _ _=>by rw [hz]; rfl
    have s2:∀ gv kv v,(z gv kv).set 2 v=z gv v:=fun _ _ _=>by rw [hz]; rfl
    have zl:∀ gv kv,(z gv kv).length=6:=fun _ _=>by rw [hz]; rfl
    by_cases hlt:k < code.length
    . obtain ⟨k1,hk1,wk⟩:=qCj (show k < lim by omega)
      obtain ⟨c,hc⟩:∃ c,code[k]?=some c:=⟨_,List.getElem?_eq_getElem hlt⟩;have hkf:(k:Int) < code.length:=by omega
      have hco:=ho c (List.mem_of_getElem? hc);have hlen:∀ f:Ins→Nat,((code.map f).take k).length+1≤lim:=fun f=>by simp; omega
      have hu:(code.map qEk)[k]?=some (qEk c):=by rw [List.getElem?_map,hc]; rfl
      have hs:(code.map qDx)[k]?=some (qDx c):=by rw [List.getElem?_map,hc]; rfl
      simp [qAk,qAn,qAl,qAi,qAf,qAe,qAb,qAc,qAa,qAj,qAg,qAd,qAu,qAv,resV,retV,qAm,qAh,qAt,qAs,qAr,qAq,hkf,hc,hr.cellA,e1,-qAo,qBb,qAx,qAp,qCv];refine qHg (by simp [hr.cellA,e1]) (qKn.lock (irUses_call hco ⟨rfl,?_⟩))
      simp [qAk,qAn,qAl,qAi,qAf,qAe,qAb,qAc,qAa,qAj,qAg,qAd,qAu,qAv,resV,retV,qAm,qAh,qAt,qAs,qAr,qAq,hr.cellA,e1];have hp1:qDu (H++[bx (vIns c) 4,bx [.int .u64 (qEk c)] 1]) 1 (.slice (some ⟨H.length+1,0,none⟩) 1 0)=some ([qEk c].length,[qEk c].map vU):=qKs (m:=1) rfl rfl;refine AccL.apps (hg.ext qCx.app) (by simp; omega) (m:=[qEk c]) hp1 (by simpa using hlen qEk) fun v1 H1 a1 a2 a3 a4=>?_
      have hx1:∀ i,i < H.length+2→rid gv≠some i→H1[i]?=(H++[bx (vIns c) 4,bx [.int .u64 (qEk c)] 1])[i]?:=fun i hi hn=>a3 i (by simp; omega) hn
      have hgl:∀ i,rid gv=some i→i < H.length:=fun i hi=>hg.lt hi
      have hkl1:∀ i,rid kv=some i→i < H.length:=fun i hi=>hkl.lt hi
      have hr1:RowV H1 h.length 0 6 (z gv kv):=hr.keep (by rw [a2.2 _ (by omega),List.getElem?_append_left hr.lt])
      have hH1:H.length+2≤H1.length:=by have:=a2.1; simpa using this
      have hk1':AccL vU (h.length+1) H1 kv ((code.map qDx).take k):=hkl.keep fun i hi=>by
        rw [hx1 i (by have:=hkl1 i hi; omega) (fun e=>hap i e hi),List.getElem?_append_left (hkl1 i hi)]
      have hc1:RowV H1 H.length 0 4 (vIns c):=by
        have:=hx1 H.length (by omega) (fun e=>by have:=hgl _ e; omega)
        rw [List.getElem?_append_right (Nat.le_refl _),Nat.sub_self] at this;exact this
      obtain ⟨H2,t1,t2,t3⟩:=hr1.set (j:=1) (by rw [zl]; omega) (v:=v1) (by
        rcases a1 with ⟨e,_⟩ | ⟨id,ver,e,_⟩<;>rw [e]<;>rfl)
      rw [s1] at t2;have ap2:qLq v1 kv:=fun i hi hk2=>(a4 i hi).elim (fun e=>hap i e hk2) (fun e=>by have:=hkl1 i hk2; simp at e; omega)
      have hv1:∀ i,rid v1=some i→i≠h.length:=fun i hi e=>by
        rcases a1 with ⟨e1,_⟩ | ⟨id,ver,e1,e2,_⟩
        . rw [e1] at hi; simp [rid] at hi
        . rw [e1] at hi; simp [rid] at hi; omega
      have hkh:∀ i,rid kv=some i→i≠h.length:=fun i hi e=>by
        rcases hkl with ⟨e1,_⟩ | ⟨id,ver,e1,e2,_⟩
        . rw [e1] at hi; simp [rid] at hi
        . rw [e1] at hi; simp [rid] at hi; omega
      have b1:AccL vU (h.length+1) H2 v1 ((code.map qEk).take k1):=by
        rw [take_snoc' hu hk1]; exact a1.keep fun i hi=>t3.1 i (hv1 i hi)
      have b2:AccL vU (h.length+1) H2 kv ((code.map qDx).take k):=hk1'.keep fun i hi=>t3.1 i (hkh i hi)
      have hc2:RowV H2 H.length 0 4 (vIns c):=hc1.keep (t3.1 _ (by omega))
      have hH2:H.length+2≤H2.length:=by rw [t3.2]; exact hH1
      have cc2:H2.cells? H.length 0 0 4=some (vIns c):=hc2.cells rfl;simp [qAk,qAn,qAl,qAi,qAf,qAe,qAb,qAc,qAa,qAj,qAg,qAd,qAu,qAv,resV,retV,qAm,qAh,qAt,qAs,qAr,qAq,t1,t2.cell,e2,cc2,-qAo,qBb,qAx,qAp,qCv];refine qHg (by simp [t2.cell,e2]) (qKn.lock (irSets_call hco ⟨rfl,?_⟩))
      simp [qAk,qAn,qAl,qAi,qAf,qAe,qAb,qAc,qAa,qAj,qAg,qAd,qAu,qAv,resV,retV,qAm,qAh,qAt,qAs,qAr,qAq,t2.cell,e2];have hp2:qDu (H2++[bx [.int .u64 (qDx c)] 1]) 1 (.slice (some ⟨H2.length,0,none⟩) 1 0)=some ([qDx c].length,[qDx c].map vU):=qKs (h:=H2) (L:=[bx [.int .u64 (qDx c)] 1]) (m:=0) (n:=1) (cs:=[.int .u64 (qDx c)]) rfl rfl;refine AccL.apps (b2.ext qCx.app) (by simp; omega) (m:=[qDx c]) hp2 (by simpa using hlen qDx) fun v2 H3 a1' a2' a3' a4'=>?_
      have hx3:∀ i,i < H2.length→rid kv≠some i→H3[i]?=H2[i]?:=fun i hi hn=>by
        rw [a3' i (by simp; omega) hn,List.getElem?_append_left hi]
      have hr3:RowV H3 h.length 0 6 (z v1 kv):=t2.keep (by rw [a2'.2 _ (by omega),List.getElem?_append_left t2.lt])
      have b13:AccL vU (h.length+1) H3 v1 ((code.map qEk).take k1):=b1.keep fun i hi=>hx3 i (b1.lt hi) (ap2 i hi)
      obtain ⟨H4,w1,w2,w3⟩:=hr3.set (j:=2) (by rw [zl]; omega) (v:=v2) (by
        rcases a1' with ⟨e,_⟩ | ⟨id,ver,e,_⟩<;>rw [e]<;>rfl)
      rw [s2] at w2;have hv2:∀ i,rid v2=some i→i≠h.length:=fun i hi e=>by
        rcases a1' with ⟨e1,_⟩ | ⟨id,ver,e1,e2,_⟩
        . rw [e1] at hi; simp [rid] at hi
        . rw [e1] at hi; simp [rid] at hi; omega
      have d1:AccL vU (h.length+1) H4 v1 ((code.map qEk).take k1):=b13.keep fun i hi=>w3.1 i (hv1 i hi)
      have d2:AccL vU (h.length+1) H4 v2 ((code.map qDx).take k1):=by
        rw [take_snoc' hs hk1]; exact a1'.keep fun i hi=>w3.1 i (hv2 i hi)
      have ap3:qLq v1 v2:=fun i hi hi2=>(a4' i hi2).elim (fun e=>ap2 i hi e) (fun e=>by have:=b1.lt hi; simp at e; omega)
      have hkp':qCx h.length h H4:=by
        refine ⟨by rw [w3.2]; have:=a2'.1; simp at this; have:=hkp.1; omega,fun i hi=>?_⟩
        rw [w3.1 i (by omega),a2'.2 i (by omega),List.getElem?_append_left (by omega),t3.1 i (by omega),a2.2 i (by omega),List.getElem?_append_left (by omega),hkp.2 i hi]
      simp [qAk,qAn,qAl,qAi,qAf,qAe,qAb,qAc,qAa,qAj,qAg,qAd,qAu,qAv,resV,retV,qAm,qAh,qAt,qAs,qAr,qAq,w1,wk];exact .go (k1,v1,v2,H4) (by simp only []; omega) (by simp) rfl ⟨by simp only []; omega,w2,d1,d2,ap3,hkp'⟩
    . have hkn:k=code.length:=by omega
      subst hkn;have hkf:¬ (code.length:Int) < code.length:=by omega
      rw [List.take_of_length_le (by simp)] at hg hkl
      have ok:=liveP_ok (code:=code) (by omega)
      have hcs:H.cells? h.length 0 0 6=some (z gv kv):=hr.cells (zl _ _).symm;have fin:∀ (H':Heap) (gv' kv':Value),qCx h.length h H'→Cv gv' (vL vU (code.map qEk))→Cv kv' (vL vU (code.map qDx)) →
          qBu prog 74 [.agg (z gv' kv').toArray] H' fun v h'=>(v=v∧h'=H')∧∃ inn out,Solved (qIq code) inn out∧v=.tuple #[vL vU out,vL vU inn]:=by
        intro H' gv' kv' hkp' c1 c2;refine qBu.conv (args':=[vP (qIq code)]) (.cons ?_ .nil) (fSolve_call ok fun inn out hS=>⟨⟨rfl,rfl⟩,inn,out,hS,rfl⟩)
        rw [hz];refine .agg rfl fun i x y hx hy=>?_
        simp only [qIq,cP] at hy;have hi:i < 6:=by have:=(Array.getElem?_eq_some_iff.1 hx).1; simpa using this
        have:i=0∨i=1∨i=2∨i=3∨i=4∨i=5:=by omega
        rcases this with rfl | rfl | rfl | rfl | rfl | rfl<;>simp at hx hy<;>subst hx<;>subst hy<;>first | exact c1 | exact c2 | exact .same _
      simp [qAk,qAn,qAl,qAi,qAf,qAe,qAb,qAc,qAa,qAj,qAg,qAd,qAu,qAv,resV,retV,qAm,qAh,qAt,qAs,qAr,qAq,hkf,hcs,zl];obtain ⟨gv',H1,f1,f2,f3,f4,f5⟩:=hg.frzC fun _=>rfl
      have hkl2:AccL vU (h.length+1) H1 kv (code.map qDx):=hkl.keep fun i hi=>f5 i (fun e=>hap i e hi)
      obtain ⟨kv',H2,g1,g2,g3,g4,g5⟩:=hkl2.frzC fun _=>rfl
      have hfz:frzV H 1 (.agg (z gv kv).toArray)=some (.agg (z gv' kv').toArray,H2):=by
        rw [hz];have q1:∀ H,frzC H (vL (vL vI) (succs code))=some (vL (vL vI) (succs code),H):=fun _=>rfl
        have q2:∀ H n,frzC H (.int .u64 n)=some (.int .u64 n,H):=fun _ _=>rfl
        have q3:∀ H b,frzC H (.bool b)=some (.bool b,H):=fun _ _=>rfl
        simp [frzV,qTn,q1,q2,q3,f1,g1]
      have hkp2:qCx h.length h H2:=by
        refine ⟨by rw [g4,f4]; exact hkp.1,fun i hi=>?_⟩
        rw [g3.2 i (by omega),f3.2 i (by omega),hkp.2 i hi]
      simp [qAk,qAn,qAl,qAi,qAf,qAe,qAb,qAc,qAa,qAj,qAg,qAd,qAu,qAv,resV,retV,qAm,qAh,qAt,qAs,qAr,qAq,hfz];refine (fin H2 gv' kv' hkp2 f2 g2).mono fun v h'=>?_
      rintro ⟨⟨_,rfl⟩,inn,out,hS,rfl⟩;simp [qAk,qAn,qAl,qAi,qAf,qAe,qAb,qAc,qAa,qAj,qAg,qAd,qAu,qAv,resV,retV,qAm,qAh,qAt,qAs,qAr,qAq,callK_def];obtain ⟨g,rfl⟩:=hkp2.ext;exact ⟨⟨g,rfl⟩,_,Inls.tup (xs:=[_,_]) (ys:=[_,_]) ⟨.cell rfl,.cell rfl,trivial⟩,hk (by omega) inn out hS⟩
end
end Pm

/- Registers that are yet to be read: what Ahead and Behind tell, by ways.
   No condition: plain lemmas. -/

namespace Pm
set_option linter.unusedSimpArgs false
set_option linter.unusedVariables false
open Go Am
open Go.Proofs.Try (prog)

inductive Lv (code:List Ins) (r:Nat):Nat→Prop
  | use {i:Nat} {c:Ins} (hc:code[i]?=some c) (hu:(qEk c).testBit r=true):Lv code r i
  | pass {i j:Nat} {c:Ins} (hc:code[i]?=some c) (hs:(qDx c).testBit r=false) (hj:(j:Int)∈qDr i c) (h:Lv code r j):Lv code r i
theorem Lv.lt {code:List Ins} {r i:Nat} (h:Lv code r i):i < code.length:=by
  cases h with
  | use hc _=>exact (List.getElem?_eq_some_iff.1 hc).1
  | pass hc _ _ _=>exact (List.getElem?_eq_some_iff.1 hc).1
theorem qQq {x k:Nat} (hx:x < big) (hk:64≤k):x.testBit k=false:=by
  have e:big≤2 ^ k:=Nat.pow_le_pow_right (n:=2) (by omega) hk
  exact Nat.testBit_lt_two_pow (Nat.lt_of_lt_of_le hx e)
theorem Lv.low {code:List Ins} {r i:Nat} (h:Lv code r i):r < 64:=by
  induction h with
  | @use i c hc hu =>
    rcases Nat.lt_or_ge r 64 with h | h
    . exact h
    . rw [qQq (usesOf_lt c) h] at hu; cases hu
  | pass _ _ _ _ ih=>exact ih
theorem Lv.step {code:List Ins} {r i:Nat} {c:Ins} (hc:code[i]?=some c):Lv code r i↔(qEk c).testBit r=true∨(qDx c).testBit r=false∧∃ j:Nat,(j:Int)∈qDr i c∧Lv code r j:=by
  constructor
  . intro h
    cases h with
    | use hc' hu=>rw [hc] at hc'; cases hc'; exact .inl hu
    | pass hc' hs hj h=>rw [hc] at hc'; cases hc'; exact .inr ⟨hs,_,hj,h⟩
  . rintro (h | ⟨h1,j,h2,h3⟩)
    . exact .use hc h
    . exact .pass hc h1 h2 h3
theorem qJk {code:List Ins} {i:Nat} {c:Ins} (hc:code[i]?=some c):qEd (succs code) i=qDr i c:=qHn (by rw [qNn,hc]; rfl)
section
variable {code : List Ins} {inn out : List Nat}
theorem qPr (code:List Ins):(qIq code).n=code.length:=qDs code
theorem live_mk {x k:Nat}:(qIq code).marked x k=x.testBit k:=by simp [Prob.marked,qIq]
theorem live_iff {r:Nat} (hr:r < 64):(∀ i,Mk (qIq code) r true i↔Lv code r i)∧∀ i,Mk (qIq code) r false i↔i < code.length∧∃ j:Nat,(j:Int)∈qEd (succs code) i∧Lv code r j:=by
  have hfr:∀ i (j:Nat),(j:Int)∈qEd (qIq code).froms i↔j < code.length∧(j:Int)∈qEd (succs code) i:=by
    intro i j;show (j:Int)∈qEd (qEz (succs code)) i↔_;rw [qIx,qDs];constructor
    . rintro ⟨a,h1,h2,h3⟩
      obtain rfl:j=a:=by omega
      exact ⟨h2,h3⟩
    . rintro ⟨h1,h2⟩; exact ⟨j,rfl,h1,h2⟩
  have key:∀ b i,Mk (qIq code) r b i→if b then Lv code r i else i < code.length∧∃ j:Nat,(j:Int)∈qEd (succs code) i∧Lv code r j:=by
    intro b i h
    induction h with
    | start hi he hs=>simp [Prob.marked,qIq] at hs
    | flow hi hj h ih =>
      simp only [if_true,Bool.false_eq_true,if_false] at ih ⊢;rw [qPr] at hi;exact ⟨hi,_,((hfr _ _).1 hj).2,ih⟩
    | @gen i hi hc =>
      simp only [if_true];rw [qPr] at hi;have hci:code[i]?=some code[i]:=List.getElem?_eq_getElem hi;have e:gN (qIq code).gen i=qEk code[i]:=by show gN (code.map qEk) i=_; rw [qRw,hci]
      simp only [Prob.genM,e] at hc;exact .use hci hc
    | @pass i h hp ih =>
      simp only [if_true,Bool.false_eq_true,if_false] at ih ⊢;obtain ⟨hi,j,hj,hl⟩:=ih;have hci:code[i]?=some code[i]:=List.getElem?_eq_getElem hi;have e:gN (qIq code).kill i=qDx code[i]:=by show gN (code.map qDx) i=_; rw [qRw,hci]
      simp only [Prob.passM,e] at hp;rw [qJk hci] at hj;exact .pass hci (by simpa [qIq] using hp) hj hl
  have back:∀ i,Lv code r i→Mk (qIq code) r true i:=by
    intro i h
    induction h with
    | @use i c hc hu =>
      refine .gen (by rw [qPr]; exact (List.getElem?_eq_some_iff.1 hc).1) ?_
      have e:gN (qIq code).gen i=qEk c:=by show gN (code.map qEk) i=_; rw [qRw,hc]
      unfold Prob.genM; rw [e]; exact hu
    | @pass i j c hc hs hj h ih =>
      refine .pass (.flow (by rw [qPr]; exact (List.getElem?_eq_some_iff.1 hc).1) ((hfr i j).2 ⟨h.lt,by rw [qJk hc]; exact hj⟩) ih) ?_
      have e:gN (qIq code).kill i=qDx c:=by show gN (code.map qDx) i=_; rw [qRw,hc]
      simp only [Prob.passM,e];simp [qIq,hs]
  refine ⟨fun i=>⟨fun h=>by simpa using key _ _ h,back i⟩,fun i=>⟨fun h=>by simpa using key _ _ h,?_⟩⟩
  rintro ⟨hi,j,hj,hl⟩;exact .flow (by rw [qPr]; exact hi) ((hfr i j).2 ⟨hl.lt,hj⟩) (back j hl)

structure Aheads (code:List Ins) (a:List Nat):Prop where
  len:a.length=code.length
  lt:∀ i,gN a i < big
  bit:∀ i r,(gN a i).testBit r=true↔Lv code r i
structure Behinds (code:List Ins) (b:List Nat):Prop where
  len:b.length=code.length
  lt:∀ i,gN b i < big
  bit:∀ i r,(gN b i).testBit r=true↔i < code.length∧∃ j:Nat,(j:Int)∈qEd (succs code) i∧Lv code r j
theorem gN_out {l:List Nat} {i:Nat} (h:l.length≤i):gN l i=0:=by simp [gN,List.getElem?_eq_none h]
theorem live_solved (h:Solved (qIq code) inn out):Aheads code out∧Behinds code inn:=by
  have hn:=qPr code;refine ⟨⟨by rw [h.olen,hn],h.olt,fun i r=>?_⟩,⟨by rw [h.ilen,hn],h.ilt,fun i r=>?_⟩⟩
  . by_cases hi:i < code.length
    . by_cases hr:r < 64
      . have:=h.behind i r (by rw [hn]; exact hi) hr
        rw [live_mk] at this;rw [this,(live_iff hr).1]
      . rw [qQq (h.olt i) (by omega)]
        constructor
        . intro h; cases h
        . intro h; have:=h.low; omega
    . rw [gN_out (by rw [h.olen,hn]; omega)]
      simp only [Nat.zero_testBit];constructor
      . intro h; cases h
      . intro h; have:=h.lt; omega
  . by_cases hi:i < code.length
    . by_cases hr:r < 64
      . have:=h.ahead i r (by rw [hn]; exact hi) hr
        rw [live_mk] at this;rw [this,(live_iff hr).2]
      . rw [qQq (h.ilt i) (by omega)]
        constructor
        . intro h; cases h
        . rintro ⟨_,j,_,h⟩; have:=h.low; omega
    . rw [gN_out (by rw [h.ilen,hn]; omega)]
      simp only [Nat.zero_testBit];constructor
      . intro h; cases h
      . intro h; omega
theorem ext_gN {a b:List Nat} (hl:a.length=b.length) (h:∀ i,i < a.length→gN a i=gN b i):a=b:=by
  apply List.ext_getElem hl;intro i h1 h2;have:=h i h1
  rwa [qUz (List.getElem?_eq_getElem h1),qUz (List.getElem?_eq_getElem h2)] at this
theorem Aheads.unique {a b:List Nat} (ha:Aheads code a) (hb:Aheads code b):a=b :=
  ext_gN (by rw [ha.len,hb.len]) fun i _=>Nat.eq_of_testBit_eq fun r=>by rw [Bool.eq_iff_iff,ha.bit,hb.bit]
theorem Behinds.unique {a b:List Nat} (ha:Behinds code a) (hb:Behinds code b):a=b :=
  ext_gN (by rw [ha.len,hb.len]) fun i _=>Nat.eq_of_testBit_eq fun r=>by rw [Bool.eq_iff_iff,ha.bit,hb.bit]
def qPc (code:List Ins) (a:List Nat):Prop:=if 60 < code.length then a=[] else Aheads code a
def qOa (code:List Ins) (a:List Nat):Prop:=if 60 < code.length then a=[] else Behinds code a
end
section
variable {h : Heap} {K : Value → Heap → Prop}
theorem lAhead_call {code:List Ins} (ho:∀ i∈code,i.op≤255) (hl:code.length≤lim) (hk:∀ a,qPc code a→K (vL vU a) h):qBu prog 19 [vM 4 vIns code] h K:=by
  refine call_lAhead (by simp) ?_
  simp [qAk,qAn,qAl,qAi,qAf,qAe,qAb,qAc,qAa,qAj,qAg,qAd,qAu,qAv,resV,retV,qAm,qAh,qAt,qAs,qAr,qAq,qRb];refine lSolve_call ho hl (fun h60=>?_) (fun h60 inn out hS=>?_)
  . simp [qAk,qAn,qAl,qAi,qAf,qAe,qAb,qAc,qAa,qAj,qAg,qAd,qAu,qAv,resV,retV,qAm,qAh,qAt,qAs,qAr,qAq,callK_def]
    exact hk [] (by unfold qPc; rw [if_pos h60])
  . simp [qAk,qAn,qAl,qAi,qAf,qAe,qAb,qAc,qAa,qAj,qAg,qAd,qAu,qAv,resV,retV,qAm,qAh,qAt,qAs,qAr,qAq,callK_def]
    exact hk out (by unfold qPc; rw [if_neg (by omega)]; exact (live_solved hS).1)
theorem lBehind_call {code:List Ins} (ho:∀ i∈code,i.op≤255) (hl:code.length≤lim) (hk:∀ a,qOa code a→K (vL vU a) h):qBu prog 53 [vM 4 vIns code] h K:=by
  refine call_lBehind (by simp) ?_
  simp [qAk,qAn,qAl,qAi,qAf,qAe,qAb,qAc,qAa,qAj,qAg,qAd,qAu,qAv,resV,retV,qAm,qAh,qAt,qAs,qAr,qAq,qOt];refine lSolve_call ho hl (fun h60=>?_) (fun h60 inn out hS=>?_)
  . simp [qAk,qAn,qAl,qAi,qAf,qAe,qAb,qAc,qAa,qAj,qAg,qAd,qAu,qAv,resV,retV,qAm,qAh,qAt,qAs,qAr,qAq,callK_def]
    exact hk [] (by unfold qOa; rw [if_pos h60])
  . simp [qAk,qAn,qAl,qAi,qAf,qAe,qAb,qAc,qAa,qAj,qAg,qAd,qAu,qAv,resV,retV,qAm,qAh,qAt,qAs,qAr,qAq,callK_def]
    exact hk inn (by unfold qOa; rw [if_neg (by omega)]; exact (live_solved hS).2)
end
end Pm

/- Registers that are yet to be read: the law of one step.
   No condition: plain lemmas. -/

namespace Pm
set_option linter.unusedSimpArgs false
set_option linter.unusedVariables false
open Go Am
open Go.Proofs.Try (prog)

def qIl:List Ins:=[⟨1,0,1,0⟩,⟨9,0,0,0⟩]
theorem qTe {r:Nat}:Lv qIl r 1↔r=0:=by
  rw [Lv.step (c:=⟨9,0,0,0⟩) rfl,show qEk ⟨9,0,0,0⟩=1 by decide +kernel,show qDr 1 ⟨9,0,0,0⟩=[2] by decide +kernel]
  have h2:∀ j:Nat,(j:Int)∈[(2:Int)]→¬ Lv qIl r j:=fun j hj h=>by
    have:=h.lt;simp [qIl] at this hj; omega
  constructor
  . rintro (h | ⟨_,j,hj,h⟩)
    . rcases r with _ | r
      . rfl
      . simp [Nat.testBit_succ] at h
    . exact (h2 j hj h).elim
  . rintro rfl; exact .inl rfl
theorem lv15_0 {r:Nat}:¬ Lv qIl r 0:=by
  rw [Lv.step (c:=⟨1,0,1,0⟩) rfl,show qEk ⟨1,0,1,0⟩=0 by decide +kernel,show qDx ⟨1,0,1,0⟩=1 by decide +kernel,show qDr 0 ⟨1,0,1,0⟩=[1] by decide +kernel]
  rintro (h | ⟨h1,j,hj,h⟩)
  . simp at h
  . have:j=1:=by simp at hj; omega
    subst this;obtain rfl:=qTe.1 h;exact absurd h1 (by decide)
theorem one_bit {r:Nat}:(1:Nat).testBit r=true↔r=0:=by
  rcases r with _ | r
  . simp
  . simp [Nat.testBit_succ]
theorem qPt {r:Nat} {p:Prop} (h:¬ p):(0:Nat).testBit r=true↔p:=by simp [h]
theorem aheads15:Aheads qIl [0,1]:=by
  refine ⟨rfl,fun i=>?_,fun i r=>?_⟩
  . rcases i with _ | _ | i
    . decide
    . decide
    . simp [gN]
  . rcases i with _ | _ | i
    . simp [gN,lv15_0]
    . show (1:Nat).testBit r=true↔Lv qIl r 1
      rw [qTe,one_bit]
    . exact qPt fun h=>by have:=h.lt; have e:qIl.length=2:=rfl; omega
theorem behinds15:Behinds qIl [1,0]:=by
  refine ⟨rfl,fun i=>?_,fun i r=>?_⟩
  . rcases i with _ | _ | i
    . decide
    . decide
    . simp [gN]
  . rcases i with _ | _ | i
    . show (1:Nat).testBit r=true↔_
      rw [one_bit,qJk (c:=⟨1,0,1,0⟩) rfl,show qDr 0 ⟨1,0,1,0⟩=[1] by decide +kernel]
      constructor
      . rintro rfl; exact ⟨by decide,1,by simp,qTe.2 rfl⟩
      . rintro ⟨_,j,hj,h⟩
        have:j=1:=by simp at hj; omega
        subst this;exact qTe.1 h
    . refine qPt ?_
      rintro ⟨_,j,hj,h⟩;rw [qJk (c:=⟨9,0,0,0⟩) rfl,show qDr (0+1) ⟨9,0,0,0⟩=[2] by decide +kernel] at hj
      have:=h.lt;simp [qIl] at this hj; omega
    . exact qPt fun h=>by have:=h.1; have e:qIl.length=2:=rfl; omega
section
variable {h : Heap} {K : Value → Heap → Prop}
set_option maxHeartbeats 1000000 in
theorem known15_call (hk:K (vB true) h):qBu prog 21 [] h K:=by
  refine Pure.go (Pure.one (p:=vB true) rfl fun h=>?_) hk
  refine call_known15 (by simp) ?_
  have hfz:∀ h:Heap,frzV (h++[bx [.int .u8 1,.int .i64 0,.int .i64 1,.int .i64 0,.int .u8 9,.int .i64 0,.int .i64 0,.int .i64 0] 4]) 4 (.slice (some ⟨h.length,0,none⟩) 2 0)=some (vM 4 vIns qIl,h++[.row ⟨[.int .u8 1,.int .i64 0,.int .i64 1,.int .i64 0,.int .u8 9,.int .i64 0,.int .i64 0,.int .i64 0],4,0,false⟩]):=fun h=>frzV_new (h:=h) rfl rfl rfl
  have hfz2:∀ h:Heap,frzV (h++[Ob.row ⟨[.int .u8 1,.int .i64 0,.int .i64 1,.int .i64 0,.int .u8 9,.int .i64 0,.int .i64 0,.int .i64 0],4,0,false⟩]) 4 (.slice (some ⟨h.length,0,none⟩) 2 0)=some (vM 4 vIns qIl,h++[.row ⟨[.int .u8 1,.int .i64 0,.int .i64 1,.int .i64 0,.int .u8 9,.int .i64 0,.int .i64 0,.int .i64 0],4,0,false⟩]):=fun h=>frz_at (h:=h) (rs:=[Ob.row ⟨[.int .u8 1,.int .i64 0,.int .i64 1,.int .i64 0,.int .u8 9,.int .i64 0,.int .i64 0,.int .i64 0],4,0,false⟩]) (j:=0) (off:=0) (ver:=0) (r:=⟨[.int .u8 1,.int .i64 0,.int .i64 1,.int .i64 0,.int .u8 9,.int .i64 0,.int .i64 0,.int .i64 0],4,0,false⟩) rfl (by simp) rfl
  simp [qAk,qAn,qAl,qAi,qAf,qAe,qAb,qAc,qAa,qAj,qAg,qAd,qAu,qAv,resV,retV,qAm,qAh,qAt,qAs,qAr,qAq,qOu,hfz];refine lAhead_call (code:=qIl) (by decide) (by decide) fun a ha=>?_
  have ea:a=[0,1]:=by unfold qPc at ha; rw [if_neg (by decide)] at ha; exact ha.unique aheads15
  subst ea;simp [qAk,qAn,qAl,qAi,qAf,qAe,qAb,qAc,qAa,qAj,qAg,qAd,qAu,qAv,resV,retV,qAm,qAh,qAt,qAs,qAr,qAq,callK_def,hfz2];refine lBehind_call (code:=qIl) (by decide) (by decide) fun b hb=>?_
  have eb:b=[1,0]:=by unfold qOa at hb; rw [if_neg (by decide)] at hb; exact hb.unique behinds15
  subst eb;simp [qAk,qAn,qAl,qAi,qAf,qAe,qAb,qAc,qAa,qAj,qAg,qAd,qAu,qAv,resV,retV,qAm,qAh,qAt,qAs,qAr,qAq,callK_def]
end
end Pm
