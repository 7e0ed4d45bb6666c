/- Rows of one's own that hold ints, and a call to which a row of instructions is lent.
   No condition: plain lemmas. -/

import Derived.Test.YtmdnkninbkcmkaaDoorZUPmCfg3
import Derived.Test.YtmdnkninbkcmkaaDoorZUPmEdit
namespace Pm
set_option linter.unusedSimpArgs false
set_option linter.unusedVariables false
open Go Am
open Go.Proofs.Tryd (prog)

def NoU (H:Heap):Prop:=∀ (id:Nat) (r:Row),H[id]?=some (.row r)→r.rw=true→r.esz≠1
def U1 (H:Heap):Prop:=∀ (id:Nat) (r:Row),H[id]?=some (.row r)→r.rw=true→r.esz=1→∀ c∈r.cells,∃ x:Int,c=vI x
theorem NoU.u1 {H:Heap} (h:NoU H):U1 H:=fun id r h1 h2 h3=>absurd h3 (h id r h1 h2)
theorem NoU.app {H:Heap} (h:NoU H) {rs:List Ob} (hr:∀ r,Ob.row r∈rs→r.rw=true→r.esz≠1):NoU (H++rs):=fun id r h1 h2=>by
  rw [List.getElem?_append] at h1
  split at h1
  . exact h id r h1 h2
  . exact hr r (List.mem_of_getElem? h1) h2
theorem NoU.nil:NoU []:=fun id r h=>by simp at h
theorem U1.app {H:Heap} (h:U1 H) {rs:List Ob} (hr:∀ r,Ob.row r∈rs→r.rw=true→r.esz=1→∀ c∈r.cells,∃ x:Int,c=vI x):U1 (H++rs):=fun id r h1 h2 h3=>by
  rw [List.getElem?_append] at h1
  split at h1
  . exact h id r h1 h2 h3
  . exact hr r (List.mem_of_getElem? h1) h2 h3
theorem U1.same {H H':Heap} {k:Nat} (h:U1 H) (hs:Same H k H') (hk:∀ r,H'[k]?=some (.row r)→r.rw=true→r.esz=1→∀ c∈r.cells,∃ x:Int,c=vI x):U1 H':=fun id r h1 h2 h3=>by
  by_cases e:id=k
  . subst e; exact hk r h1 h2 h3
  . rw [hs.1 id e] at h1; exact h id r h1 h2 h3
theorem U1.push {H H':Heap} (hU:U1 H) {e n:Nat} {s x w:Value} {new:List Value} (hx:qDt H e x=some (n,new)) (hn:e=1→∀ c∈new,∃ x:Int,c=vI x) (hp:pApp H e s x=some (w,H')):U1 H':=by
  unfold pApp at hp;rw [hx] at hp;simp only at hp;unfold qLn at hp
  split at hp
  . split at hp
    . cases hp; exact hU
    . split at hp
      . cases hp
        refine U1.app hU fun r hr h2 h3=>?_
        simp only [List.mem_singleton,Ob.row.injEq] at hr;subst hr;exact hn h3
      . cases hp
  . split at hp
    . rename_i r hr
      split at hp
      . rename_i hc
        cases hp;have hrow:=(Heap.row?_some hr).1;intro id r2 h1 h2 h3 c hcm;rw [List.getElem?_set] at h1
        split at h1
        . split at h1
          . cases h1
            simp only at h3 hcm;rcases List.mem_append.1 hcm with h | h
            . exact hU _ r hrow hc.1 (by rw [hc.2.1]; exact h3) c (List.mem_of_mem_drop (List.mem_of_mem_take h))
            . exact hn h3 c h
          . cases h1
        . exact hU id r2 h1 h2 h3 c hcm
      . cases hp
    . cases hp
  . cases hp
section
variable {H : Heap} {K : Value → Heap → Prop}
end
end Pm

/- Rows of one's own while a call gives rows of another size, and more of which nothing is asked.
   No condition: plain lemmas. -/

namespace Pm
set_option linter.unusedSimpArgs false
set_option linter.unusedVariables false
open Go Am

def No4 (H:Heap):Prop:=∀ (id:Nat) (r:Row),H[id]?=some (.row r)→r.rw=true→r.esz≠4
theorem No4.nil:No4 []:=fun id r h=>by simp at h
theorem No4.app {H:Heap} (h:No4 H) {rs:List Ob} (hr:∀ r,Ob.row r∈rs→r.rw=true→r.esz≠4):No4 (H++rs):=fun id r h1 h2=>by
  rcases Nat.lt_or_ge id H.length with hi | hi
  . rw [List.getElem?_append_left hi] at h1; exact h id r h1 h2
  . rw [List.getElem?_append_right hi] at h1; exact hr r (List.mem_of_getElem? h1) h2
theorem No4.same {H H':Heap} {k:Nat} (h:No4 H) (hs:Same H k H') (hk:∀ r,H'[k]?=some (.row r)→r.rw=true→r.esz≠4):No4 H':=fun id r h1 h2=>by
  by_cases e:id=k
  . subst e; exact hk r h1 h2
  . rw [hs.1 id e] at h1; exact h id r h1 h2
theorem No4.push {H H':Heap} (h:No4 H) {s x w:Value} (hp:pApp H 1 s x=some (w,H')):No4 H':=fun id r h1 h2=>by
  rcases pApp_esz hp h1 with e | e
  . rw [e]; decide
  . exact h id r e h2

theorem qFm.lendE {P:Program} {f:FuncId} {args args':List Value} {h:Heap} {K:Value→Heap→Prop} (hv:Inls 0 h args args') (h4:No4 h)
    (k:qBn P f args' (lockAll h) fun v _=>∃ n cs e2 n2 cs2,v=.agg #[lst 4 n cs,lst e2 n2 cs2]∧cs.all qDx=true∧cs2.all qDx=true∧∀ fv,K (.agg #[lst 4 n cs,fv]) h):qFm P f args h K:=by
  intro m H vals hP hr;have hr':Rs (Wr m (lockAll h)) H m args' vals:=by
    obtain ⟨hl,hg⟩:=hv.get;refine .of_get (by rw [← hl]; exact hr.length) fun i p v hp hvv=>?_
    obtain ⟨x,hx⟩:∃ x,args[i]?=some x:=⟨_,List.getElem?_eq_getElem (by rw [hl]; exact (List.getElem?_eq_some_iff.1 hp).1)⟩
    have h1:=(hg i x p hx hp).R hP (W:=fun _=>False) (fun a h=>h.elim) (hr.get i x v hx hvv) (fun a h=>h.elim)
    exact h1.mono (Stp.less fun a ha=>(qMz ha).elim) (.none m)
  refine (k m H vals hP.lockAll hr').mono fun v H'=>?_
  rintro ⟨p,h',m',⟨n,cs,e2,n2,cs2,rfl,k1,k0,k2⟩,k3,k4,k5,k6⟩;obtain ⟨ext,rfl⟩:∃ ext,H'=H++ext:=by
    refine ⟨H'.drop H.length,?_⟩;apply List.ext_getElem?;intro i
    by_cases hi:i < H.length
    . rw [k6.same i hi qMz,List.getElem?_append_left hi]
    . rw [List.getElem?_append_right (by omega),List.getElem?_drop]; congr 1; omega
  have hs:Stp (Wr m h) H (Wr m h) (H++ext):=⟨by simp,fun a ha _=>List.getElem?_append_left ha,fun a ha=>.inl ha⟩
  have hP':PRel m h (H++ext):=by
    refine ⟨fun id r hr=>?_,hP.inj,fun id a ha=>⟨(hP.dom id a ha).1,Nat.lt_of_lt_of_le (hP.dom id a ha).2 (by simp)⟩⟩
    obtain ⟨a,r',h1,h2,h3,h4,h5,h6⟩:=hP.row id r hr;exact ⟨a,r',h1,by rw [List.getElem?_append_left (hP.dom id a h1).2]; exact h2,h3,h4,h5,h6.mono hs (.refl _)⟩
  obtain ⟨ys,rfl,hrs⟩:=k4.agg_list;have hlen:=hrs.length;simp only [List.length_cons,List.length_nil,Array.length_toList] at hlen;obtain ⟨v1,v2,hy⟩:∃ v1 v2,ys.toList=[v1,v2]:=by
    match hq:ys.toList,(by rw [Array.length_toList]; omega:ys.toList.length=2) with
    | [a,b],_=>exact ⟨a,b,rfl⟩
  have hx1:=hrs.get 0 _ v1 rfl (by rw [hy]; rfl)
  have hx2:=hrs.get 1 _ v2 rfl (by rw [hy]; rfl)
  have g1:R (Wr m h) (H++ext) m (lst 4 n cs) v1:=by
    generalize hp:lst 4 n cs=p at hx1
    cases hx1 with
    | lstNil =>
      have e1:=congrArg qEr hp;simp only [qDa,Option.some.injEq,Prod.mk.injEq] at e1;obtain ⟨rfl,rfl,rfl⟩:=e1;exact .lstNil
    | @lst m0 e0 n0 cs0 a off ver r hr hf he' hl hb hc =>
      have e1:=congrArg qEr hp;simp only [qDa,Option.some.injEq,Prod.mk.injEq] at e1;obtain ⟨rfl,rfl,rfl⟩:=e1;refine .lst hr ?_ he' hl hb fun j c v h1 h2=>?_
      . rintro ⟨id,r0,q1,q2,q3⟩
        obtain ⟨a',r',w1,w2,w3,_,_,_⟩:=hP.row id r0 q1;rw [q3] at w1; cases w1;have q4:=(Heap.row?_some hr).1;rw [List.getElem?_append_left (hP.dom id a q3).2,w2] at q4;cases q4;exact h4 id r0 q1 q2 (by rw [← w3]; exact he')
      . have hcp:=List.all_eq_true.1 k1 c (List.mem_of_getElem? h1)
        have:=hc j c v h1 h2;rw [qIy hcp this];exact qNu hcp
    | _=>exact absurd (congrArg qEr hp) (by simp [qDa]; try simp [qEr,Pm.fptr])
  obtain ⟨fv,g2⟩:∃ fv,R (Wr m h) (H++ext) m fv v2:=by
    generalize hp:lst e2 n2 cs2=p at hx2
    cases hx2 with
    | lstNil=>exact ⟨_,.sliceNil⟩
    | @lst m0 e0 n0 cs0 a off ver r hr hf he' hl hb hc =>
      have e1:=congrArg qEr hp;simp only [qDa,Option.some.injEq,Prod.mk.injEq] at e1;obtain ⟨rfl,rfl,rfl⟩:=e1;rcases Classical.em (Wr m h a) with hw | hw
      . obtain ⟨id,r0,q1,q2,q3⟩:=hw
        exact ⟨_,.slice q3⟩
      . refine ⟨_,.lst hr hw he' hl hb fun j c v h1 h2=>?_⟩
        have hcp:=List.all_eq_true.1 k0 c (List.mem_of_getElem? h1);have:=hc j c v h1 h2;rw [qIy hcp this];exact qNu hcp
    | _=>exact absurd (congrArg qEr hp) (by simp [qDa]; try simp [qEr,Pm.fptr])
  refine ⟨⟨ext,rfl⟩,.agg #[lst 4 n cs,fv],h,m,k2 fv,hP',?_,.refl _,hs⟩;refine .agg' ?_;rw [hy];exact .cons g1 (.cons g2 .nil)
end Pm
