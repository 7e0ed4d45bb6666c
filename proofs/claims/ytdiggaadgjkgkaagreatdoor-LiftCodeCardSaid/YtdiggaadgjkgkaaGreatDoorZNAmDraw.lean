/- The abstract machine: operations whose order is drawn: one order serves all.
   No condition: plain lemmas. -/

import Derived.Test.YtdiggaadgjkgkaaGreatDoorZNAmCode
namespace Am
set_option linter.unusedSimpArgs false
set_option linter.unusedVariables false
open Go

/-! ### What an operation looks at -/
def oT:Operand→List Nat
  | .tmp t=>[t]
  | _=>[]
def oTs (xs:List Operand):List Nat:=xs.flatMap oT
def oTo (x:Option Operand):List Nat:=match x with | some x=>oT x | none=>[]
def rdQ:QOp→List Nat
  | .val x | .load x | .loadA _ x | .not x | .neg x | .conv _ x | .fieldA _ x | .part _ _ x | .ext x _ | .len x | .lenS x | .none3 x | .ptrCk x=>oT x
  | .pick c a b=>oT c++oT a++oT b
  | .build _ ps=>oTs (ps.map (·.2.2))
  | .bin _ x y | .eqB _ x y | .idxA _ x y | .idxP _ _ x y | .idx _ _ _ x y | .idxS x y | .eqS _ x y | .eqA _ _ x y=>oT x++oT y
  | .fn _ cs=>oTs cs
  | .mfn _ cs=>oTs cs
  | .cut _ x lo hi=>oT x++oTo lo++oTo hi
  | .mm _ x ys=>oT x++oTs ys
def rdE:EOp→List Nat
  | .new _ _=>[]
  | .box _ _ x | .clear _ x=>oT x
  | .lit _ _ _ ps=>oTs (ps.map (·.2.2))
  | .make _ _ x y | .store _ x y | .app _ x y | .copy _ x y=>oT x++oT y
def rdA:AOp→List Nat
  | .q o=>rdQ o
  | .e o=>rdE o
  | .call _ xs=>oTs xs
  | .callv g xs=>oT g++oTs xs
  | .nilT _ x=>oT x
  | .st _=>[]

section
variable {fr fr' : Fr} {H : Heap}
theorem qCy {x:Operand} (h:∀ t∈oT x,fr t=fr' t):ev fr x=ev fr' x:=by
  cases x<;>first | rfl | exact h _ (by simp [oT])
theorem qGy:∀ {xs:List Operand},(∀ t∈oTs xs,fr t=fr' t)→xs.map (ev fr)=xs.map (ev fr')
  | [],_=>rfl
  | x :: xs,h=>by
    simp only [List.map_cons];rw [qCy (x:=x) fun t ht=>h t (by simp [oTs,ht]),qGy (xs:=xs) fun t ht=>h t (by simp only [oTs,List.flatMap_cons,List.mem_append]; exact .inr ht)]
theorem evo_congr {x:Option Operand} (h:∀ t∈oTo x,fr t=fr' t):x.map (ev fr)=x.map (ev fr'):=by
  cases x with
  | none=>rfl
  | some x=>simp only [Option.map_some]; rw [qCy (x:=x) h]
theorem qHi:∀ {ps:List (Nat×Nat×Operand)},(∀ t∈oTs (ps.map (·.2.2)),fr t=fr' t)→(ps.map fun p=>(p.1,p.2.1,ev fr p.2.2))=ps.map fun p=>(p.1,p.2.1,ev fr' p.2.2)
  | [],_=>rfl
  | p :: ps,h=>by
    simp only [List.map_cons];rw [qCy (x:=p.2.2) fun t ht=>h t (by simp [oTs,ht]),qHi (ps:=ps) fun t ht=>h t (by simp only [oTs,List.map_cons,List.flatMap_cons,List.mem_append]; exact .inr ht)]
theorem qGr {q:QOp} (h:∀ t∈rdQ q,fr t=fr' t):qop q fr H=qop q fr' H:=by
  cases q<;>simp only [rdQ,List.mem_append] at h<;>simp only [qop]
  case build z ps=>rw [qHi h]
  case fn f cs=>rw [qGy h]
  case mfn f cs=>rw [qGy h]
  case pick c a b=>rw [qCy fun t ht=>h t (.inl (.inl ht)),qCy (x:=a) fun t ht=>h t (.inl (.inr ht)),qCy (x:=b) fun t ht=>h t (.inr ht)]
  case cut n x lo hi=>rw [qCy fun t ht=>h t (.inl (.inl ht)),evo_congr (x:=lo) fun t ht=>h t (.inl (.inr ht)),evo_congr (x:=hi) fun t ht=>h t (.inr ht)]
  case mm b x ys=>rw [qCy fun t ht=>h t (.inl ht),qGy (xs:=ys) fun t ht=>h t (.inr ht)]
  all_goals first | rw [qCy h] | (rename_i x y; rw [qCy (x:=x) fun t ht=>h t (.inl ht),qCy (x:=y) fun t ht=>h t (.inr ht)])
theorem eop_congr {q:EOp} (h:∀ t∈rdE q,fr t=fr' t):eop q fr H=eop q fr' H:=by
  cases q<;>simp only [rdE,List.mem_append] at h<;>simp only [eop]
  case lit z e l ps=>rw [qHi h]
  all_goals first | rw [qCy h] | (rename_i x y; rw [qCy (x:=x) fun t ht=>h t (.inl ht),qCy (x:=y) fun t ht=>h t (.inr ht)])

def opK (P:Program) (op:AOp) (fr:Fr) (H:Heap) (C:Value→Heap→Prop):Prop :=
  match op with
  | .q o=>∃ v,qop o fr H=some v∧C v H
  | .e o=>∃ v H',eop o fr H=some (v,H')∧C v H'
  | .call f args=>qCq P f (args.map (ev fr)) H C
  | .callv g args=>∃ f first caps,ev fr g=.func (.func f) first caps∧qCg P f=true∧qCq P f (first.toList++args.map (ev fr)++caps.toList) H C
  | .nilT g x=>qEr (ev fr x) false=true∧∀ b:Bool,qEr (ev fr x) b=true→C (.bool (b != g)) H
  | .st _=>False
theorem opK_congr {P:Program} {op:AOp} (h:∀ t∈rdA op,fr t=fr' t) {C:Value→Heap→Prop} (k:opK P op fr H C):opK P op fr' H C:=by
  cases op<;>simp only [rdA,List.mem_append] at h<;>simp only [opK] at k ⊢
  case q o=>rwa [← qGr h]
  case e o=>rwa [← eop_congr h]
  case call f xs=>rwa [← qGy h]
  case callv g xs=>rwa [← qCy fun t ht=>h t (.inl ht),← qGy (xs:=xs) fun t ht=>h t (.inr ht)]
  case nilT g x=>rwa [← qCy h]
theorem qIp (fr:Fr) (H:Heap):∀ l,qFm fr H H l
  | []=>trivial
  | _ :: l=>⟨rfl,qIp fr H l⟩
theorem wOp_opK {P:Program} {K:Fr→Heap→Prop} {is:List AIns} {d:Option Nat} {fl:List QOp} {op:AOp} (h:wOp P K is d fl op fr H):opK P op fr H fun v H'=>qFm fr H H' fl∧wOps P K is (updO fr d v) H':=by
  cases op<;>simp only [wOp] at h<;>simp only [opK]
  case q o =>
    split at h
    . rename_i v hv; exact ⟨v,hv,qIp _ _ _,h⟩
    . exact h.elim
  case e o =>
    split at h
    . rename_i v H' hv; exact ⟨v,H',hv,h⟩
    . exact h.elim
  case call f xs=>exact h
  case callv g xs =>
    split at h
    . rename_i f first caps he; exact ⟨f,first,caps,he,h.1,h.2⟩
    . exact h.elim
  case nilT g x=>exact ⟨h.1,fun b hb=>⟨qIp _ _ _,h.2 b hb⟩⟩
end

section
variable {P : Program} {m : Mu} {H : Heap} {w : World} {fr : Fr} {a b : Act}

theorem opK_sound {o:Oper} {op:AOp} (hc:cOp P o.op=some op) (hA:ARel m H w) (hF:FRel m fr b) (hex:execOp a.eval o=execOp b.eval o) {C:Value→Heap→Prop} (h:opK P op fr H C) (next:Act→World→Prop) (Q:Exit→Act→World→Prop)
    (hn:∀ (v c:Value) (H':Heap) (m':Mu) (w':World),C v H'→VRel m' v c→ARel m' H' w'→Kept m H w m' H' w'→next (a.put o.dst c) w'):o.wp P a w next Q:=by
  unfold Oper.wp;rw [hex];unfold cOp at hc
  split at hc
  . rename_i q hq
    cases hc;obtain ⟨v,hv,hC⟩:=h;obtain ⟨c,k1,k2⟩:=qMq hA hF hq hv;rw [k1];exact hn v c H m w hC k2 hA (.refl _ _ _)
  . split at hc
    . rename_i e he
      cases hc;obtain ⟨v,H',hv,hC⟩:=h;obtain ⟨n,c,w',m',k1,k2,k3,k4,k5⟩:=qNe hA hF he hv;rw [k1];rcases k2 with rfl | ⟨rfl,rfl⟩
      . exact hn v c H' m' w' hC k3 k4 k5
      . exact hn v undef H' m' w' hC k3 k4 k5
    . split at hc
      . rename_i f args tys ho
        split at hc
        . rename_i hok
          cases hc;simp only [Bool.and_eq_true] at hok;obtain ⟨dst,op',ty,pos,after,guard⟩:=o;simp only at ho hn h;subst ho;rw [qOl hok.2];refine (h m w (args.map b.eval) hA (by simpa using qEd hF hok.1)).mono ?_
          rintro e w' ⟨v,c,H',m',rfl,hK,k3,k4,k5⟩;exact hn v c H' m' w' hK k3 k4 k5
        . cases hc
      . rename_i t args tys ho
        split at hc
        . rename_i hok
          cases hc;obtain ⟨dst,op',ty,pos,after,guard⟩:=o;simp only at ho hn h;subst ho;obtain ⟨f,first,caps,hev,hcal,hcall⟩:=h
          have hr:=hF.ev (x:=.tmp t) rfl;rw [hev] at hr;cases hg:b.eval (.tmp t)<;>rw [hg] at hr<;>cases hr;rename_i f1 g1 s1 r1 s2 r2;rw [qMl hg hcal];refine (hcall m w (f1++args.map b.eval++g1) hA ?_).mono ?_
          . simp only [Array.toList_append,Array.toList_map]
            exact ((VRels.of_get (by simpa using s1) fun i x y hx hy=>r1 i x y (by simpa using hx) (by simpa using hy)).append (qEd hF hok)).append
              (.of_get (by simpa using s2) fun i x y hx hy=>r2 i x y (by simpa using hx) (by simpa using hy))
          . rintro e w' ⟨v,c,H',m',rfl,hK,k3,k4,k5⟩
            exact hn v c H' m' w' hK k3 k4 k5
        . cases hc
      . rename_i t x yt ho
        split at hc
        . rename_i hok
          split at hc
          . rename_i e ht
            cases hc;obtain ⟨dst,op',ty,pos,after,guard⟩:=o;simp only at ho hn h;subst ho;obtain ⟨b',k1,k2⟩:=qIr (w:=w) (hF.ev hok) h.1 ht false dst yt ty pos after guard;simp only [Bool.false_eq_true,if_false] at k2;rw [k2];exact hn _ _ H m w (h.2 b' k1) (.bool _) hA (.refl _ _ _)
          . cases hc
        . cases hc
      . rename_i t x yt ho
        split at hc
        . rename_i hok
          split at hc
          . rename_i e ht
            cases hc;obtain ⟨dst,op',ty,pos,after,guard⟩:=o;simp only at ho hn h;subst ho;obtain ⟨b',k1,k2⟩:=qIr (w:=w) (hF.ev hok) h.1 ht true dst yt ty pos after guard;simp only [if_true] at k2;rw [k2];exact hn _ _ H m w (h.2 b' k1) (.bool _) hA (.refl _ _ _)
          . cases hc
        . cases hc
      . cases hc

def isMk:EOp→Bool
  | .new _ _ | .box _ _ _ | .lit _ _ _ _ | .make _ _ _ _=>true
  | _=>false
def mkV:EOp→Fr→Option ((Nat→Value)×List Value×Nat)
  | .new z esz,_=>some (qRk,z,esz)
  | .box n esz x,fr=>match cellsOf (ev fr x) with | some vs=>if vs.length=n then some (qRk,vs,esz) else none | none=>none
  | .lit z esz len ps,fr=>(qEa z (ps.map fun p=>(p.1,p.2.1,ev fr p.2.2))).map fun l=>(mkSl len,l,esz)
  | .make z esz l c,fr =>
    match ev fr l,ev fr c with
    | .int _ l,.int _ c=>if 0≤l∧l≤c∧c≤lim then some (mkSl l.toNat,rep c.toNat z,esz) else none
    | _,_=>none
  | _,_=>none
theorem qTd {e:EOp} (he:isMk e=true):eop e fr H=(mkV e fr).map fun p=>(p.1 H.length,newRow H p.2.1 p.2.2):=by
  cases e<;>simp [isMk] at he<;>simp only [eop,mkV]
  case new z esz=>rfl
  case box n esz x =>
    cases hc:cellsOf (ev fr x) with
    | none=>rfl
    | some vs=>by_cases h:vs.length=n<;>simp [h,qRk]
  case lit z esz len ps=>rw [Option.map_map]; rfl
  case make z esz l c =>
    unfold qIc
    generalize ev fr l=x
    generalize ev fr c=y
    cases x<;>cases y<;>try rfl
    rename_i k1 n1 k2 n2
    by_cases h:0≤n1∧n1≤n2∧n2≤lim<;>simp [h,mkSl]
theorem qIb {e:EOp} {fr':Fr} (h:∀ t∈rdE e,fr t=fr' t):mkV e fr=mkV e fr':=by
  cases e<;>simp only [rdE,List.mem_append] at h<;>simp only [mkV]
  case lit z e l ps=>rw [qHi h]
  all_goals first | rw [qCy h] | (rename_i x y; rw [qCy (x:=x) fun t ht=>h t (.inl ht),qCy (x:=y) fun t ht=>h t (.inr ht)])
theorem mk_sound (hF:FRel m fr b) {o:Oper} {op:AOp} {e:EOp} (hc:cOp P o.op=some op) (hop:op=.e e) {mk:Nat→Value} {vs:List Value} {esz:Nat} (h:mkV e fr=some (mk,vs,esz)):qQz P m w (execOp b.eval o) mk vs esz:=by
  obtain ⟨dst,op',ty,pos,after,guard⟩:=o;unfold cOp at hc;subst hop
  split at hc
  . cases hc
  . rename_i hcq
    clear hcq
    split at hc
    . rename_i e' he
      cases hc;simp only at he;cases op'
      case alloc t =>
        simp only [cE] at he
        split at he
        . rename_i z n hz hn; cases he; simp only [mkV,Option.some.injEq,Prod.mk.injEq] at h; obtain ⟨rfl,rfl,rfl⟩:=h; exact c_new hz n
        . cases he
      case box t x =>
        simp only [cE] at he; split at he
        . rename_i hx
          split at he
          . rename_i n e hn he'
            cases he;simp only [mkV] at h
            split at h
            . rename_i vs hvs
              split at h
              . simp only [Option.some.injEq,Prod.mk.injEq] at h; obtain ⟨rfl,rfl,rfl⟩:=h; exact c_box (hF.ev hx) hvs e
              . cases h
            . cases h
          . cases he
        . cases he
      case buildSlice t len parts =>
        simp only [cE] at he
        split at he
        . rename_i e ht
          split at he
          . rename_i n z hz
            split at he
            . rename_i hb
              cases hq:qEi (fun i=>some (i * n,n)) parts.toList with
              | none=>simp [hq] at he
              | some qs =>
                simp [hq] at he; subst he;simp only [mkV,Option.map_eq_some_iff,Prod.mk.injEq] at h;obtain ⟨r,hr,rfl,rfl,rfl⟩:=h;exact c_lit hF ht hz hb hq hr
            . cases he
          . cases he
        . cases he
      case makeSlice t l c =>
        simp only [cE] at he; split at he
        . rename_i hx
          simp only [Bool.and_eq_true] at hx
          split at he
          . rename_i e ht
            split at he
            . rename_i z hz
              split at he
              . rename_i hs; cases he
                simp only [mkV] at h;have g1:=hF.ev hx.1;have g2:=hF.ev hx.2
                split at h
                . rename_i kl l kc c e1 e2
                  rw [e1] at g1; rw [e2] at g2
                  split at h
                  . rename_i hb; simp only [Option.some.injEq,Prod.mk.injEq] at h; obtain ⟨rfl,rfl,rfl⟩:=h; exact c_make ht hz hs g1 g2 hb
                  . cases h
                . cases h
              . cases he
            . cases he
          . cases he
        . cases he
      case store t p x =>
        simp only [cE] at he; split at he
        . cases hn:szOf P t with
          | none=>simp [hn] at he
          | some n=>simp [hn] at he; subst he; simp [mkV] at h
        . cases he
      case call cl =>
        obtain ⟨callee,args,argTypes⟩:=cl;cases callee with
        | value f=>simp [cE] at he
        | invoke r n=>simp [cE] at he
        | builtin bb =>
          cases bb<;>simp only [cE] at he<;>try (cases he; done)
          case append =>
            split at he
            . split at he
              . split at he
                . split at he
                  . split at he
                    . cases he; simp [mkV] at h
                    . cases he
                  . cases he
                . cases he
              . cases he
            . cases he
          case clear =>
            split at he
            . split at he
              . split at he
                . rename_i e hu
                  cases hz:qFd P e with
                  | none=>simp [hz] at he
                  | some z=>simp [hz] at he; subst he; simp [mkV] at h
                . cases he
              . cases he
            . cases he
          case copy =>
            split at he
            . split at he
              . split at he
                . rename_i e e' hu hu'
                  cases hz:szOf P e with
                  | none=>simp [hz] at he
                  | some z=>simp [hz] at he; subst he; simp [mkV] at h
                . cases he
              . cases he
            . cases he
      all_goals (simp [cE] at he)
    . split at hc
      . split at hc<;>cases hc
      . split at hc<;>cases hc
      . split at hc
        . split at hc<;>cases hc
        . cases hc
      . split at hc
        . split at hc<;>cases hc
        . cases hc
      . cases hc
end

theorem row?_grow {H:Heap} {id ver:Nat} {r:Row} (h:H.row? id ver=some r) (ext:Heap):Heap.row? (H++ext) id ver=some r:=by
  obtain ⟨h1,h2⟩:=Heap.row?_some h;unfold Heap.row?;rw [List.getElem?_append_left (List.getElem?_eq_some_iff.1 h1).1,h1];simp [h2]
theorem cell?_grow {H:Heap} {id off ver:Nat} {v:Value} (h:H.cell? id off ver=some v) (ext:Heap):Heap.cell? (H++ext) id off ver=some v:=by
  unfold Heap.cell? at h ⊢
  split at h
  . rename_i r hr; rw [row?_grow hr ext]; exact h
  . cases h
theorem cells?_grow {H:Heap} {id off ver n:Nat} {v:List Value} (h:H.cells? id off ver n=some v) (ext:Heap):Heap.cells? (H++ext) id off ver n=some v:=by
  unfold Heap.cells? at h ⊢
  split at h
  . rename_i r hr; rw [row?_grow hr ext]; exact h
  . cases h
theorem ldV_grow {H:Heap} {x v:Value} (h:ldV H x=some v) (ext:Heap):ldV (H++ext) x=some v:=by
  unfold ldV at h ⊢
  split at h
  . exact cell?_grow h ext
  . cases h
theorem ldA_grow {H:Heap} {n:Nat} {x v:Value} (h:ldA H n x=some v) (ext:Heap):ldA (H++ext) n x=some v:=by
  unfold ldA at h ⊢
  split at h
  . rw [Option.map_eq_some_iff] at h ⊢
    obtain ⟨l,h1,h2⟩:=h;exact ⟨l,cells?_grow h1 ext,h2⟩
  . cases h
theorem cutV_grow {H:Heap} {n:Nat} {x v:Value} {lo hi:Option Value} (h:cutV H n x lo hi=some v) (ext:Heap):cutV (H++ext) n x lo hi=some v:=by
  unfold cutV at h ⊢
  split at h
  . exact h
  . rename_i id off len ver
    split at h
    . rename_i r l hh hr h1 h2
      simp only [row?_grow hr ext,h1,h2];exact h
    . cases h
  . cases h
theorem qop_grow {q:QOp} {fr:Fr} {H:Heap} {v:Value} (h:qop q fr H=some v) (ext:Heap):qop q fr (H++ext)=some v:=by
  cases q<;>simp only [qop] at h ⊢<;>first | exact h | exact ldV_grow h ext | exact ldA_grow h ext | exact cutV_grow h ext
def looks:QOp→Bool
  | .load _ | .loadA _ _ | .cut _ _ _ _=>true
  | _=>false
theorem qop_still {q:QOp} (h:looks q=false) (fr:Fr) (H H':Heap):qop q fr H=qop q fr H':=by
  cases q<;>first | rfl | simp [looks] at h
end Am
/- The abstract machine: operations whose order is drawn: what is asked of them, and that one order serves all.
   No condition: plain lemmas. -/
namespace Am
set_option linter.unusedSimpArgs false
set_option linter.unusedVariables false
open Go
open Classical

noncomputable def qSk (X:Nat→Prop) (fr:Fr):Fr:=fun t=>if X t then .tuple #[] else fr t
noncomputable def qRm (X:Nat→Prop) (a:Act):Act:={ a with tmps:=a.tmps.mapIdx fun i v=>if X i then undef else v }

section
variable {P : Program} {m : Mu} {H : Heap} {w : World} {fr : Fr} {a : Act} {X : Nat → Prop}
theorem maskA_get (t:Nat):(qRm X a).tmps.getD t undef=if X t then undef else a.tmps.getD t undef:=by
  simp only [qRm,Array.getD_eq_getD_getElem?,Array.getElem?_mapIdx];cases a.tmps[t]? with
  | none=>simp
  | some v=>simp
theorem qOy (h:∀ t,¬ X t→VRel m (fr t) (a.tmps.getD t undef)):FRel m (qSk X fr) (qRm X a):=by
  intro t;rw [maskA_get];unfold qSk
  split
  . exact .undef m
  . rename_i hx; exact h t hx
theorem mask_eval {x:Operand} (h:∀ t,x=.tmp t→¬ X t):(qRm X a).eval x=a.eval x:=by
  cases x with
  | tmp t=>simp only [Act.eval]; rw [maskA_get,if_neg (h t rfl)]
  | _=>rfl
theorem qOz {t:Nat} (h:¬ X t):qSk X fr t=fr t:=if_neg h
end

structure DOk (P:Program) (N:Nat) (ops:Array Oper) (ord:List Nat) (A:Nat→AIns) (rd:Nat→List Nat) (B:Nat→Nat→Bool) (kd:Nat→Nat):Prop where
  mem:∀ i,i∈ord↔i < ops.size
  nodup:ord.Nodup
  comp:∀ i o,ops[i]?=some o→cOp P o.op=some (A i).op∧qTa ops o.guard=some (A i).guard∧(A i).dst=o.dst∧qPj N o.dst=true
  rdo:∀ i o,ops[i]?=some o→∀ t,Operand.tmp t∈o.op.operands→t∈rd i
  rda:∀ i,i < ops.size→∀ t∈rdA (A i).op,t∈rd i
  rdg:∀ i,i < ops.size→∀ d wnt,(A i).guard=some (d,wnt)→d∈rd i
  dir:∀ i o,ops[i]?=some o→∀ e∈o.after,Region.binds .any e=true→B i e.on=true
  bfc:∀ i o,ops[i]?=some o→∀ j,B i j=true→∃ e∈o.after,Region.binds .any e=true∧(j=e.on∨B e.on j=true)
  topo:∀ pre x rest,ord=pre++x :: rest→∀ j,B x j=true→j∈pre
  fresh:∀ i,kd i≠2→i < ops.size→∃ d,(A i).dst=some d∧(∀ k,k < ops.size→k≠i→(A k).dst≠some d)∧∀ k,k < ops.size→d∈rd k→B k i=true
  kd3:∀ i,kd i=0∨kd i=1∨kd i=2
  light:∀ i,i < ops.size→kd i=0→∃ q,(A i).op=.q q
  mkk:∀ i,i < ops.size→kd i=1→(∃ e,(A i).op=.e e∧isMk e=true)∧(A i).guard=none∧∀ j,B i j=true→kd j=0
  ordd:∀ pre x rest,ord=pre++x :: rest→kd x≠1→∀ j∈pre,kd j≠0→B x j=true
  early:∀ pre x rest,ord=pre++x :: rest→kd x=1→(∃ z esz,(A x).op=.e (.new z esz))∨∀ j∈pre,kd j≠2
  hw:∀ x,x < ops.size→kd x=2→∀ d,(A x).dst=some d→∀ j,j < ops.size→B x j=false→j≠x→B j x=false→kd j≠2→d ∉ rd j
  fl:∀ pre x rest,ord=pre++x :: rest→kd x=2→∀ j∈pre,kd j=0→B x j=false→∀ q,(A j).op=.q q→looks q=true→q∈(A x).fl

theorem stays_mem {fr:Fr} {H H':Heap}:∀ {l:List QOp},qFm fr H H' l→∀ q∈l,qop q fr H'=qop q fr H
  | _ :: _,h,q,hq=>by
    rcases List.mem_cons.1 hq with rfl | hq
    . exact h.1
    . exact stays_mem h.2 q hq

section
variable {P : Program} {N : Nat} {ops : Array Oper} {ord : List Nat} {A : Nat → AIns} {rd : Nat → List Nat} {B : Nat → Nat → Bool} {kd : Nat → Nat} {K : Fr → Heap → Prop} {m0 : Mu} {H0 : Heap} {w0 : World}

def Pend (A:Nat→AIns) (w0:World) (m:Mu) (fr:Fr) (a:Act) (w:World) (b:Nat) (j:Nat):Prop :=
  ∃ d mk vs esz e arr T,(A j).dst=some d∧(A j).op=.e e∧mkV e fr=some (mk,vs,esz)∧w.heap[b]?=some (.cells arr T (0,0))∧(w0.heap.size≤b∧∀ g vs,gtab=some (g,vs)→b≠g) ∧
    (∀ (id ver:Nat) (L:Loc),m id ver=some L→L.blk≠b)∧(∀ (j:Nat) (v:Value),vs[j]?=some v→∃ c,arr[j]?=some c∧VRel m v c)∧vs.length≤arr.size∧(∀ v∈vs,cellLike v=true) ∧
    ∀ (m':Mu) (id:Nat),m' id 0=some ⟨b,0,arr.size,esz⟩→VRel m' (mk id) (a.tmps.getD d undef)

theorem Pend.move {m m':Mu} {H H':Heap} {fr fr':Fr} {a a':Act} {w w':World} {b j:Nat} (h:Pend A w0 m fr a w b j) (k:Kept m H w m' H' w') (hf:∀ e,(A j).op=.e e→mkV e fr'=mkV e fr)
    (ht:∀ d,(A j).dst=some d→a'.tmps.getD d undef=a.tmps.getD d undef):Pend A w0 m' fr' a' w' b j:=by
  obtain ⟨d,mk,vs,esz,e,arr,T,h1,h2,h3,h4,h5,h6,h7,h8,h9,h10⟩:=h;have hb:=(Array.getElem?_eq_some_iff.1 h4).1;refine ⟨d,mk,vs,esz,e,arr,T,h1,h2,(hf e h2).trans h3,?_,h5,fun id ver L hL hLb=>?_,fun i v hv=>?_,h8,h9,fun m'' id hm=>by rw [ht d h1]; exact h10 m'' id hm⟩
  . rw [k.same b hb (fun ⟨id,r,L,_,_,z3,z4⟩=>h6 _ _ _ z3 z4)]; exact h4
  . rcases k.dom id ver L hL with ⟨i0,v0,L0,z1,z2⟩ | z
    . exact h6 _ _ _ z1 (z2.trans hLb)
    . omega
  . obtain ⟨c,z1,z2⟩:=h7 i v hv
    exact ⟨c,z1,z2.mono k.ext⟩

structure DInv (P:Program) (N:Nat) (ops:Array Oper) (ord:List Nat) (A:Nat→AIns) (B:Nat→Nat→Bool) (kd:Nat→Nat) (K:Fr→Heap→Prop) (m0:Mu) (H0:Heap) (w0:World)
    (listed:Array Bool) (a:Act) (w:World) (blk:Nat→Nat) (pre rest:List Nat) (m:Mu) (fr:Fr) (H:Heap):Prop where
  spl:ord=pre++rest
  sz:listed.size=ops.size
  run:wOps P K (rest.map A) fr H
  prel:∀ j∈pre,kd j≠0→listed.getD j false=true
  restl:∀ j∈rest,listed.getD j false=true→kd j=1∧Pend A w0 m fr a w (blk j) j
  rel:ARel m H w
  kept:Kept m0 H0 w0 m H w
  tsz:a.tmps.size=N
  dfr:a.defers=[]
  frame:∀ t,(∀ j,j < ops.size→(A j).dst=some t→¬ (j∈pre∧kd j=0∧listed.getD j false=false)∧¬ (j∈rest∧listed.getD j false=true))→VRel m (fr t) (a.tmps.getD t undef)
  lval:∀ j∈pre,kd j=0→listed.getD j false=false→∃ d,(A j).dst=some d∧(qCe fr (A j).guard=true→∀ q,(A j).op=.q q→qop q fr H=some (fr d))∧(qCe fr (A j).guard=false→fr d=.tuple #[])
  clos:∀ j,listed.getD j false=true→∀ k,B j k=true→listed.getD k false=true
  binj:∀ i∈rest,∀ j∈rest,listed.getD i false=true→listed.getD j false=true→i≠j→blk i≠blk j

def Settled (kd:Nat→Nat) (listed:Array Bool) (rest:List Nat):Prop:=rest=[]∨∃ x r,rest=x :: r∧kd x≠0∧listed.getD x false=false

theorem qHf {fr fr':Fr} {g:Option (Nat×Bool)} (h:∀ d w,g=some (d,w)→fr d=fr' d):qCe fr g=qCe fr' g:=by
  cases g with
  | none=>rfl
  | some p=>obtain ⟨d,w⟩:=p; simp only [qCe]; rw [h d w rfl]

theorem qFk {fr:Fr} {d t:Nat} {v:Value} (h:t≠d):upd fr d v t=fr t:=if_neg h
theorem qRz {fr:Fr} {d:Nat} {v:Value}:upd fr d v d=v:=if_pos rfl

theorem qRu (D:DOk P N ops ord A rd B kd) {listed:Array Bool} {a:Act} {w:World} {blk:Nat→Nat}:∀ (rest pre:List Nat) (m:Mu) (fr:Fr) (H:Heap),
    DInv P N ops ord A B kd K m0 H0 w0 listed a w blk pre rest m fr H→∃ pre' rest' m' fr' H',DInv P N ops ord A B kd K m0 H0 w0 listed a w blk pre' rest' m' fr' H'∧Settled kd listed rest':=by
  intro rest
  induction rest with
  | nil=>intro pre m fr H I; exact ⟨pre,[],m,fr,H,I,.inl rfl⟩
  | cons x r ih =>
    intro pre m fr H I;have hxo:x∈ord:=by rw [I.spl]; simp
    have hxs:=(D.mem x).1 hxo;have hnd:ord.Nodup:=D.nodup;have hxpre:x ∉ pre:=by
      intro h; rw [I.spl] at hnd;exact (List.nodup_append.1 hnd).2.2 x h x (by simp) rfl
    have hxr:x ∉ r:=by
      rw [I.spl] at hnd;exact (List.nodup_cons.1 (List.nodup_append.1 hnd).2.1).1
    have hpr:∀ j,j∈pre→j ∉ x :: r:=by
      intro j h h'; rw [I.spl] at hnd;exact (List.nodup_append.1 hnd).2.2 j h j h' rfl
    have hpo:∀ j,j∈pre→j < ops.size:=fun j h=>(D.mem j).1 (by rw [I.spl]; exact List.mem_append_left _ h)
    have hro:∀ j,j∈r→j < ops.size:=fun j h=>(D.mem j).1 (by rw [I.spl]; exact List.mem_append_right _ (List.mem_cons_of_mem _ h))
    have hnotself:B x x=false:=by
      cases h:B x x with
      | false=>rfl
      | true=>exact absurd (D.topo pre x r I.spl x h) hxpre
    have hprenot:∀ j∈pre,B j x=false:=by
      intro j hj;cases h:B j x with
      | false=>rfl
      | true =>
        obtain ⟨p1,p2,e⟩:=List.append_of_mem hj;have:=D.topo p1 j (p2++x :: r) (by rw [I.spl,e]; simp) x h
        exact absurd (by rw [e]; exact List.mem_append_left _ this) hxpre
    by_cases hk0:kd x=0
    . -- quiet
      obtain ⟨d,hd,hdis,hdrd⟩:=D.fresh x (by omega) hxs
      obtain ⟨q,hq⟩:=D.light x hxs hk0;have hLx:listed.getD x false=false:=by
        cases h:listed.getD x false with
        | false=>rfl
        | true=>have:=(I.restl x (by simp) h).1; omega
      have hrun:=I.run;have hAx:A x=⟨some d,(A x).guard,.q q,(A x).fl⟩:=by
        rw [← hd,← hq]
      rw [List.map_cons,hAx] at hrun;simp only [wOps] at hrun;have hdx:d ∉ rd x:=fun h=>by have:=hdrd x hxs h; rw [hnotself] at this; cases this
      have key:∀ v,wOps P K (r.map A) (upd fr d v) H→(qCe fr (A x).guard=true→qop q fr H=some v)→(qCe fr (A x).guard=false→v=.tuple #[]) →
          DInv P N ops ord A B kd K m0 H0 w0 listed a w blk (pre++[x]) r m (upd fr d v) H:=by
        intro v hv hv1 hv2;have hgx:qCe (upd fr d v) (A x).guard=qCe fr (A x).guard:=qHf fun d' w' hg=>qFk fun e=>hdx (e ▸ D.rdg x hxs d' w' hg)
        refine ⟨by rw [I.spl]; simp,I.sz,hv,?_,?_,I.rel,I.kept,I.tsz,I.dfr,?_,?_,I.clos,fun i hi j hj=>I.binj i (List.mem_cons_of_mem _ hi) j (List.mem_cons_of_mem _ hj)⟩
        . intro j hj hk
          rcases List.mem_append.1 hj with h | h
          . exact I.prel j h hk
          . simp at h; subst h; exact absurd hk0 hk
        . intro j hj hL
          obtain ⟨k1,k2⟩:=I.restl j (List.mem_cons_of_mem _ hj) hL;refine ⟨k1,k2.move (.refl m H w) (fun e he=>qIb fun t ht=>qFk fun et=>?_) (fun _ _=>rfl)⟩
          have:B j x=true:=hdrd j (hro j hj) (et ▸ D.rda j (hro j hj) t (by rw [he]; exact ht))
          rw [I.clos j hL x this] at hLx; cases hLx
        . intro t ht
          have htd:t≠d:=fun e=>by
            have:=(ht x hxs (by rw [hd,e])).1
            exact this ⟨by simp,hk0,hLx⟩
          rw [qFk htd];refine I.frame t fun j hj hdj=>⟨fun ⟨z1,z2,z3⟩=>(ht j hj hdj).1 ⟨List.mem_append_left _ z1,z2,z3⟩,fun ⟨z1,z2⟩=>?_⟩
          rcases List.mem_cons.1 z1 with e | e
          . subst e; rw [hLx] at z2; cases z2
          . exact (ht j hj hdj).2 ⟨e,z2⟩
        . intro j hj hk hL
          rcases List.mem_append.1 hj with h | h
          . obtain ⟨d',z1,z2,z3⟩:=I.lval j h hk hL
            have hjs:=hpo j h;have hjx:j≠x:=fun e=>hxpre (e ▸ h)
            have hd':d'≠d:=fun e=>hdis j hjs hjx (by rw [z1,e])
            have hnr:d ∉ rd j:=fun hh=>by have:=hdrd j hjs hh; rw [hprenot j h] at this; cases this
            have hg:qCe (upd fr d v) (A j).guard=qCe fr (A j).guard:=qHf fun d'' w' hg=>qFk fun e=>hnr (e ▸ D.rdg j hjs d'' w' hg)
            rw [hg];refine ⟨d',z1,fun hw q' hq'=>?_,fun hw=>by rw [qFk hd']; exact z3 hw⟩
            rw [qFk hd',← z2 hw q' hq'];exact qGr fun t ht=>qFk fun e=>hnr (e ▸ D.rda j hjs t (by rw [hq']; exact ht))
          . simp at h; subst h
            rw [hgx];refine ⟨d,hd,fun hw q' hq'=>?_,fun hw=>by rw [qRz]; exact hv2 hw⟩
            rw [hq] at hq'; cases hq';rw [qRz,← hv1 hw];exact qGr fun t ht=>qFk fun e=>hdx (e ▸ D.rda _ hxs t (by rw [hq]; exact ht))
      split at hrun
      . rename_i hw
        simp only [wOp] at hrun
        split at hrun
        . rename_i v hv
          exact ih _ _ _ _ (key v hrun (fun _=>hv) (fun h=>by rw [hw] at h; cases h))
        . exact hrun.elim
      . rename_i hw
        exact ih _ _ _ _ (key _ hrun (fun h=>absurd h hw) (fun _=>rfl))
    . by_cases hk1:kd x=1∧listed.getD x false=true
      . -- a row that was made early
        obtain ⟨hk1,hLx⟩:=hk1;obtain ⟨_,hP⟩:=I.restl x (by simp) hLx
        obtain ⟨d,mk,vs,esz,e,arr,T,h1,h2,h3,h4,h5,h6,h7,h8,h9,h10⟩:=hP;obtain ⟨⟨e',he',hmk⟩,hg,hbf⟩:=D.mkk x hxs hk1;rw [h2] at he'; cases he';obtain ⟨d0,hd0,hdis,hdrd⟩:=D.fresh x (by omega) hxs
        rw [h1] at hd0; cases hd0;have hrun:=I.run;have hAx:A x=⟨some d,none,.e e,(A x).fl⟩:=by rw [← h1,← h2,← hg]
        rw [List.map_cons,hAx] at hrun;simp only [wOps,qCe,if_true,wOp,qTd hmk,h3,Option.map_some] at hrun;have hA':=I.rel.adopt h4 h6 h5.2 h7 h8 h9 esz;have hK':=I.kept.adopt I.rel h5.1 vs arr.size esz;have hext:MExt m (m.put H.length 0 ⟨blk x,0,arr.size,esz⟩):=by
          refine Mu.put_ext ?_;cases hm:m H.length 0 with
          | none=>rfl
          | some L=>obtain ⟨r,hr,_⟩:=I.rel.fresh _ _ L hm; simp at hr
        refine ih (pre++[x]) _ _ _ ⟨by rw [I.spl]; simp,I.sz,hrun.2,?_,?_,hA',hK',I.tsz,I.dfr,?_,?_,I.clos,fun i hi j hj=>I.binj i (List.mem_cons_of_mem _ hi) j (List.mem_cons_of_mem _ hj)⟩
        . intro j hj hk
          rcases List.mem_append.1 hj with h | h
          . exact I.prel j h hk
          . simp at h; subst h; exact hLx
        . intro j hj hL
          obtain ⟨k1,k2⟩:=I.restl j (List.mem_cons_of_mem _ hj) hL;have hjx:j≠x:=fun e=>hxr (e ▸ hj)
          refine ⟨k1,?_⟩;obtain ⟨d',mk',vs',esz',e',arr',T',q1,q2,q3,q4,q5,q6,q7,q8,q9,q10⟩:=k2;refine ⟨d',mk',vs',esz',e',arr',T',q1,q2,?_,q4,q5,fun id ver L hL'=>?_,fun i v hv=>by obtain ⟨c,z1,z2⟩:=q7 i v hv; exact ⟨c,z1,z2.mono hext⟩,q8,q9,q10⟩
          . rw [← q3]
            refine qIb fun t ht=>qFk fun et=>?_
            have hb:B j x=true:=hdrd j (hro j hj) (et ▸ D.rda j (hro j hj) t (by rw [q2]; exact ht))
            have:=(D.mkk j (hro j hj) k1).2.2 x hb;omega
          . unfold Mu.put at hL'
            split at hL'
            . cases hL'; exact I.binj x (by simp) j (List.mem_cons_of_mem _ hj) hLx hL (fun e=>hjx e.symm)
            . exact q6 _ _ _ hL'
        . intro t ht
          by_cases htd:t=d
          . subst htd
            show VRel _ (upd fr t _ t) _;rw [qRz]; exact h10 _ _ (Mu.put_same _ _ _ _)
          . show VRel _ (upd fr d _ t) _
            rw [qFk htd];refine (I.frame t fun j hj hdj=>⟨fun ⟨z1,z2,z3⟩=>(ht j hj hdj).1 ⟨List.mem_append_left _ z1,z2,z3⟩,fun ⟨z1,z2⟩=>?_⟩).mono hext
            rcases List.mem_cons.1 z1 with e | e
            . subst e; rw [h1] at hdj; cases hdj; exact htd rfl
            . exact (ht j hj hdj).2 ⟨e,z2⟩
        . intro j hj hk hL
          rcases List.mem_append.1 hj with h | h
          . obtain ⟨d',z1,z2,z3⟩:=I.lval j h hk hL
            have hjs:=hpo j h;have hjx:j≠x:=fun e=>hxpre (e ▸ h)
            have hd':d'≠d:=fun e=>hdis j hjs hjx (by rw [z1,e])
            have hnr:d ∉ rd j:=fun hh=>by have:=hdrd j hjs hh; rw [hprenot j h] at this; cases this
            have hg:qCe (updO fr (some d) (mk H.length)) (A j).guard=qCe fr (A j).guard:=qHf fun d'' w' hg=>qFk fun e=>hnr (e ▸ D.rdg j hjs d'' w' hg)
            rw [hg];refine ⟨d',z1,fun hw q' hq'=>?_,fun hw=>by show upd fr d _ d'=_; rw [qFk hd']; exact z3 hw⟩
            show _=some (upd fr d _ d');rw [qFk hd'];have:=qop_grow (z2 hw q' hq') [.row ⟨vs,esz,0,true⟩];rw [← this];exact qGr fun t ht=>qFk fun e=>hnr (e ▸ D.rda j hjs t (by rw [hq']; exact ht))
          . simp at h; subst h; omega
      . have hLx:listed.getD x false=false:=by
          cases h:listed.getD x false with
          | false=>rfl
          | true=>exact absurd ⟨(I.restl x (by simp) h).1,h⟩ hk1
        exact ⟨pre,x :: r,m,fr,H,I,.inr ⟨x,r,rfl,hk0,hLx⟩⟩
end
end Am
/- The abstract machine: operations whose order is drawn: every order comes to what the one order comes to.
   No condition: plain lemmas. -/
namespace Am
set_option linter.unusedSimpArgs false
set_option linter.unusedVariables false
open Go
open Classical

section
variable {P : Program} {N : Nat} {ops : Array Oper} {ord : List Nat} {A : Nat → AIns} {rd : Nat → List Nat} {B : Nat → Nat → Bool} {kd : Nat → Nat} {K : Fr → Heap → Prop} {m0 : Mu} {H0 : Heap} {w0 : World}

theorem cOp_nosel {o:Op} {x:AOp} (h:cOp P o=some x):∀ cs b,o≠.select cs b:=by
  intro cs b e; subst e; simp [cOp,cQ,cE] at h

theorem getD_set {l:Array Bool} {i j:Nat} (hi:i < l.size):(l.setIfInBounds i true).getD j false=if j=i then true else l.getD j false:=by
  simp only [Array.getD_eq_getD_getElem?,Array.getElem?_setIfInBounds]
  by_cases h:i=j
  . subst h; simp [hi]
  . rw [if_neg h,if_neg (fun e=>h e.symm)]

theorem qGs {a:Act} {d:Option Nat} {t:Nat} {v:Value} (h:d≠some t):(a.put d v).tmps.getD t undef=a.tmps.getD t undef:=by
  cases d with
  | none=>rfl
  | some d =>
    simp only [Act.put,Array.getD_eq_getD_getElem?,Array.getElem?_setIfInBounds];rw [if_neg (fun e=>h (by rw [e]))]
theorem qOn {a:Act} {t:Nat} {v:Value} (h:t < a.tmps.size):(a.put (some t) v).tmps.getD t undef=v:=by
  simp [Act.put,h]

theorem qGm (D:DOk P N ops ord A rd B kd) {i:Nat} {e:EOp} (hi:i < ops.size) (he:(A i).op=.e e) (hmk:isMk e=true) (hg:(A i).guard=none):∀ (l:List Nat) (fr:Fr) (H:Heap) (r:List Nat),
    wOps P K ((l++i :: r).map A) fr H→(∀ j∈l,j < ops.size∧kd j≠2∧∀ d,(A j).dst=some d→d ∉ rd i)→∃ p,mkV e fr=some p
  | [],fr,H,r,h,_=>by
    simp only [List.nil_append,List.map_cons] at h;have hA:A i=⟨(A i).dst,none,.e e,(A i).fl⟩:=by rw [← he,← hg]
    rw [hA] at h;simp only [wOps,qCe,if_true,wOp,qTd hmk] at h;cases hm:mkV e fr with
    | none=>rw [hm] at h; exact h.elim
    | some p=>exact ⟨p,rfl⟩
  | j :: l,fr,H,r,h,hl=>by
    obtain ⟨h1,h2,h3⟩:=hl j (by simp)
    simp only [List.cons_append,List.map_cons] at h;have hA:A j=⟨(A j).dst,(A j).guard,(A j).op,(A j).fl⟩:=rfl;have go:∀ v H',wOps P K ((l++i :: r).map A) (updO fr (A j).dst v) H'→∃ p,mkV e fr=some p:=by
      intro v H' hh;obtain ⟨p,hp⟩:=qGm D hi he hmk hg l _ _ r hh (fun k hk=>hl k (List.mem_cons_of_mem _ hk))
      refine ⟨p,?_⟩;rw [← hp];refine qIb fun t ht=>?_
      cases hd:(A j).dst with
      | none=>rfl
      | some d =>
        have hne:t≠d:=fun et=>h3 d hd (by rw [← et]; exact D.rda i hi t (by rw [he]; exact ht))
        exact (qFk hne).symm
    rw [hA] at h;simp only [wOps] at h
    split at h
    . have:(∃ q,(A j).op=.q q)∨∃ e',(A j).op=.e e':=by
        by_cases hk:kd j=0
        . exact .inl (D.light j h1 hk)
        . by_cases hk1:kd j=1
          . obtain ⟨⟨e',he',_⟩,_⟩:=D.mkk j h1 hk1
            exact .inr ⟨e',he'⟩
          . have:=D.kd3 j; omega
      rcases this with ⟨q,hq⟩ | ⟨e',he'⟩
      . rw [hq] at h
        simp only [wOp] at h
        split at h
        . exact go _ _ h
        . exact h.elim
      . rw [he'] at h
        simp only [wOp] at h
        split at h
        . exact go _ _ h.2
        . exact h.elim
    . exact go _ _ h

theorem qIt {listed:Array Bool} {i:Nat} (h:i∈Region.ready .any ops listed) (hs:listed.size=ops.size) :
    i < ops.size∧listed.getD i false=false∧∃ o,ops[i]?=some o∧∀ e∈o.after,Region.binds .any e=true→listed.getD e.on false=true:=by
  unfold Region.ready at h;rw [List.mem_filter,List.mem_range] at h;obtain ⟨h1,h2⟩:=h;simp only [Bool.and_eq_true,Bool.not_eq_true'] at h2;refine ⟨h1,?_,?_⟩
  . have:=h2.1
    simp only [Array.getD_eq_getD_getElem?] at this ⊢;obtain ⟨b,hb⟩:∃ b,listed[i]?=some b:=⟨_,Array.getElem?_eq_getElem (by omega)⟩
    rw [hb] at this ⊢; simpa using this
  . cases ho:ops[i]? with
    | none=>rw [ho] at h2; simp at h2
    | some o =>
      rw [ho] at h2;refine ⟨o,rfl,fun e he hb=>?_⟩
      have:=h2.2;simp only [Option.map_some,Option.getD_some,Array.all_eq_true_iff_forall_mem] at this;have:=this e he
      simpa [hb] using this

def qLn (P:Program) (N:Nat) (ops:Array Oper) (ord:List Nat) (A:Nat→AIns) (B:Nat→Nat→Bool) (kd:Nat→Nat) (K:Fr→Heap→Prop) (m0:Mu) (H0:Heap) (w0:World) (listed:Array Bool) (a:Act) (w:World):Prop :=
  ∃ blk pre rest m fr H,DInv P N ops ord A B kd K m0 H0 w0 listed a w blk pre rest m fr H∧Settled kd listed rest

theorem clos_set (D:DOk P N ops ord A rd B kd) {listed:Array Bool} (hs:listed.size=ops.size) (hc:∀ j,listed.getD j false=true→∀ k,B j k=true→listed.getD k false=true) {i:Nat} (hi:i∈Region.ready .any ops listed) :
    (∀ j,B i j=true→listed.getD j false=true)∧∀ j,(listed.setIfInBounds i true).getD j false=true→∀ k,B j k=true→(listed.setIfInBounds i true).getD k false=true:=by
  obtain ⟨h1,h2,o,ho,hr⟩:=qIt hi hs;have hb:∀ j,B i j=true→listed.getD j false=true:=by
    intro j hj;obtain ⟨e,he,hbi,hor⟩:=D.bfc i o ho j hj;rcases hor with rfl | hor
    . exact hr e he hbi
    . exact hc _ (hr e he hbi) j hor
  refine ⟨hb,fun j hj k hk=>?_⟩
  rw [getD_set (by omega)] at hj ⊢
  split
  . rfl
  . split at hj
    . rename_i e; subst e; exact hb k hk
    . exact hc j hj k hk

theorem step_draw (D:DOk P N ops ord A rd B kd) {listed:Array Bool} {a:Act} {w:World} (h:qLn P N ops ord A B kd K m0 H0 w0 listed a w) (Q:Exit→Act→World→Prop) {i:Nat} (hi:i∈Region.ready .any ops listed) :
    wpOp P ops Q i (qLn P N ops ord A B kd K m0 H0 w0 (listed.setIfInBounds i true)) a w:=by
  obtain ⟨blk,pre,rest,m,fr,H,I,hset⟩:=h;obtain ⟨his,hLi,o,ho,hrd⟩:=qIt hi I.sz;obtain ⟨hbi,hclos⟩:=clos_set D I.sz I.clos hi;obtain ⟨hcop,hgs,hdst,hdok⟩:=D.comp i o ho;have hio:i∈ord:=(D.mem i).2 his;have hnd:=D.nodup;rw [I.spl] at hnd;have hdis:∀ j,j∈pre→j ∉ rest:=fun j h h'=>(List.nodup_append.1 hnd).2.2 j h j h' rfl
  have hpo:∀ j,j∈pre→j < ops.size:=fun j h=>(D.mem j).1 (by rw [I.spl]; exact List.mem_append_left _ h)
  have hro:∀ j,j∈rest→j < ops.size:=fun j h=>(D.mem j).1 (by rw [I.spl]; exact List.mem_append_right _ h)
  have hLs:∀ j,(listed.setIfInBounds i true).getD j false=if j=i then true else listed.getD j false:=fun j=>getD_set (by rw [I.sz]; exact his)
  have hLs':∀ j,(listed.setIfInBounds i true).getD j false=false→j≠i∧listed.getD j false=false:=by
    intro j hj; rw [hLs] at hj; split at hj
    . cases hj
    . rename_i e; exact ⟨e,hj⟩
  let X:Nat→Prop:=fun t=>∃ j,j < ops.size∧(A j).dst=some t∧((j∈pre∧kd j=0∧listed.getD j false=false)∨(j∈rest∧listed.getD j false=true))
  have hX:∀ t,¬ X t→VRel m (fr t) (a.tmps.getD t undef):=fun t ht=>I.frame t fun j hj hdj =>
    ⟨fun h=>ht ⟨j,hj,hdj,.inl h⟩,fun h=>ht ⟨j,hj,hdj,.inr h⟩⟩
  have hnotB:∀ j,j∈rest→i∈pre→B i j=false:=by
    intro j hj hip;cases hb:B i j with
    | false=>rfl
    | true =>
      obtain ⟨p1,p2,e⟩:=List.append_of_mem hip;have:=D.topo p1 i (p2++rest) (by rw [I.spl,e]; simp) j hb
      exact absurd hj (hdis j (by rw [e]; exact List.mem_append_left _ this))
  have hrdX:(i∈pre∨kd i=1∨∃ r,rest=i :: r)→∀ t∈rd i,¬ X t:=by
    intro hcase t ht ⟨j,hj,hdj,hor⟩;have hBij:kd j≠2→B i j=true:=by
      intro hk;obtain ⟨d,h1,_,h3⟩:=D.fresh j hk hj;rw [hdj] at h1; cases h1;exact h3 i his ht
    rcases hor with ⟨h1,h2,h3⟩ | ⟨h1,h2⟩
    . have:=hbi j (hBij (by omega)); rw [h3] at this; cases this
    . have hk:=(I.restl j h1 h2).1
      have hB:=hBij (by omega)
      rcases hcase with hc | hc | ⟨r,hc⟩
      . rw [hnotB j h1 hc] at hB; cases hB
      . have:=(D.mkk i his hc).2.2 j hB; omega
      . have:=D.topo pre i r (by rw [I.spl,hc]) j hB
        exact hdis j this h1
  have hex:(i∈pre∨kd i=1∨∃ r,rest=i :: r)→execOp a.eval o=execOp (qRm X a).eval o:=by
    intro hc;exact execOp_congr o (cOp_nosel hcop) fun x hx=>(mask_eval fun t et=>hrdX hc t (D.rdo i o ho t (et ▸ hx))).symm
  have hwant:(i∈pre∨kd i=1∨∃ r,rest=i :: r)→Region.wanted o (yielded ops a.tmps)=qCe fr (A i).guard:=by
    intro hc;exact want_eq' hgs fun d w' hg=>hX d (hrdX hc d (D.rdg i his d w' hg))
  unfold wpOp;simp only [ho];have hsplit:i∈pre∨i∈rest:=by rw [I.spl] at hio; exact List.mem_append.1 hio
  rcases hsplit with hip | hir
  . -- quiet,late
    have hk0:kd i=0:=by
      apply Classical.byContradiction;intro hk; have:=I.prel i hip hk; rw [hLi] at this; cases this
    obtain ⟨d,hd,hl1,hl2⟩:=I.lval i hip hk0 hLi;obtain ⟨q,hq⟩:=D.light i his hk0;obtain ⟨d',hd',hdisj,_⟩:=D.fresh i (by omega) his
    rw [hd] at hd'; cases hd';have hod:o.dst=some d:=by rw [← hdst,hd]
    rw [hwant (.inl hip)];have fin:∀ (c:Value) (m':Mu) (w':World),VRel m' (fr d) c→ARel m' H w'→Kept m H w m' H w'→qLn P N ops ord A B kd K m0 H0 w0 (listed.setIfInBounds i true) (a.put (some d) c) w':=by
      intro c m' w' hv hA' hK';have hdlt:d < a.tmps.size:=by rw [I.tsz]; rw [hod] at hdok; simpa [qPj] using hdok
      refine ⟨blk,pre,rest,m',fr,H,⟨I.spl,by simp [I.sz],I.run,fun j hj hk=>?_,fun j hj hL=>?_,hA',I.kept.trans hK',by rw [qGh,I.tsz],by rw [qEl,I.dfr],fun t ht=>?_,fun j hj hk hL=>?_,hclos,fun x hx y hy h1 h2 hxy=>?_⟩,?_⟩
      . rw [hLs]; split
        . rfl
        . exact I.prel j hj hk
      . have hji:j≠i:=fun e=>hdis i hip (e ▸ hj)
        rw [hLs,if_neg hji] at hL;obtain ⟨k1,k2⟩:=I.restl j hj hL;exact ⟨k1,k2.move hK' (fun _ _=>rfl) (fun dj hdj=>qGs fun e=>hdisj j (hro j hj) hji (by rw [hdj,e]))⟩
      . by_cases htd:t=d
        . subst htd; rw [qOn hdlt]; exact hv
        . rw [qGs fun e=>htd (Option.some.inj e).symm]
          refine (I.frame t fun j hj hdj=>⟨fun ⟨z1,z2,z3⟩=>?_,fun ⟨z1,z2⟩=>?_⟩).mono hK'.ext
          . have hji:j≠i:=fun e=>by subst e; rw [hd] at hdj; cases hdj; exact htd rfl
            exact (ht j hj hdj).1 ⟨z1,z2,by rw [hLs,if_neg hji]; exact z3⟩
          . have hji:j≠i:=fun e=>hdis i hip (e ▸ z1)
            exact (ht j hj hdj).2 ⟨z1,by rw [hLs,if_neg hji]; exact z2⟩
      . exact I.lval j hj hk (hLs' j hL).2
      . rw [hLs] at h1 h2
        rw [if_neg (fun e:x=i=>hdis i hip (e ▸ hx))] at h1
        rw [if_neg (fun e:y=i=>hdis i hip (e ▸ hy))] at h2
        exact I.binj x hx y hy h1 h2 hxy
      . rcases hset with h | ⟨x,r,h1,h2,h3⟩
        . exact .inl h
        . exact .inr ⟨x,r,h1,h2,by rw [hLs,if_neg (fun e=>hdis i hip (by rw [h1,← e]; simp))]; exact h3⟩
    split
    . rename_i hw
      refine .inl (opK_sound (b:=qRm X a) (fr:=qSk X fr) (C:=fun v H'=>v=fr d∧H'=H) hcop I.rel (qOy hX) (hex (.inl hip)) ?_ _ Q ?_)
      . rw [hq]
        refine ⟨fr d,?_,rfl,rfl⟩;rw [← hl1 hw q hq];exact qGr fun t ht=>qOz (hrdX (.inl hip) t (D.rda i his t (by rw [hq]; exact ht)))
      . rintro v c H' m' w' ⟨rfl,rfl⟩ hv hA' hK'
        rw [hod]; exact fin c m' w' hv hA' hK'
    . rename_i hw
      rw [hod];exact fin undef m w (by rw [hl2 (by simpa using hw)]; exact .undef m) I.rel (.refl m H w)
  . -- from the rest
    obtain ⟨x,r,hxr,hkx,hLx⟩:∃ x r,rest=x :: r∧kd x≠0∧listed.getD x false=false:=by
      rcases hset with h | h
      . rw [h] at hir; cases hir
      . exact h
    by_cases hk1:kd i=1
    . -- a new row
      obtain ⟨⟨e,he,hmk⟩,hg,hbf⟩:=D.mkk i his hk1;obtain ⟨d,hd,hdisj,hdrd⟩:=D.fresh i (by omega) his
      have hod:o.dst=some d:=by rw [← hdst,hd]
      have hdlt:d < a.tmps.size:=by rw [I.tsz]; rw [hod] at hdok; simpa [qPj] using hdok
      have hmkv:∃ p,mkV e fr=some p:=by
        obtain ⟨l,r',hlr⟩:=List.append_of_mem hir;rcases D.early (pre++l) i r' (by rw [I.spl,hlr]; simp) hk1 with ⟨z,esz,hz⟩ | hno
        . rw [he] at hz; cases hz; exact ⟨_,rfl⟩
        . refine qGm (K:=K) D his he hmk hg l fr H r' (by rw [← hlr]; exact I.run) fun j hj=>⟨hro j (by rw [hlr]; simp [hj]),hno j (by simp [hj]),fun dj hdj hin=>?_⟩
          have hjs:=hro j (by rw [hlr]; simp [hj])
          obtain ⟨dj',h1,_,h3⟩:=D.fresh j (hno j (by simp [hj])) hjs
          rw [hdj] at h1; cases h1;have hB:=h3 i his hin;have hk:=hbf j hB;have:=(I.restl j (by rw [hlr]; simp [hj]) (hbi j hB)).1
          omega
      obtain ⟨⟨mk,vs,esz⟩,hp⟩:=hmkv;rw [hwant (.inr (.inl hk1)),hg];simp only [qCe,if_true];refine .inl ?_;have hp':mkV e (qSk X fr)=some (mk,vs,esz):=by
        rw [← hp]; exact qIb fun t ht=>qOz (hrdX (.inr (.inl hk1)) t (D.rda i his t (by rw [he]; exact ht)))
      obtain ⟨arr,T,c,q1,q2,q3,q4,q5⟩:=mk_sound (P:=P) (w:=w) (qOy hX) hcop he hp';unfold Oper.wp;rw [hex (.inr (.inl hk1)),q1];show qLn P N ops ord A B kd K m0 H0 w0 (listed.setIfInBounds i true) (a.put o.dst c) (w.alloc (.cells arr T));rw [hod];show qLn P N ops ord A B kd K m0 H0 w0 (listed.setIfInBounds i true) (a.put (some d) c) (w.alloc (.cells arr T));have hI:DInv P N ops ord A B kd K m0 H0 w0 (listed.setIfInBounds i true) (a.put (some d) c) (w.alloc (.cells arr T)) (fun j=>if j=i then w.heap.size else blk j) pre rest m fr H:=by
        have hK':Kept m H w m H (w.alloc (.cells arr T)):=(Kept.refl m H w).alloc _;have hpend:∀ j∈rest,j≠i→listed.getD j false=true→Pend A w0 m fr a w (blk j) j:=fun j hj _ hL=>(I.restl j hj hL).2
        have hlt:∀ j∈rest,listed.getD j false=true→blk j < w.heap.size:=by
          intro j hj hL;obtain ⟨_,_,_,_,_,_,_,_,_,_,h4,_⟩:=(I.restl j hj hL).2;exact (Array.getElem?_eq_some_iff.1 h4).1
        refine ⟨I.spl,by simp [I.sz],I.run,fun j hj hk=>?_,fun j hj hL=>?_,I.rel.alloc _,I.kept.alloc _,by rw [qGh,I.tsz],by rw [qEl,I.dfr],fun t ht=>?_,fun j hj hk hL=>?_,hclos,fun y hy z hz h1 h2 hyz=>?_⟩
        . rw [hLs]; split
          . rfl
          . exact I.prel j hj hk
        . by_cases hji:j=i
          . subst hji
            refine ⟨hk1,d,mk,vs,esz,e,arr,T,hd,he,hp,?_,?_,fun id ver L hL' hb=>?_,q2,q3,q4,fun m' id hm=>?_⟩
            . simp only [if_true]; exact heap_alloc_new w _
            . simp only [if_true]; exact ⟨I.kept.size,fun g gs eg hg=>by obtain ⟨_,_,_,h1,_⟩:=I.rel.glob.tab g gs eg; have:=(Array.getElem?_eq_some_iff.1 h1).1; omega⟩
            . simp only [if_true] at hb; have:=I.rel.lt _ _ _ hL'; omega
            . rw [qOn hdlt]; simp only [if_true] at hm; exact q5 m' id hm
          . rw [hLs,if_neg hji] at hL
            simp only [if_neg hji];obtain ⟨k1,k2⟩:=I.restl j hj hL;exact ⟨k1,k2.move hK' (fun _ _=>rfl) (fun dj hdj=>qGs fun e=>hdisj j (hro j hj) hji (by rw [hdj,e]))⟩
        . have htd:t≠d:=fun e=>by
            have:=(ht i his (by rw [hd,e])).2
            exact this ⟨hir,by rw [hLs,if_pos rfl]⟩
          rw [qGs fun e=>htd (Option.some.inj e).symm]
          refine I.frame t fun j hj hdj=>⟨fun ⟨z1,z2,z3⟩=>?_,fun ⟨z1,z2⟩=>?_⟩
          . have hji:j≠i:=fun e=>by subst e; rw [hd] at hdj; cases hdj; exact htd rfl
            exact (ht j hj hdj).1 ⟨z1,z2,by rw [hLs,if_neg hji]; exact z3⟩
          . have hji:j≠i:=fun e=>by subst e; rw [hd] at hdj; cases hdj; exact htd rfl
            exact (ht j hj hdj).2 ⟨z1,by rw [hLs,if_neg hji]; exact z2⟩
        . exact I.lval j hj hk (hLs' j hL).2
        . rw [hLs] at h1 h2
          by_cases e1:y=i
          . by_cases e2:z=i
            . exact absurd (e1.trans e2.symm) hyz
            . rw [if_neg e2] at h2
              simp only [if_pos e1,if_neg e2];have:=hlt z hz h2; omega
          . rw [if_neg e1] at h1
            by_cases e2:z=i
            . simp only [if_neg e1,if_pos e2]
              have:=hlt y hy h1; omega
            . rw [if_neg e2] at h2
              simp only [if_neg e1,if_neg e2];exact I.binj y hy z hz h1 h2 hyz
      obtain ⟨pre',rest',m',fr',H',h1,h2⟩:=qRu D rest pre m fr H hI;exact ⟨_,pre',rest',m',fr',H',h1,h2⟩
    . -- any other: it stands next
      have hix:i=x:=by
        apply Classical.byContradiction;intro hne;have hir':i∈r:=by rw [hxr] at hir; rcases List.mem_cons.1 hir with e | e; exact absurd e hne; exact e
        obtain ⟨p1,p2,e⟩:=List.append_of_mem hir';have:=D.ordd (pre++x :: p1) i p2 (by rw [I.spl,hxr,e]; simp) hk1 x (by simp) hkx
        have:=hbi x this;rw [hLx] at this; cases this
      subst hix;have hk2:kd i=2:=by have:=D.kd3 i; omega
      have hcase:i∈pre∨kd i=1∨∃ r,rest=i :: r:=.inr (.inr ⟨r,hxr⟩);have hipre:i ∉ pre:=fun h=>hdis i h hir
      have hirr:i ∉ r:=by
        have:=(List.nodup_append.1 hnd).2.1;rw [hxr] at this;exact (List.nodup_cons.1 this).1
      have hrun:=I.run;have hAx:A i=⟨(A i).dst,(A i).guard,(A i).op,(A i).fl⟩:=rfl;rw [hxr,List.map_cons,hAx] at hrun;simp only [wOps] at hrun;rw [hwant hcase];have fin:∀ (v c:Value) (H':Heap) (m':Mu) (w':World),qFm fr H H' (A i).fl→wOps P K (r.map A) (updO fr (A i).dst v) H'→VRel m' v c→ARel m' H' w'→Kept m H w m' H' w' →
          qLn P N ops ord A B kd K m0 H0 w0 (listed.setIfInBounds i true) (a.put o.dst c) w':=by
        intro v c H' m' w' hst hrun' hv hA' hK';rw [← hdst];have hnB:∀ j∈r,B i j=false:=by
          intro j hj;cases hb:B i j with
          | false=>rfl
          | true=>exact absurd (by rw [hxr]; exact List.mem_cons_of_mem _ hj) (hdis j (D.topo pre i r (by rw [I.spl,hxr]) j hb))
        have hnr:∀ j,j < ops.size→kd j≠2→B i j=false→j≠i→B j i=false→∀ d,(A i).dst=some d→d ∉ rd j:=fun j hj hk hb hne hb' d hd=>D.hw i his hk2 d hd j hj hb hne hb' hk
        have hdj:∀ j,j < ops.size→kd j≠2→j≠i→(A j).dst≠none∧∀ d,(A j).dst=some d→(A i).dst≠some d:=by
          intro j hj hk hne;obtain ⟨d,h1,h2,_⟩:=D.fresh j hk hj;exact ⟨by rw [h1]; simp,fun d' hd'=>by rw [h1] at hd'; cases hd'; exact h2 i his (fun e=>hne e.symm)⟩
        have hupd:∀ t,(∀ d,(A i).dst=some d→t≠d)→updO fr (A i).dst v t=fr t:=by
          intro t h;cases hd:(A i).dst with
          | none=>rfl
          | some d=>exact qFk (h d hd)
        have hI:DInv P N ops ord A B kd K m0 H0 w0 (listed.setIfInBounds i true) (a.put (A i).dst c) w' blk (pre++[i]) r m' (updO fr (A i).dst v) H':=by
          refine ⟨by rw [I.spl,hxr]; simp,by simp [I.sz],hrun',fun j hj hk=>?_,fun j hj hL=>?_,hA',I.kept.trans hK',by rw [qGh,I.tsz],by rw [qEl,I.dfr],fun t ht=>?_,fun j hj hk hL=>?_,hclos,fun y hy z hz h1 h2 hyz=>?_⟩
          . rw [hLs]; split
            . rfl
            . rename_i hne
              rcases List.mem_append.1 hj with h | h
              . exact I.prel j h hk
              . simp at h; exact absurd h hne
          . have hji:j≠i:=fun e=>hirr (e ▸ hj)
            rw [hLs,if_neg hji] at hL;have hjrest:j∈rest:=by rw [hxr]; exact List.mem_cons_of_mem _ hj
            obtain ⟨k1,k2⟩:=I.restl j hjrest hL;have hBji:B j i=false:=by
              cases hb:B j i with
              | false=>rfl
              | true=>have:=(D.mkk j (hro j hjrest) k1).2.2 i hb; omega
            refine ⟨k1,k2.move hK' (fun e he=>qIb fun t ht=>hupd t fun d hd et=>?_) (fun dj hdj'=>qGs ((hdj j (hro j hjrest) (by omega) hji).2 dj hdj'))⟩
            exact hnr j (hro j hjrest) (by omega) (hnB j hj) hji hBji d hd (et ▸ D.rda j (hro j hjrest) t (by rw [he]; exact ht))
          . by_cases htd:(A i).dst=some t
            . rw [htd]
              have htlt:t < a.tmps.size:=by rw [I.tsz]; rw [← hdst,htd] at hdok; simpa [qPj] using hdok
              rw [qOn htlt];show VRel m' (upd fr t v t) c;rw [qRz]; exact hv
            . rw [qGs htd,hupd t fun d hd e=>htd (by rw [hd,e])]
              refine (I.frame t fun j hj hdj'=>⟨fun ⟨z1,z2,z3⟩=>?_,fun ⟨z1,z2⟩=>?_⟩).mono hK'.ext
              . have hji:j≠i:=fun e=>hipre (e ▸ z1)
                exact (ht j hj hdj').1 ⟨List.mem_append_left _ z1,z2,by rw [hLs,if_neg hji]; exact z3⟩
              . rw [hxr] at z1
                rcases List.mem_cons.1 z1 with e | e
                . subst e; rw [hLi] at z2; cases z2
                . have hji:j≠i:=fun e'=>hirr (e' ▸ e)
                  exact (ht j hj hdj').2 ⟨e,by rw [hLs,if_neg hji]; exact z2⟩
          . obtain ⟨hji,hLj⟩:=hLs' j hL
            rcases List.mem_append.1 hj with h | h
            . obtain ⟨d',z1,z2,z3⟩:=I.lval j h hk hLj
              have hjs:=hpo j h;have hBij:B i j=false:=by
                cases hb:B i j with
                | false=>rfl
                | true=>have:=hbi j hb; rw [hLj] at this; cases this
              have hBji:B j i=false:=by
                cases hb:B j i with
                | false=>rfl
                | true =>
                  obtain ⟨p1,p2,e⟩:=List.append_of_mem h;have:=D.topo p1 j (p2++rest) (by rw [I.spl,e]; simp) i hb
                  exact absurd (by rw [e]; exact List.mem_append_left _ this) hipre
              have hnrj:=hnr j hjs (by omega) hBij hji hBji
              have hg:qCe (updO fr (A i).dst v) (A j).guard=qCe fr (A j).guard:=qHf fun d'' w'' hg=>hupd d'' fun d hd e=>hnrj d hd (e ▸ D.rdg j hjs d'' w'' hg)
              have hd'u:updO fr (A i).dst v d'=fr d':=hupd d' fun d hd e=>(hdj j hjs (by omega) hji).2 d' z1 (by rw [hd,e])
              rw [hg];refine ⟨d',z1,fun hw q' hq'=>?_,fun hw=>by rw [hd'u]; exact z3 hw⟩
              rw [hd'u,← z2 hw q' hq'];have e1:qop q' (updO fr (A i).dst v) H'=qop q' fr H':=qGr fun t ht=>hupd t fun d hd e=>hnrj d hd (e ▸ D.rda j hjs t (by rw [hq']; exact ht))
              rw [e1]
              by_cases hlk:looks q'=true
              . exact stays_mem hst q' (D.fl pre i r (by rw [I.spl,hxr]) hk2 j h hk hBij q' hq' hlk)
              . exact qop_still (by simpa using hlk) fr H' H
            . simp at h; exact absurd h hji
          . rw [hLs] at h1 h2
            rw [if_neg (fun e:y=i=>hirr (e ▸ hy))] at h1
            rw [if_neg (fun e:z=i=>hirr (e ▸ hz))] at h2
            exact I.binj y (by rw [hxr]; exact List.mem_cons_of_mem _ hy) z (by rw [hxr]; exact List.mem_cons_of_mem _ hz) h1 h2 hyz
        obtain ⟨pre',rest',m'',fr',H'',h1,h2⟩:=qRu D r (pre++[i]) m' _ H' hI;exact ⟨_,pre',rest',m'',fr',H'',h1,h2⟩
      split
      . rename_i hw
        rw [if_pos hw] at hrun;refine .inl (opK_sound (b:=qRm X a) (fr:=qSk X fr) hcop I.rel (qOy hX) (hex hcase) (opK_congr (fun t ht=>(qOz (hrdX hcase t (D.rda i his t ht))).symm) (wOp_opK hrun)) _ Q ?_)
        rintro v c H' m' w' ⟨hst,hrun'⟩ hv hA' hK';exact fin v c H' m' w' hst hrun' hv hA' hK'
      . rename_i hw
        rw [if_neg hw] at hrun;exact fin (.tuple #[]) undef H m w (qIp _ _ _) hrun (.undef m) I.rel (.refl m H w)
end
end Am
/- The abstract machine: operations whose order is drawn: the check, and the law.
   No condition: plain lemmas. -/
namespace Am
set_option linter.unusedSimpArgs false
set_option linter.unusedVariables false
open Go

section
variable {P : Program} {N : Nat} {ops : Array Oper} {ord : List Nat} {A : Nat → AIns} {rd : Nat → List Nat} {B : Nat → Nat → Bool} {kd : Nat → Nat} {m0 : Mu} {H0 : Heap} {w0 : World}

def left (l:List Bool):Nat:=(l.filter fun b=>!b).length
theorem qPc:∀ (l:List Bool) (i:Nat),l[i]?=some false→left (l.set i true)+1=left l
  | [],i,h=>by simp at h
  | b :: l,0,h=>by
    have hb:b=false:=by simpa using h
    subst hb; simp [left]
  | b :: l,i+1,h=>by
    have:=qPc l i (by simpa using h)
    simp only [left,List.set_cons_succ,List.filter_cons] at this ⊢
    split
    . simp only [List.length_cons]; omega
    . exact this

theorem first_false (f:Nat→Bool):∀ l:List Nat,(∃ j∈l,f j=false)→∃ pre x rest,l=pre++x :: rest∧f x=false∧∀ j∈pre,f j=true
  | [],h=>by obtain ⟨j,h,_⟩:=h; cases h
  | y :: l,h=>by
    cases hy:f y with
    | false=>exact ⟨[],y,l,rfl,hy,by simp⟩
    | true =>
      obtain ⟨j,hj,hf⟩:=h;rcases List.mem_cons.1 hj with e | e
      . subst e; rw [hy] at hf; cases hf
      . obtain ⟨pre,x,rest,h1,h2,h3⟩:=first_false f l ⟨j,e,hf⟩
        exact ⟨y :: pre,x,rest,by rw [h1]; rfl,h2,fun k hk=>by rcases List.mem_cons.1 hk with e | e; (subst e; exact hy); exact h3 k e⟩

theorem all_listed (D:DOk P N ops ord A rd B kd) {listed:Array Bool} (hs:listed.size=ops.size) (hr:Region.ready .any ops listed=[]):∀ j,j < ops.size→listed.getD j false=true:=by
  intro j hj;cases hL:listed.getD j false with
  | true=>rfl
  | false =>
    exfalso;obtain ⟨pre,x,rest,h1,h2,h3⟩:=first_false (fun j=>listed.getD j false) ord ⟨j,(D.mem j).2 hj,hL⟩
    have hx:x < ops.size:=(D.mem x).1 (by rw [h1]; simp)
    obtain ⟨o,ho⟩:∃ o,ops[x]?=some o:=⟨_,Array.getElem?_eq_getElem hx⟩;have:x∈Region.ready .any ops listed:=by
      unfold Region.ready;rw [List.mem_filter,List.mem_range];refine ⟨hx,?_⟩;have e1:listed.getD x true=false:=by
        obtain ⟨b,hb⟩:∃ b,listed[x]?=some b:=⟨_,Array.getElem?_eq_getElem (by omega)⟩
        simp only [Array.getD_eq_getD_getElem?,hb] at h2 ⊢
        simpa using h2
      rw [e1,ho];simp only [Bool.not_false,Bool.true_and,Option.map_some,Option.getD_some,Array.all_eq_true_iff_forall_mem];intro e he;cases hb:Region.binds .any e with
      | false=>rfl
      | true=>simpa using h3 e.on (D.topo pre x rest h1 e.on (D.dir x o ho e he hb))
    rw [hr] at this; cases this

theorem any_draw (D:DOk P N ops ord A rd B kd) {Q:Exit→Fr→Heap→Prop}:∀ (fuel:Nat) (listed:Array Bool) (a:Act) (w:World),qLn P N ops ord A B kd (Q .normal) m0 H0 w0 listed a w→left listed.toList≤fuel →
    wpAny P .any ops (qLt Q m0 H0 w0 N) fuel listed a w:=by
  have fin:∀ (listed:Array Bool) (a:Act) (w:World),qLn P N ops ord A B kd (Q .normal) m0 H0 w0 listed a w→Region.ready .any ops listed=[]→qLt Q m0 H0 w0 N .normal a w:=by
    rintro listed a w ⟨blk,pre,rest,m,fr,H,I,hset⟩ hr;have hall:=all_listed D I.sz hr;have hrest:rest=[]:=by
      rcases hset with h | ⟨x,r,h1,_,h3⟩
      . exact h
      . have hx:x < ops.size:=(D.mem x).1 (by rw [I.spl,h1]; simp)
        rw [hall x hx] at h3; cases h3
    have hrun:=I.run;rw [hrest] at hrun;refine ⟨fr,H,m,by simpa [wOps] using hrun,I.rel,fun t=>I.frame t fun j hj _=>⟨fun h=>?_,fun h=>?_⟩,I.kept,I.tsz,I.dfr⟩
    . rw [hall j hj] at h; exact absurd h.2.2 (by simp)
    . rw [hrest] at h; exact absurd h.1 (by simp)
  intro fuel
  induction fuel with
  | zero =>
    intro listed a w h hl;have hr:Region.ready .any ops listed=[]:=by
      cases hr:Region.ready .any ops listed with
      | nil=>rfl
      | cons i l =>
        exfalso;obtain ⟨blk,pre,rest,m,fr,H,I,_⟩:=h;have hi:i∈Region.ready .any ops listed:=by rw [hr]; simp
        obtain ⟨h1,h2,_⟩:=qIt hi I.sz;have hget:listed.toList[i]?=some false:=by
          obtain ⟨b,hb⟩:∃ b,listed[i]?=some b:=⟨_,Array.getElem?_eq_getElem (by rw [I.sz]; exact h1)⟩
          simp only [Array.getD_eq_getD_getElem?,hb] at h2;simp only [Array.getElem?_toList,hb]
          simpa using h2
        have:=qPc _ _ hget;omega
    exact ⟨hr,fin listed a w h hr⟩
  | succ fuel ih =>
    intro listed a w h hl;refine ⟨fun hr=>fin listed a w h hr,fun i hi=>?_⟩
    have hsz:listed.size=ops.size:=by obtain ⟨blk,pre,rest,m,fr,H,I,_⟩:=h; exact I.sz
    obtain ⟨h1,h2,_⟩:=qIt hi hsz;have hget:listed.toList[i]?=some false:=by
      obtain ⟨b,hb⟩:∃ b,listed[i]?=some b:=⟨_,Array.getElem?_eq_getElem (by rw [hsz]; exact h1)⟩
      simp only [Array.getD_eq_getD_getElem?,hb] at h2;simp only [Array.getElem?_toList,hb]
      simpa using h2
    have hle:=qPc _ _ hget;refine wpOp_mono (fun a w hd=>ih _ a w hd ?_) (step_draw D h _ hi)
    rw [Array.toList_setIfInBounds];omega

theorem draw_of (D:DOk P N ops ord A rd B kd) (hP:P.follows .mixedOrders=true) {Q:Exit→Fr→Heap→Prop} {fr:Fr} {H:Heap} {m:Mu} {a:Act} {w:World} (id:Nat)
    (h:wOps P (Q .normal) (ord.map A) fr H) (hA:ARel m H w) (hF:FRel m fr a) (hK:Kept m0 H0 w0 m H w) (hN:a.tmps.size=N) (hD:a.defers=[]):(Code.region id ops true).wp P (qLt Q m0 H0 w0 N) a w:=by
  refine wp_region_any hP (any_draw D _ _ a _ ?_ ?_)
  . have hno:∀ j,(Array.replicate ops.size false).getD j false=false:=by
      intro j; simp only [Array.getD_eq_getD_getElem?,Array.getElem?_replicate]; split<;>rfl
    have hI:DInv P N ops ord A B kd (Q .normal) m0 H0 w0 (Array.replicate ops.size false) a { w with drawn:=w.drawn+1 } (fun _=>0) [] ord m fr H :=
      ⟨rfl,by simp,h,fun j hj=>(by cases hj),fun j _ hL=>(by rw [hno] at hL; cases hL),hA.drew _,hK.trans (Kept.drew _ _ _ _),hN,hD,fun t _=>hF t,fun j hj=>(by cases hj),fun j hL=>(by rw [hno] at hL; cases hL),fun i _ j _ hL=>(by rw [hno] at hL; cases hL)⟩
    obtain ⟨pre',rest',m',fr',H',h1,h2⟩:=qRu D ord [] m fr H hI;exact ⟨_,pre',rest',m',fr',H',h1,h2⟩
  . simp only [left,Array.toList_replicate]
    exact Nat.le_trans (List.length_filter_le _ _) (by simp)
end

/-! ### The check -/
def rdO (o:Oper):List Nat:=o.op.operands.toList.filterMap fun | .tmp t=>some t | _=>none
def rdG:Option (Nat×Bool)→List Nat
  | some (d,_)=>[d]
  | none=>[]
def bfOf (o:Oper) (bf:Nat→Nat):Nat:=o.after.toList.foldl (fun s e=>if Region.binds .any e then s ||| 2 ^ e.on ||| bf e.on else s) 0
def bfTab:List Oper→List Nat→List Nat
  | [],acc=>acc
  | o :: l,acc=>bfTab l (acc++[bfOf o (acc.getD · 0)])
def isQ:AOp→Bool
  | .q _=>true
  | _=>false
def qUe:AOp→Bool
  | .e e=>isMk e
  | _=>false
def qUd:AOp→Bool
  | .e (.new _ _)=>true
  | _=>false
def sub (a b:Nat):Bool:=a &&& b == a
def qMx (n:Nat) (f:Nat→Bool):Nat:=(List.range n).foldl (fun s i=>if f i then s ||| 2 ^ i else s) 0

def qFi (l:List AIns) (i:Nat):AIns:=l.getD i ⟨none,none,.q (.val (.tmp 0)),[]⟩
def qQx (n:Nat) (ins:List AIns) (rd:List (List Nat)) (bf:List Nat) (i:Nat):Bool :=
  match (qFi ins i).dst with
  | some d=>(List.range n).all fun k=>(k == i || (qFi ins k).dst != some d) && (!(rd.getD k []).contains d || (bf.getD k 0).testBit i)
  | none=>false
def kdTab (n:Nat) (ins:List AIns) (rd:List (List Nat)) (bf:List Nat):List Nat :=
  let lt:=(List.range n).map fun i=>isQ (qFi ins i).op && qQx n ins rd bf i
  let lm:=qMx n fun i=>lt.getD i false
  (List.range n).map fun i=>if lt.getD i false then 0 else if qUe (qFi ins i).op && (qFi ins i).guard.isNone && qQx n ins rd bf i && sub (bf.getD i 0) lm then 1 else 2
def nextOp (n:Nat) (bf kd:List Nat) (em:Nat):Option Nat :=
  let rdy i:=!em.testBit i && sub (bf.getD i 0) em
  match (List.range n).find? (fun i=>kd.getD i 2 == 0 && rdy i) with
  | some i=>some i
  | none =>
    match (List.range n).find? (fun i=>kd.getD i 2 == 2 && !em.testBit i) with
    | some h=>if rdy h then some h else (List.range n).find? (fun i=>kd.getD i 2 == 1 && rdy i && (bf.getD h 0).testBit i)
    | none=>(List.range n).find? (fun i=>kd.getD i 2 == 1 && rdy i)
def orderOf (n:Nat) (bf kd:List Nat):Nat→Nat→List Nat→List Nat
  | 0,_,acc=>acc.reverse
  | f+1,em,acc=>match nextOp n bf kd em with | some i=>orderOf n bf kd f (em ||| 2 ^ i) (i :: acc) | none=>acc.reverse
def floats (ins:List AIns) (bf kd:List Nat) (x:Nat) (pre:List Nat):List QOp :=
  pre.filterMap fun j=>if kd.getD j 2 == 0 && !(bf.getD x 0).testBit j then (match (qFi ins j).op with | .q q=>if looks q then some q else none | _=>none) else none
def qFq (ins:List AIns) (bf kd:List Nat) (ord:List Nat) (x:Nat):AIns :=
  let i:=qFi ins x
  if kd.getD x 2 == 2 then ⟨i.dst,i.guard,i.op,floats ins bf kd x (ord.takeWhile (· != x))⟩ else i
def chk (n:Nat) (ins:List AIns) (rd:List (List Nat)) (bf kd:List Nat) (nl hv:Nat):Nat→List Nat→Bool
  | _,[]=>true
  | pm,x :: r =>
    !pm.testBit x && sub (bf.getD x 0) pm && (kd.getD x 2 == 1 || sub (pm &&& nl) (bf.getD x 0)) && (kd.getD x 2 != 1 || qUd (qFi ins x).op || pm &&& hv == 0) && chk n ins rd bf kd nl hv (pm ||| 2 ^ x) r
def hwB (n:Nat) (ins:List AIns) (rd:List (List Nat)) (bf kd:List Nat) (x:Nat):Bool :=
  kd.getD x 2 != 2 || match (qFi ins x).dst with
    | some d=>(List.range n).all fun j=>(bf.getD x 0).testBit j || j == x || (bf.getD j 0).testBit x || kd.getD j 2 == 2 || !(rd.getD j []).contains d
    | none=>true
def qSw (n:Nat) (ops:List Oper) (ins:List AIns) (rd:List (List Nat)) (bf kd ord:List Nat):Bool :=
  (List.range n).all (ord.contains ·) && ord.all (· < n) &&
  (List.range n).all (fun i=>match ops[i]? with | some o=>bf.getD i 0 == bfOf o (bf.getD · 0) && rd.getD i [] == rdO o++rdA (qFi ins i).op++rdG (qFi ins i).guard | none=>false) &&
  (List.range n).all (fun i=>kd.getD i 2 == 2 || qQx n ins rd bf i) &&
  (List.range n).all (fun i=>kd.getD i 2 != 0 || isQ (qFi ins i).op) &&
  (List.range n).all (fun i=>kd.getD i 2 != 1 || (qUe (qFi ins i).op && (qFi ins i).guard.isNone && sub (bf.getD i 0) (qMx n fun j=>kd.getD j 2 == 0))) &&
  kd.all (·≤2) && kd.length == n &&
  (List.range n).all (hwB n ins rd bf kd) &&
  chk n ins rd bf kd (qMx n fun j=>kd.getD j 2 != 0) (qMx n fun j=>kd.getD j 2 == 2) 0 ord
def qUi (P:Program) (N:Nat) (ops:Array Oper):Option (List AIns) :=
  match qOa P N ops ops.toList with
  | some ins =>
    let n:=ops.size
    let bf:=bfTab ops.toList []
    let rd:=(List.range n).map fun i=>match ops[i]? with | some o=>rdO o++rdA (qFi ins i).op++rdG (qFi ins i).guard | none=>[]
    let kd:=kdTab n ins rd bf
    let ord:=orderOf n bf kd n 0 []
    if qSw n ops.toList ins rd bf kd ord then some (ord.map (qFq ins bf kd ord)) else none
  | none=>none
end Am
/- The abstract machine: operations whose order is drawn: the check is enough.
   No condition: plain lemmas. -/
namespace Am
set_option linter.unusedSimpArgs false
set_option linter.unusedVariables false
open Go

theorem qSt {a b:Nat} (h:sub a b=true) {j:Nat} (hj:a.testBit j=true):b.testBit j=true:=by
  have e:a &&& b=a:=by simpa [sub] using h
  rw [← e,Nat.testBit_and] at hj;simp at hj; exact hj.2
theorem qTl (s i j:Nat):(s ||| 2 ^ i).testBit j=(s.testBit j || decide (i=j)):=by
  rw [Nat.testBit_or,Nat.testBit_two_pow]
theorem mask_fold (f:Nat→Bool) (j:Nat):∀ (l:List Nat) (s:Nat),(l.foldl (fun s i=>if f i then s ||| 2 ^ i else s) s).testBit j=(s.testBit j || (decide (j∈l) && f j))
  | [],s=>by simp
  | i :: l,s=>by
    rw [List.foldl_cons,mask_fold f j l];cases hf:f i with
    | true =>
      rw [if_pos rfl,qTl]
      by_cases e:i=j
      . subst e; simp [hf]
      . have:j≠i:=fun h=>e h.symm
        simp [e,this]
    | false =>
      rw [if_neg (by simp)]
      by_cases e:j=i
      . subst e; simp [hf]
      . simp [e]
theorem qRl {n:Nat} {f:Nat→Bool} {j:Nat}:(qMx n f).testBit j=true↔j < n∧f j=true:=by
  unfold qMx; rw [mask_fold]; simp
theorem bf_fold (bf:Nat→Nat) (j:Nat):∀ (l:List Edge) (s:Nat),(l.foldl (fun s e=>if Region.binds .any e then s ||| 2 ^ e.on ||| bf e.on else s) s).testBit j=true ↔
    (s.testBit j=true∨∃ e∈l,Region.binds .any e=true∧(j=e.on∨(bf e.on).testBit j=true))
  | [],s=>by simp
  | e :: l,s=>by
    rw [List.foldl_cons,bf_fold bf j l];cases hb:Region.binds .any e with
    | true =>
      rw [if_pos rfl,Nat.testBit_or,qTl];constructor
      . rintro (h | ⟨e',h1,h2,h3⟩)
        . rw [Bool.or_eq_true,Bool.or_eq_true] at h
          rcases h with (h | h) | h
          . exact .inl h
          . exact .inr ⟨e,by simp,hb,.inl (by have:=of_decide_eq_true h; exact this.symm)⟩
          . exact .inr ⟨e,by simp,hb,.inr h⟩
        . exact .inr ⟨e',by simp [h1],h2,h3⟩
      . rintro (h | ⟨e',h1,h2,h3⟩)
        . exact .inl (by simp [h])
        . rcases List.mem_cons.1 h1 with r | r
          . subst r
            rcases h3 with h3 | h3
            . subst h3; exact .inl (by simp)
            . exact .inl (by simp [h3])
          . exact .inr ⟨e',r,h2,h3⟩
    | false =>
      rw [if_neg (by simp)]
      constructor
      . rintro (h | ⟨e',h1,h2,h3⟩)
        . exact .inl h
        . exact .inr ⟨e',by simp [h1],h2,h3⟩
      . rintro (h | ⟨e',h1,h2,h3⟩)
        . exact .inl h
        . rcases List.mem_cons.1 h1 with r | r
          . subst r; rw [hb] at h2; cases h2
          . exact .inr ⟨e',r,h2,h3⟩
theorem bf_at {o:Oper} {bf:Nat→Nat} {j:Nat}:(bfOf o bf).testBit j=true↔∃ e∈o.after,Region.binds .any e=true∧(j=e.on∨(bf e.on).testBit j=true):=by
  unfold bfOf; rw [bf_fold]; simp

theorem chk_spec {n:Nat} {ins:List AIns} {rd:List (List Nat)} {bf kd:List Nat} {nl hv:Nat}:∀ (rest:List Nat) (pm:Nat) (pre0:List Nat),chk n ins rd bf kd nl hv pm rest=true→(∀ j,pm.testBit j=true↔j∈pre0) →
    ∀ pre x r,rest=pre++x :: r→∃ pm':Nat,(∀ j,pm'.testBit j=true↔j∈pre0∨j∈pre)∧pm'.testBit x=false∧sub (bf.getD x 0) pm'=true∧(kd.getD x 2≠1→sub (pm' &&& nl) (bf.getD x 0)=true) ∧
      (kd.getD x 2=1→qUd (qFi ins x).op=true∨pm' &&& hv=0)
  | [],_,_,_,_,pre,x,r,e=>by cases pre<;>cases e
  | y :: l,pm,pre0,h,hp,pre,x,r,e=>by
    rw [chk] at h;simp only [Bool.and_eq_true,Bool.or_eq_true,Bool.not_eq_true',beq_iff_eq,bne_iff_ne,ne_eq] at h;obtain ⟨⟨⟨⟨h1,h2⟩,h3⟩,h4⟩,h5⟩:=h;cases pre with
    | nil =>
      cases e;refine ⟨pm,fun j=>by simp [hp j],h1,h2,fun hk=>h3.resolve_left hk,fun hk=>?_⟩
      rcases h4 with (h4 | h4) | h4
      . exact absurd hk h4
      . exact .inl h4
      . exact .inr h4
    | cons z pre =>
      cases e;obtain ⟨pm',q1,q2⟩:=chk_spec (pre++x :: r) _ (y :: pre0) h5 (fun j=>by rw [qTl,Bool.or_eq_true,decide_eq_true_iff,List.mem_cons,hp j]; exact ⟨fun h=>h.elim .inr (fun h=>.inl h.symm),fun h=>h.elim (fun h=>.inr h.symm) .inl⟩) pre x r rfl
      refine ⟨pm',fun j=>?_,q2⟩
      rw [q1 j,List.mem_cons,List.mem_cons];constructor
      . rintro ((h | h) | h)
        . exact .inr (.inl h)
        . exact .inl h
        . exact .inr (.inr h)
      . rintro (h | h | h)
        . exact .inl (.inr h)
        . exact .inl (.inl h)
        . exact .inr h

theorem nodup_of:∀ (l pre0:List Nat),(∀ pre x r,l=pre++x :: r→x ∉ pre0∧x ∉ pre)→l.Nodup
  | [],_,_=>List.nodup_nil
  | y :: l,pre0,h=>by
    refine List.nodup_cons.2 ⟨fun hy=>?_,nodup_of l pre0 fun pre x r e=>?_⟩
    . obtain ⟨p,q,e⟩:=List.append_of_mem hy
      exact (h (y :: p) y q (by rw [e]; rfl)).2 (by simp)
    . have:=h (y :: pre) x r (by rw [e]; rfl)
      exact ⟨this.1,fun h=>this.2 (by simp [h])⟩

theorem takeW {x:Nat} {r:List Nat}:∀ {pre:List Nat},x ∉ pre→(pre++x :: r).takeWhile (· != x)=pre
  | [],_=>by simp
  | y :: pre,h=>by
    have hy:y≠x:=fun e=>h (by simp [e])
    rw [List.cons_append,List.takeWhile_cons,if_pos (by simpa using hy),takeW (fun h'=>h (by simp [h']))]

theorem cList_at {P:Program} {N:Nat} {ops:Array Oper}:∀ {l:List Oper} {ins:List AIns},qOa P N ops l=some ins→ins.length=l.length∧∀ i o,l[i]?=some o→cIns P N ops o=some (qFi ins i)
  | [],ins,h=>by cases h; exact ⟨rfl,fun i o h=>by simp at h⟩
  | o :: l,ins,h=>by
    rw [qOa] at h
    split at h
    . rename_i i is h1 h2
      cases h;obtain ⟨q1,q2⟩:=cList_at h2;refine ⟨by simp [q1],fun k o' hk=>?_⟩
      cases k with
      | zero=>simp at hk; subst hk; exact h1
      | succ k=>simp at hk; exact q2 k o' hk
    . cases h

theorem qPe {ins:List AIns} {bf kd ord:List Nat} {x:Nat}:(qFq ins bf kd ord x).dst=(qFi ins x).dst:=by unfold qFq; dsimp only; split<;>rfl
theorem qNd {ins:List AIns} {bf kd ord:List Nat} {x:Nat}:(qFq ins bf kd ord x).guard=(qFi ins x).guard:=by unfold qFq; dsimp only; split<;>rfl
theorem qOg {ins:List AIns} {bf kd ord:List Nat} {x:Nat}:(qFq ins bf kd ord x).op=(qFi ins x).op:=by unfold qFq; dsimp only; split<;>rfl

theorem fresh_at {n:Nat} {ins:List AIns} {rd:List (List Nat)} {bf:List Nat} {i:Nat} (h:qQx n ins rd bf i=true) :
    ∃ d,(qFi ins i).dst=some d∧(∀ k,k < n→k≠i→(qFi ins k).dst≠some d)∧∀ k,k < n→d∈rd.getD k []→(bf.getD k 0).testBit i=true:=by
  unfold qQx at h
  split at h
  . rename_i d hd
    rw [List.all_eq_true] at h;refine ⟨d,hd,fun k hk hki=>?_,fun k hk hdk=>?_⟩
    . have:=h k (List.mem_range.2 hk)
      simp only [Bool.and_eq_true,Bool.or_eq_true,beq_iff_eq,bne_iff_ne,ne_eq] at this;exact this.1.resolve_left hki
    . have:=h k (List.mem_range.2 hk)
      simp only [Bool.and_eq_true,Bool.or_eq_true,beq_iff_eq,bne_iff_ne,ne_eq,Bool.not_eq_true',List.contains_eq_mem] at this;exact this.2.resolve_left fun h=>of_decide_eq_false h hdk
  . cases h

theorem rdO_mem {o:Oper} {t:Nat} (h:Operand.tmp t∈o.op.operands):t∈rdO o:=by
  unfold rdO;rw [List.mem_filterMap];exact ⟨.tmp t,by simpa using h,rfl⟩

theorem dok_of {P:Program} {N:Nat} {ops:Array Oper} {ins:List AIns} {rd:List (List Nat)} {bf kd ord:List Nat} (hins:qOa P N ops ops.toList=some ins) (h:qSw ops.size ops.toList ins rd bf kd ord=true) :
    DOk P N ops ord (qFq ins bf kd ord) (fun i=>rd.getD i []) (fun i j=>(bf.getD i 0).testBit j) (fun i=>kd.getD i 2):=by
  unfold qSw at h;simp only [Bool.and_eq_true,List.all_eq_true,List.mem_range] at h;obtain ⟨⟨⟨⟨⟨⟨⟨⟨⟨hm1,hm2⟩,hbr⟩,hfr⟩,hlt⟩,hmk⟩,hk2⟩,hkl⟩,hhw⟩,hch⟩:=h;have hmem:∀ i,i∈ord↔i < ops.size:=fun i=>⟨fun h=>by simpa using hm2 i h,fun h=>by simpa using hm1 i h⟩
  have hspec:=chk_spec ord 0 [] hch (by simp)
  have hnin:∀ pre x r,ord=pre++x :: r→x ∉ pre:=by
    intro pre x r e hx;obtain ⟨pm,q1,q2,_⟩:=hspec pre x r e;rw [(q1 x).2 (.inr hx)] at q2; cases q2
  have hat:∀ i,i < ops.size→∃ o,ops[i]?=some o∧ops.toList[i]?=some o:=fun i hi=>⟨ops[i],Array.getElem?_eq_getElem hi,by simp [Array.getElem?_toList,hi]⟩
  have hbf:∀ i o,ops[i]?=some o→bf.getD i 0=bfOf o (bf.getD · 0)∧rd.getD i []=rdO o++rdA (qFi ins i).op++rdG (qFi ins i).guard:=by
    intro i o ho;have:=hbr i (Array.getElem?_eq_some_iff.1 ho).1;rw [show ops.toList[i]?=some o from by rw [Array.getElem?_toList]; exact ho] at this
    simpa using this
  refine ⟨hmem,nodup_of ord [] fun pre x r e=>⟨by simp,hnin pre x r e⟩,fun i o ho=>?_,fun i o ho t ht=>?_,fun i hi t ht=>?_,fun i hi d wnt hg=>?_,fun i o ho e he hb=>?_,fun i o ho j hj=>?_,
    fun pre x r e j hj=>?_,fun i hk hi=>?_,fun i=>?_,fun i hi hk=>?_,fun i hi hk=>?_,fun pre x r e hk j hj hkj=>?_,fun pre x r e hk=>?_,fun x hx hk d hd j hj h1 h2 h3 h4 hdj=>?_,fun pre x r e hk j hj hkj hb q hq hl=>?_⟩
  . have:=(cList_at hins).2 i o (by rw [Array.getElem?_toList]; exact ho)
    unfold cIns at this
    split at this
    . rename_i op g e1 e2
      split at this
      . rename_i e3
        rw [qOg,qNd,qPe];have e4:=(Option.some.inj this).symm;rw [e4];exact ⟨e1,e2,rfl,e3⟩
      . cases this
    . cases this
  . rw [(hbf i o ho).2]; simp [rdO_mem ht]
  . obtain ⟨o,ho,_⟩:=hat i hi
    rw [qOg] at ht;rw [(hbf i o ho).2]; simp [ht]
  . obtain ⟨o,ho,_⟩:=hat i hi
    rw [qNd] at hg;rw [(hbf i o ho).2,hg]; simp [rdG]
  . rw [(hbf i o ho).1]; exact bf_at.2 ⟨e,he,hb,.inl rfl⟩
  . rw [(hbf i o ho).1] at hj; exact bf_at.1 hj
  . obtain ⟨pm,q1,q2,q3,_⟩:=hspec pre x r e
    have:=(q1 j).1 (qSt q3 hj)
    simpa using this
  . have:=hfr i hi
    simp only [Bool.or_eq_true,beq_iff_eq] at this;obtain ⟨d,z1,z2,z3⟩:=fresh_at (this.resolve_left hk);exact ⟨d,by rw [qPe]; exact z1,fun k hk hki=>by rw [qPe]; exact z2 k hk hki,z3⟩
  . rw [List.getD_eq_getElem?_getD]
    cases hi:kd[i]? with
    | none=>simp
    | some v =>
      have:=hk2 v (List.mem_of_getElem? hi);simp at this ⊢; omega
  . have:=hlt i hi
    rw [qOg];simp only [Bool.or_eq_true,bne_iff_ne,ne_eq] at this;have:=this.resolve_left (fun h=>h hk)
    unfold isQ at this
    split at this
    . rename_i q e; exact ⟨q,e⟩
    . cases this
  . have:=hmk i hi
    rw [qOg,qNd];simp only [Bool.or_eq_true,Bool.and_eq_true,bne_iff_ne,ne_eq] at this;obtain ⟨⟨w1,w2⟩,w3⟩:=this.resolve_left (fun h=>h hk)
    refine ⟨?_,by simpa using w2,fun j hj=>?_⟩
    . unfold qUe at w1
      split at w1
      . rename_i ee e; exact ⟨ee,e,w1⟩
      . cases w1
    . have:=qRl.1 (qSt w3 hj)
      simpa using this.2
  . obtain ⟨pm,q1,q2,q3,q4,_⟩:=hspec pre x r e
    have hjo:j < ops.size:=(hmem j).1 (by rw [e]; exact List.mem_append_left _ hj)
    refine qSt (q4 hk) ?_;rw [Nat.testBit_and,(q1 j).2 (.inr hj),qRl.2 ⟨hjo,by simpa using hkj⟩]; rfl
  . obtain ⟨pm,q1,q2,q3,_,q5⟩:=hspec pre x r e
    rcases q5 hk with z | z
    . rw [qOg]
      unfold qUd at z
      split at z
      . rename_i zz esz e; exact .inl ⟨zz,esz,e⟩
      . cases z
    . refine .inr fun j hj hk2'=>?_
      have hjo:j < ops.size:=(hmem j).1 (by rw [e]; exact List.mem_append_left _ hj)
      have:(pm &&& qMx ops.size fun j=>kd.getD j 2 == 2).testBit j=true:=by
        rw [Nat.testBit_and,(q1 j).2 (.inr hj),qRl.2 ⟨hjo,by simpa using hk2'⟩]; rfl
      rw [z] at this; simp at this
  . have:=hhw x hx
    rw [qPe] at hd;unfold hwB at this;rw [hd] at this;simp only [Bool.or_eq_true,bne_iff_ne,ne_eq,List.all_eq_true,List.mem_range,beq_iff_eq,Bool.not_eq_true',List.contains_eq_mem] at this;have:=(this.resolve_left (fun h=>h hk)) j hj
    clear hhw;simp only [h1,h3,h2,h4,or_false,false_or,Bool.false_eq_true] at this;exact of_decide_eq_false this hdj
  . unfold qFq
    try dsimp only at hk hkj hb ⊢
    rw [if_pos (by simpa using hk),e,takeW (hnin pre x r e)]
    unfold floats;rw [List.mem_filterMap];refine ⟨j,hj,?_⟩;rw [qOg] at hq;rw [hkj,hb,hq];simp [hl]

theorem draw_sound {P:Program} {N:Nat} {ops:Array Oper} {is:List AIns} {Q:Exit→Fr→Heap→Prop} {fr:Fr} {H H0:Heap} {m m0:Mu} {a:Act} {w w0:World} (hP:P.follows .mixedOrders=true) (hc:qUi P N ops=some is) (id:Nat)
    (h:wOps P (Q .normal) is fr H) (hA:ARel m H w) (hF:FRel m fr a) (hK:Kept m0 H0 w0 m H w) (hN:a.tmps.size=N) (hD:a.defers=[]):(Code.region id ops true).wp P (qLt Q m0 H0 w0 N) a w:=by
  unfold qUi at hc
  split at hc
  . rename_i ins hins
    dsimp only at hc
    split at hc
    . rename_i hok
      cases hc;exact draw_of (dok_of hins hok) hP id h hA hF hK hN hD
    . cases hc
  . cases hc
end Am
