/- The abstract machine, seventh part: calls, rows of operations, code; that what is shown of it by 'awp' holds of the model's run.
   No condition: plain lemmas. -/
import Derived.Test.YtdiggaadgjkgkaaGreatDoorZNAmEffect
namespace Am
set_option linter.unusedSimpArgs false
set_option linter.unusedVariables false
open Go

def qCq (P:Program) (f:FuncId) (args:List Value) (H:Heap) (K:Value→Heap→Prop):Prop :=
  ∀ (m:Mu) (w:World) (cargs:Array Value),ARel m H w→VRels m args cargs.toList →
    Calls P f cargs w fun e w'=>∃ v c H' m',e=.returned c∧K v H'∧VRel m' v c∧ARel m' H' w'∧Kept m H w m' H' w'

theorem qCq.mono {P:Program} {f:FuncId} {args:List Value} {H:Heap} {K K':Value→Heap→Prop} (h:qCq P f args H K) (hk:∀ v H',K v H'→K' v H'):qCq P f args H K' :=
  fun m w cargs hA hv=>(h m w cargs hA hv).mono fun _ _ ⟨v,c,H',m',he,hK,hr⟩=>⟨v,c,H',m',he,hk _ _ hK,hr⟩

inductive AOp where
  | q (o:QOp)
  | e (o:EOp)
  | call (f:FuncId) (args:List Operand)
  | callv (g:Operand) (args:List Operand)
  | nilT (neg:Bool) (x:Operand)
  | st (o:AOp)

def qEr:Value→Bool→Bool
  | .slice _ n _,b=>!b || n == 0
  | _,_=>false

structure AIns where
  dst:Option Nat
  guard:Option (Nat×Bool)
  op:AOp
  fl:List QOp

def qCe (fr:Fr):Option (Nat×Bool)→Bool
  | none=>true
  | some (d,want)=>match fr d with | .bool b=>b == want | _=>false

def qFm (fr:Fr) (H H':Heap):List QOp→Prop
  | []=>True
  | q :: qs=>qop q fr H'=qop q fr H∧qFm fr H H' qs

def qCg (P:Program) (f:FuncId):Bool :=
  match P.funcs[f]? with
  | some fn => fn.body.isSome && !(fn.name == "runtime.NumGoroutine")
  | none=>false

mutual
def wOps (P:Program) (K:Fr→Heap→Prop):List AIns→Fr→Heap→Prop
  | [],fr,H=>K fr H
  | ⟨d,g,o,fl⟩ :: is,fr,H=>if qCe fr g=true then wOp P K is d fl o fr H else wOps P K is (updO fr d (.tuple #[])) H
def wOp (P:Program) (K:Fr→Heap→Prop) (is:List AIns) (d:Option Nat) (fl:List QOp):AOp→Fr→Heap→Prop
  | .q o,fr,H=>match qop o fr H with | some v=>wOps P K is (updO fr d v) H | none=>False
  | .e o,fr,H=>match eop o fr H with | some (v,H')=>qFm fr H H' fl∧wOps P K is (updO fr d v) H' | none=>False
  | .call f args,fr,H=>qCq P f (args.map (ev fr)) H fun v H'=>qFm fr H H' fl∧wOps P K is (updO fr d v) H'
  | .callv g args,fr,H =>
    match ev fr g with
    | .func (.func f) first caps=>qCg P f=true∧qCq P f (first.toList++args.map (ev fr)++caps.toList) H fun v H'=>qFm fr H H' fl∧wOps P K is (updO fr d v) H'
    | _=>False
  | .nilT g x,fr,H=>qEr (ev fr x) false=true∧∀ b:Bool,qEr (ev fr x) b=true→wOps P K is (updO fr d (.bool (b != g))) H
  | .st _,_,_=>False
end

/-! ### The translation -/
def cOp (P:Program) (o:Op):Option AOp :=
  match cQ P o with
  | some q=>some (.q q)
  | none =>
    match cE P o with
    | some e=>some (.e e)
    | none =>
      match o with
      | .call { callee:=.value (.func f),args,argTypes:=_ }=>if okL args.toList && qCg P f then some (.call f args.toList) else none
      | .call { callee:=.value (.tmp t),args,argTypes:=_ }=>if okL args.toList then some (.callv (.tmp t) args.toList) else none
      | .binOp .eql t x (.const (.slice none 0 0)) _=>if okO x then (match P.underlying t with | some (.slice _)=>some (.nilT false x) | _=>none) else none
      | .binOp .neq t x (.const (.slice none 0 0)) _=>if okO x then (match P.underlying t with | some (.slice _)=>some (.nilT true x) | _=>none) else none
      | _=>none
def qTa (ops:Array Oper):Option (Nat×Bool)→Option (Option (Nat×Bool))
  | none=>some none
  | some (j,want)=>match (ops[j]?).bind (·.dst) with | some d=>some (some (d,want)) | none=>none
def qPj (N:Nat):Option Nat→Bool
  | none=>true
  | some d=>d < N
def cIns (P:Program) (N:Nat) (ops:Array Oper) (o:Oper):Option AIns :=
  match cOp P o.op,qTa ops o.guard with
  | some op,some g=>if qPj N o.dst then some ⟨o.dst,g,op,[]⟩ else none
  | _,_=>none
def qOa (P:Program) (N:Nat) (ops:Array Oper):List Oper→Option (List AIns)
  | []=>some []
  | o :: l =>
    match cIns P N ops o,qOa P N ops l with
    | some i,some is=>some (i :: is)
    | _,_=>none

section
variable {P : Program} {m : Mu} {H : Heap} {w : World} {fr : Fr} {a : Act} {N : Nat}

theorem want_eq' {ops:Array Oper} {o:Oper} {g:Option (Nat×Bool)} (hg:qTa ops o.guard=some g) (hF:∀ d w,g=some (d,w)→VRel m (fr d) (a.tmps.getD d undef)):Region.wanted o (yielded ops a.tmps)=qCe fr g:=by
  unfold Region.wanted;cases hgu:o.guard with
  | none=>rw [hgu] at hg; cases hg; rfl
  | some p =>
    obtain ⟨j,want⟩:=p;rw [hgu] at hg;simp only [qTa] at hg
    split at hg
    . rename_i d hd
      cases hg;simp only [yielded,hd,Option.bind_some,qCe];have h:=hF d _ rfl;cases ht:a.tmps[d]? with
      | none =>
        have e:a.tmps.getD d undef=undef:=by simp [Array.getD_eq_getD_getElem?,ht]
        rw [e] at h
        generalize fr d=x at *
        cases x with
        | bool b=>cases h
        | _=>rfl
      | some c =>
        have e:a.tmps.getD d undef=c:=by simp [Array.getD_eq_getD_getElem?,ht]
        rw [e] at h
        generalize fr d=x at *
        cases h<;>simp
    . cases hg

theorem qRc (hF:FRel m fr a) {ops:Array Oper} {o:Oper} {g:Option (Nat×Bool)} (hg:qTa ops o.guard=some g):Region.wanted o (yielded ops a.tmps)=qCe fr g:=want_eq' hg fun d _ _=>hF d

theorem qOl {f:FuncId} {args:Array Operand} {tys:Array TypeId} (hc:qCg P f=true) (dst:Option Tmp) (ty:TypeId) (pos:String) (after:Array Edge) (guard:Option (Nat×Bool)) :
    (execOp a.eval ⟨dst,.call { callee:=.value (.func f),args,argTypes:=tys },ty,pos,after,guard⟩).run P w=.ok (.enter f (args.map a.eval)) w:=by
  unfold qCg at hc
  split at hc
  . rename_i fn hf
    simp only [Bool.and_eq_true,Bool.not_eq_true',beq_eq_false_iff_ne,ne_eq] at hc;have hb:fn.body≠none:=by intro h; simp [h] at hc
    simp [execOp,resolve,Act.eval,Deferred.ofValue,invoke,callFunc,hf,hc.2];exact fun h=>absurd h hb
  . cases hc
theorem qMl {t:Tmp} {f:FuncId} {first caps:Array Value} {args:Array Operand} {tys:Array TypeId} (hv:a.eval (.tmp t)=.func (.func f) first caps) (hc:qCg P f=true) (dst:Option Tmp) (ty:TypeId) (pos:String)
    (after:Array Edge) (guard:Option (Nat×Bool)) :
    (execOp a.eval ⟨dst,.call { callee:=.value (.tmp t),args,argTypes:=tys },ty,pos,after,guard⟩).run P w=.ok (.enter f (first++args.map a.eval++caps)) w:=by
  unfold qCg at hc
  split at hc
  . rename_i fn hf
    simp only [Bool.and_eq_true,Bool.not_eq_true',beq_eq_false_iff_ne,ne_eq] at hc;have hb:fn.body≠none:=by intro h; simp [h] at hc
    simp [execOp,resolve,hv,Deferred.ofValue,invoke,callFunc,hf,hc.2];exact fun h=>absurd h hb
  . cases hc

theorem qIr {x:Operand} {p:Value} (hr:VRel m p (a.eval x)) (hp:qEr p false=true) {t e:TypeId} (ht:P.underlying t=some (.slice e)) (g:Bool) (dst:Option Tmp) (yt ty:TypeId) (pos:String) (after:Array Edge) (guard:Option (Nat×Bool)) :
    ∃ b,qEr p b=true∧(execOp a.eval ⟨dst,.binOp (if g then .neq else .eql) t x (.const (.slice none 0 0)) yt,ty,pos,after,guard⟩).run P w=.ok (.value (.bool (b != g))) w:=by
  obtain ⟨o,n,c,hc,hn⟩:∃ o n c,a.eval x=.slice o n c∧(o=none→n=0)∧qEr p (o.isNone)=true:=by
    generalize a.eval x=y at hr
    cases hr with
    | sliceNil a=>exact ⟨a,0,0,rfl,fun _=>rfl,by cases a<;>rfl⟩
    | slice h hl hr=>exact ⟨_,_,_,rfl,(fun h=>by cases h),rfl⟩
    | sliceEnd h a=>exact ⟨a,0,0,rfl,fun _=>rfl,by cases a<;>rfl⟩
    | _=>simp [qEr] at hp
  refine ⟨o.isNone,hn.2,?_⟩;have e:∀ (w:World),(Op.equal t (.slice o n c) (.slice none 0 0)).run P w=.ok o.isNone w:=by
    intro w;have q:Op.equal t (.slice o n c) (.slice none 0 0)=Op.equalIn (9999+1) t (.slice o n c) (.slice none 0 0):=rfl;rw [q]
    generalize 9999=d
    cases o<;>simp [Op.equalIn,qCj ht]
  have hny:∀ a:Act,a.eval (.const (.slice none 0 0))=.slice none 0 0:=fun _=>rfl
  cases g
  . simp only [execOp,Sem.run_bind,hc,Bool.false_eq_true,if_false,hny]
    rw [qFa _ _ _ _ _ _ (fun cs e=>by cases e) (fun e=>by cases e)]
    simp [binOp,e]
  . simp only [execOp,Sem.run_bind,hc,if_true,hny]
    rw [qFa _ _ _ _ _ _ (fun cs e=>by cases e) (fun e=>by cases e)]
    simp [binOp,e]

def qLt (Q:Exit→Fr→Heap→Prop) (m0:Mu) (H0:Heap) (w0:World) (N:Nat):Exit→Act→World→Prop :=
  fun e a w=>∃ fr H m,Q e fr H∧ARel m H w∧FRel m fr a∧Kept m0 H0 w0 m H w∧a.tmps.size=N∧a.defers=[]

theorem qGh (a:Act) (d:Option Tmp) (v:Value):(a.put d v).tmps.size=a.tmps.size:=by cases d<;>simp [Act.put]
theorem qEl (a:Act) (d:Option Tmp) (v:Value):(a.put d v).defers=a.defers:=by cases d<;>rfl
theorem qFe {d:Option Nat} (h:qPj N d=true) (hs:a.tmps.size=N):∀ t,d=some t→t < a.tmps.size:=by
  intro t e; subst e; simpa [qPj,hs] using h

theorem op_sound {K:Fr→Heap→Prop} {is:List AIns} {d:Option Nat} {fl:List QOp} {o:Oper} {op:AOp} (hc:cOp P o.op=some op) (hd:o.dst=d) (hdn:qPj N d=true) (hA:ARel m H w) (hF:FRel m fr a) (hN:a.tmps.size=N) (hD:a.defers=[])
    (h:wOp P K is d fl op fr H) (next:Act→World→Prop) (Q:Exit→Act→World→Prop)
    (hn:∀ (v c:Value) (H':Heap) (m':Mu) (w':World),qFm fr H H' fl→wOps P K is (updO fr d v) H'→VRel m' v c→ARel m' H' w'→Kept m H w m' H' w'→FRel m' (updO fr d v) (a.put d c)→next (a.put d c) w'):o.wp P a w next Q:=by
  subst hd;unfold Oper.wp;have hstay0:∀ l,qFm fr H H l:=by intro l; induction l with | nil=>trivial | cons q l ih=>exact ⟨rfl,ih⟩
  unfold cOp at hc
  split at hc
  . rename_i q hq
    cases hc;simp only [wOp] at h
    split at h
    . rename_i v hv
      obtain ⟨c,k1,k2⟩:=qMq hA hF hq hv;rw [k1];exact hn v c H m w (hstay0 fl) h k2 hA (.refl _ _ _) (hF.upd _ k2 (qFe hdn hN))
    . exact h.elim
  . split at hc
    . rename_i e he
      cases hc;simp only [wOp] at h
      split at h
      . rename_i v H' hv
        obtain ⟨n,c,w',m',k1,k2,k3,k4,k5⟩:=qNe hA hF he hv;rw [k1];rcases k2 with rfl | ⟨rfl,rfl⟩
        . exact hn v c H' m' w' h.1 h.2 k3 k4 k5 ((hF.mono k5.ext).upd _ k3 (qFe hdn hN))
        . exact hn v undef H' m' w' h.1 h.2 k3 k4 k5 ((hF.mono k5.ext).upd _ k3 (qFe hdn hN))
      . exact h.elim
    . split at hc
      . rename_i f args tys ho
        split at hc
        . rename_i hok
          cases hc;simp only [Bool.and_eq_true] at hok;obtain ⟨dst,op',ty,pos,after,guard⟩:=o;simp only at ho hn h hdn;subst ho;rw [qOl hok.2];simp only [wOp] at h;refine (h m w (args.map a.eval) hA (by simpa using qEd hF hok.1)).mono ?_
          rintro e w' ⟨v,c,H',m',rfl,⟨hs,hK⟩,k3,k4,k5⟩;exact hn v c H' m' w' hs hK k3 k4 k5 ((hF.mono k5.ext).upd _ k3 (qFe hdn hN))
        . cases hc
      . rename_i t args tys ho
        split at hc
        . rename_i hok
          cases hc;obtain ⟨dst,op',ty,pos,after,guard⟩:=o;simp only at ho hn h hdn;subst ho;simp only [wOp] at h
          split at h
          . rename_i f first caps hev
            have hr:=hF.ev (x:=.tmp t) rfl;rw [hev] at hr;cases hg:a.eval (.tmp t)<;>rw [hg] at hr<;>cases hr;rename_i f1 g1 s1 r1 s2 r2;rw [qMl hg h.1];refine (h.2 m w (f1++args.map a.eval++g1) hA ?_).mono ?_
            . simp only [Array.toList_append,Array.toList_map]
              exact ((VRels.of_get (by simpa using s1) fun i x y hx hy=>r1 i x y (by simpa using hx) (by simpa using hy)).append (qEd hF hok)).append
                (.of_get (by simpa using s2) fun i x y hx hy=>r2 i x y (by simpa using hx) (by simpa using hy))
            . rintro e w' ⟨v,c,H',m',rfl,⟨hs,hK⟩,k3,k4,k5⟩
              exact hn v c H' m' w' hs hK k3 k4 k5 ((hF.mono k5.ext).upd _ k3 (qFe hdn hN))
          . exact h.elim
        . cases hc
      . rename_i t x yt ho
        split at hc
        . rename_i hok
          split at hc
          . rename_i e ht
            cases hc;obtain ⟨dst,op',ty,pos,after,guard⟩:=o;simp only at ho hn h hdn;subst ho;simp only [wOp] at h;obtain ⟨b,k1,k2⟩:=qIr (w:=w) (hF.ev hok) h.1 ht false dst yt ty pos after guard;simp only [Bool.false_eq_true,if_false] at k2;rw [k2];exact hn _ _ H m w (hstay0 fl) (h.2 b k1) (.bool _) hA (.refl _ _ _) (hF.upd _ (.bool _) (qFe hdn hN))
          . cases hc
        . cases hc
      . rename_i t x yt ho
        split at hc
        . rename_i hok
          split at hc
          . rename_i e ht
            cases hc;obtain ⟨dst,op',ty,pos,after,guard⟩:=o;simp only at ho hn h hdn;subst ho;simp only [wOp] at h;obtain ⟨b,k1,k2⟩:=qIr (w:=w) (hF.ev hok) h.1 ht true dst yt ty pos after guard;simp only [if_true] at k2;rw [k2];exact hn _ _ H m w (hstay0 fl) (h.2 b k1) (.bool _) hA (.refl _ _ _) (hF.upd _ (.bool _) (qFe hdn hN))
          . cases hc
        . cases hc
      . cases hc

theorem ops_sound {ops:Array Oper} {Q:Exit→Fr→Heap→Prop} {m0:Mu} {H0:Heap} {w0:World}:∀ {l:List Oper} {is:List AIns},qOa P N ops l=some is→∀ {fr:Fr} {H:Heap} {m:Mu} {a:Act} {w:World},
    wOps P (Q .normal) is fr H→ARel m H w→FRel m fr a→Kept m0 H0 w0 m H w→a.tmps.size=N→a.defers=[]→wpList P ops (qLt Q m0 H0 w0 N) l a w
  | [],is,hc,fr,H,m,a,w,h,hA,hF,hK,hN,hD=>by
    cases hc;exact ⟨fr,H,m,by simpa [wOps] using h,hA,hF,hK,hN,hD⟩
  | o :: l,is,hc,fr,H,m,a,w,h,hA,hF,hK,hN,hD=>by
    simp only [qOa] at hc
    split at hc
    . rename_i i is' hi hl
      cases hc;unfold cIns at hi
      split at hi
      . rename_i op g hop hg
        split at hi
        . rename_i hdn
          cases hi;simp only [wOps] at h;unfold wpList;rw [qRc hF hg]
          split
          . rename_i hw
            rw [if_pos hw] at h;exact .inl (op_sound hop rfl hdn hA hF hN hD h _ _ fun v c H' m' w' _ hK' _ k4 k5 hF'=>ops_sound hl hK' k4 hF' (hK.trans k5) (by rw [qGh,hN]) (by rw [qEl,hD]))
          . rename_i hw
            rw [if_neg hw] at h;exact ops_sound hl h hA (hF.upd _ (.undef m) (qFe hdn hN)) hK (by rw [qGh,hN]) (by rw [qEl,hD])
        . cases hi
      . cases hi
    . cases hc
end
end Am
