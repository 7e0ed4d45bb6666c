/- The abstract machine: closed runs, reckoned out.
   No condition: plain lemmas. -/
import Derived.Test.YtmdnkninbkcmkaaDoorZTAmWalk
namespace Am
set_option linter.unusedSimpArgs false
set_option linter.unusedVariables false
open Go

def qYw:Option Value→Option Value→Bool
  | some (.bool a),some (.bool b)=>a == b
  | some (.int k a),some (.int k' b)=>decide (k=k') && decide (a=b)
  | some (.pointer (some ⟨i,o,some s⟩)),some (.pointer (some ⟨i',o',some s'⟩))=>i == i' && o == o' && s == s'
  | some (.slice (some ⟨i,o,none⟩) l v),some (.slice (some ⟨i',o',none⟩) l' v')=>i == i' && o == o' && l == l' && v == v'
  | some (.slice none l v),some (.slice none l' v')=>l == l' && v == v'
  | _,_=>false
theorem sameV_eq {a b:Option Value} (h:qYw a b=true):a=b:=by
  unfold qYw at h
  split at h
  . simp at h; rw [h]
  . simp at h; rw [h.1,h.2]
  . simp at h; simp [h]
  . simp at h; simp [h]
  . simp at h; simp [h]
  . cases h
def qWt (fr:Fr) (H H':Heap):List QOp→Bool
  | []=>true
  | q :: qs=>qYw (qop q fr H') (qop q fr H) && qWt fr H H' qs
theorem staysB_of {fr:Fr} {H H':Heap}:∀ {l:List QOp},qWt fr H H' l=true→qIm fr H H' l
  | [],_=>trivial
  | q :: qs,h=>by simp only [qWt,Bool.and_eq_true] at h; exact ⟨sameV_eq h.1,staysB_of h.2⟩

abbrev qXo:=FuncId→List Value→Heap→Option (Value×Heap)
def xOp (call:qXo) (fn:FuncId→Bool):AOp→Fr→Heap→Option (Value×Heap)
  | .q o,fr,H=>(qop o fr H).map fun v=>(v,H)
  | .e o,fr,H=>eop o fr H
  | .call f args,fr,H=>call f (args.map (ev fr)) H
  | .callv g args,fr,H =>
    match ev fr g with
    | .func (.func f) first caps=>if fn f then call f (first.toList++args.map (ev fr)++caps.toList) H else none
    | _=>none
  | .nilT g x,fr,H=>match qHk (ev fr x) false,qHk (ev fr x) true with | true,false=>some (.bool (false != g),H) | _,_=>none
  | .st _,_,_=>none
def xOps (call:qXo) (fn:FuncId→Bool):List AIns→Fr→Heap→Option (Fr×Heap)
  | [],fr,H=>some (fr,H)
  | i :: is,fr,H =>
    match qCs fr i.guard with
    | true =>
      match xOp call fn i.op fr H with
      | some (v,H')=>match qWt fr H H' i.fl with | true=>xOps call fn is (updO fr i.dst v) H' | false=>none
      | none=>none
    | false=>xOps call fn is (updO fr i.dst (.tuple #[])) H

inductive XR where
  | bad
  | ok (e:Exit) (fr:Fr) (H:Heap)
def qYm (body:Fr→Heap→XR):Nat→Fr→Heap→XR
  | 0,_,_=>.bad
  | n+1,fr,H=>match body fr H with
    | .ok .normal fr H=>qYm body n fr H
    | r=>r
def qXg (body:Fr→Heap→XR) (l:Nat):Nat→XR→XR
  | 0,_=>.bad
  | n+1,.ok (.goto l') fr H=>if l'=l then qXg body l n (body fr H) else .bad
  | _+1,r=>r
def qMr (call:qXo) (fn:FuncId→Bool) (k:Nat):AC→Fr→Heap→XR
  | .skip,fr,H=>.ok .normal fr H
  | .ops is,fr,H=>match xOps call fn is fr H with | some (fr,H)=>.ok .normal fr H | none=>.bad
  | .seq a b,fr,H=>match qMr call fn k a fr H with
    | .ok .normal fr H=>qMr call fn k b fr H
    | r=>r
  | .cond c a b,fr,H=>match ev fr c with
    | .bool true=>qMr call fn k a fr H
    | .bool false=>qMr call fn k b fr H
    | _=>.bad
  | .block id a,fr,H=>match qMr call fn k a fr H with
    | .ok (.exit i) fr H=>if i=id then .ok .normal fr H else .ok (.exit i) fr H
    | r=>r
  | .loop a,fr,H=>qYm (qMr call fn k a) k fr H
  | .exit id,fr,H=>.ok (.exit id) fr H
  | .label _,fr,H=>.ok .normal fr H
  | .goto l,fr,H=>.ok (.goto l) fr H
  | .scope l a r,fr,H=>qXg (qMr call fn k r) l k (qMr call fn k a fr H)
  | .ret,fr,H=>.ok .ret fr H
def qYn (tab:FuncId→Option AFn) (fn:FuncId→Bool) (k:Nat):Nat→qXo
  | 0,_,_,_=>none
  | n+1,f,args,H =>
    match tab f with
    | some af =>
      match (if args.length≤af.ntmps then qMr (qYn tab fn k n) fn k af.body (qCp args) H else .bad) with
      | .ok .ret fr H=>match qAv fr H af.results with | some vs=>some (retV vs,H) | none=>none
      | .ok .normal fr H=>match qAv fr H af.results with | some vs=>some (retV vs,H) | none=>none
      | _=>none
    | none=>none

def qYk (P:Program) (call:qXo):Prop:=∀ f args H v H',call f args H=some (v,H')→qEi P f args H fun v' H''=>v'=v∧H''=H'

section
variable {P : Program} {call : qXo} {fn : FuncId → Bool}
theorem qVk (hc:qYk P call) (hf:∀ f,fn f=true→qEd P f=true) {K:Fr→Heap→Prop}:∀ (is:List AIns) (fr:Fr) (H:Heap) (fr':Fr) (H':Heap),xOps call fn is fr H=some (fr',H')→K fr' H'→wOps P K is fr H
  | [],fr,H,fr',H',h,k=>by cases h; rw [wOps]; exact k
  | ⟨d,g,o,fl⟩ :: is,fr,H,fr',H',h,k=>by
    rw [wOps];simp only [xOps] at h
    split at h
    . rename_i hg
      rw [if_pos hg]
      split at h
      . rename_i v H1 ho
        split at h
        . rename_i hs
          have hs:=staysB_of hs;have ih:=qVk hc hf is _ _ _ _ h k;cases o with
          | q o =>
            simp only [xOp,Option.map_eq_some_iff] at ho;obtain ⟨v',hv,e⟩:=ho;cases e;simp only [wOp,hv]; exact ih
          | e o=>simp only [xOp] at ho; simp only [wOp,ho]; exact ⟨hs,ih⟩
          | call f args =>
            simp only [xOp] at ho; simp only [wOp];exact (hc _ _ _ _ _ ho).mono fun v' H'' ⟨e1,e2⟩=>by subst e1; subst e2; exact ⟨hs,ih⟩
          | callv g args =>
            simp only [xOp] at ho; simp only [wOp]
            split at ho
            . rename_i f first caps e
              split at ho
              . rename_i hfn
                rw [e];exact ⟨hf _ hfn,(hc _ _ _ _ _ ho).mono fun v' H'' ⟨e1,e2⟩=>by subst e1; subst e2; exact ⟨hs,ih⟩⟩
              . cases ho
            . cases ho
          | nilT g x =>
            simp only [xOp] at ho; simp only [wOp]
            split at ho
            . rename_i e1 e2
              cases ho;refine ⟨e1,fun b hb=>?_⟩
              cases b with
              | false=>exact ih
              | true=>rw [e2] at hb; cases hb
            . cases ho
          | st o=>simp only [xOp] at ho; cases ho
        . cases h
      . cases h
    . rename_i hg
      rw [if_neg (by simp [hg])]
      exact qVk hc hf is _ _ _ _ h k

theorem xLoop_ok {a:AC} {body:Fr→Heap→XR} (hb:∀ fr H e fr' H',body fr H=.ok e fr' H'→∀ Q:Exit→Fr→Heap→Prop,Q e fr' H'→awp P a Q fr H):∀ (n:Nat) (fr:Fr) (H:Heap) (e:Exit) (fr':Fr) (H':Heap),qYm body n fr H=.ok e fr' H' →
    ∀ Q:Exit→Fr→Heap→Prop,Q e fr' H'→rounds (awp P a) Q n fr H
  | 0,_,_,_,_,_,h,_,_=>by cases h
  | n+1,fr,H,e,fr',H',h,Q,k=>by
    simp only [qYm] at h
    split at h
    . rename_i fr1 H1 h1
      exact hb _ _ _ _ _ h1 _ (xLoop_ok hb n fr1 H1 e fr' H' h Q k)
    . rename_i hn
      refine hb _ _ _ _ _ h _ ?_;cases e<;>first | exact k | exact (hn _ _ h).elim
theorem xJump_ok {r:AC} {body:Fr→Heap→XR} {l:Nat} (hb:∀ fr H e fr' H',body fr H=.ok e fr' H'→∀ Q:Exit→Fr→Heap→Prop,Q e fr' H'→awp P r Q fr H):∀ (n:Nat) (e0:Exit) (fr0:Fr) (H0:Heap) (e:Exit) (fr':Fr) (H':Heap),qXg body l (n+1) (.ok e0 fr0 H0)=.ok e fr' H' →
    ∀ Q:Exit→Fr→Heap→Prop,Q e fr' H'→qPs l (qTm (awp P r) l Q n) Q e0 fr0 H0:=by
  intro n
  induction n with
  | zero =>
    intro e0 fr0 H0 e fr' H' h Q k;cases e0<;>simp only [qXg] at h
    case goto l'=>split at h<;>cases h
    all_goals (cases h; exact k)
  | succ n ih =>
    intro e0 fr0 H0 e fr' H' h Q k;cases e0
    case goto l' =>
      rw [qXg] at h
      split at h
      . rename_i hl
        refine ⟨hl,?_⟩;cases h1:body fr0 H0 with
        | bad=>rw [h1] at h; cases h
        | ok e1 fr1 H1 =>
          rw [h1] at h;exact hb _ _ _ _ _ h1 _ (ih _ _ _ _ _ _ h Q k)
      . cases h
    all_goals (simp only [qXg] at h; cases h; exact k)
theorem xCode_ok (hc:qYk P call) (hf:∀ f,fn f=true→qEd P f=true) (k:Nat):∀ (c:AC) (fr:Fr) (H:Heap) (e:Exit) (fr':Fr) (H':Heap),qMr call fn k c fr H=.ok e fr' H'→∀ Q:Exit→Fr→Heap→Prop,Q e fr' H'→awp P c Q fr H:=by
  intro c
  induction c with
  | skip=>intro fr H e fr' H' h Q q; cases h; exact q
  | ops is =>
    intro fr H e fr' H' h Q q;simp only [qMr] at h
    split at h
    . rename_i h1; cases h; exact qVk hc hf is _ _ _ _ h1 q
    . cases h
  | seq a b iha ihb =>
    intro fr H e fr' H' h Q q;simp only [qMr] at h
    split at h
    . rename_i fr1 H1 h1; exact iha _ _ _ _ _ h1 _ (ihb _ _ _ _ _ h Q q)
    . rename_i hn
      refine iha _ _ _ _ _ h _ ?_;cases e<;>first | exact q | exact (hn _ _ h).elim
  | cond c a b iha ihb =>
    intro fr H e fr' H' h Q q;simp only [qMr] at h;show qNl _ _ _ _ _
    split at h
    . rename_i hv; rw [hv]; exact iha _ _ _ _ _ h Q q
    . rename_i hv; rw [hv]; exact ihb _ _ _ _ _ h Q q
    . cases h
  | block id a iha =>
    intro fr H e fr' H' h Q q;simp only [qMr] at h
    split at h
    . rename_i i fr1 H1 h1
      refine iha _ _ _ _ _ h1 _ ?_;show (if i=id then Q .normal fr1 H1 else Q (.exit i) fr1 H1)
      split at h
      . rename_i hi; rw [if_pos hi]; cases h; exact q
      . rename_i hi; rw [if_neg hi]; cases h; exact q
    . rename_i hn
      refine iha _ _ _ _ _ h _ ?_;cases e<;>first | exact q | exact (hn _ _ _ h).elim
  | loop a iha =>
    intro fr H e fr' H' h Q q;exact ⟨k,xLoop_ok iha k fr H e fr' H' h Q q⟩
  | exit id=>intro fr H e fr' H' h Q q; cases h; exact q
  | label l=>intro fr H e fr' H' h Q q; cases h; exact q
  | goto l=>intro fr H e fr' H' h Q q; cases h; exact q
  | scope l a r iha ihr =>
    intro fr H e fr' H' h Q q;simp only [qMr] at h;cases h1:qMr call fn k a fr H with
    | bad=>rw [h1] at h; cases k<;>cases h
    | ok e1 fr1 H1 =>
      rw [h1] at h;cases k with
      | zero=>cases h
      | succ k=>exact ⟨k,iha _ _ _ _ _ h1 _ (xJump_ok ihr k e1 fr1 H1 e fr' H' h Q q)⟩
  | ret=>intro fr H e fr' H' h Q q; cases h; exact q

def qSk (P:Program) (tab:FuncId→Option AFn):Prop:=∀ f af,tab f=some af→∃ fn,P.funcs[f]?=some fn∧qCx P fn=some af
theorem qSr (hP:P.follows .mixedOrders=true) {tab:FuncId→Option AFn} (ht:qSk P tab) (hf:∀ f,fn f=true→qEd P f=true) (k:Nat):∀ n,qYk P (qYn tab fn k n)
  | 0=>by intro f args H v H' h; cases h
  | n+1=>by
    intro f args H v H' h;simp only [qYn] at h
    split at h
    . rename_i af ha
      obtain ⟨fn',h1,h2⟩:=ht f af ha
      split at h
      . rename_i fr1 H1 hx
        split at hx
        . rename_i hl
          split at h
          . rename_i vs hvs; cases h
            exact qEu hP h1 h2 hl (xCode_ok (qSr hP ht hf k n) hf k _ _ _ _ _ _ hx _ (by simp [qAu,hvs]))
          . cases h
        . cases hx
      . rename_i fr1 H1 hx
        split at hx
        . rename_i hl
          split at h
          . rename_i vs hvs; cases h
            exact qEu hP h1 h2 hl (xCode_ok (qSr hP ht hf k n) hf k _ _ _ _ _ _ hx _ (by simp [qAu,hvs]))
          . cases h
        . cases hx
      . cases h
    . cases h
end

def tnil:FuncId→Option AFn:=fun _=>none
def tput (f:FuncId) (af:AFn) (tab:FuncId→Option AFn):FuncId→Option AFn:=fun g=>match Nat.beq g f with | true=>some af | false=>tab g
theorem qSk.nil {P:Program}:qSk P tnil:=fun f af h=>by cases h
theorem qSk.put {P:Program} {tab:FuncId→Option AFn} (h:qSk P tab) {f:FuncId} {fn:Func} {af:AFn} (h1:P.funcs[f]?=some fn) (h2:qCx P fn=some af):qSk P (tput f af tab):=by
  intro g af' hg;unfold tput at hg
  split at hg
  . rename_i e; cases hg; rw [Nat.eq_of_beq_eq_true e]; exact ⟨fn,h1,h2⟩
  . exact h g af' hg
theorem qEi.aside {P:Program} {f:FuncId} {H:Heap} {K:Value→Heap→Prop} (h:qEi P f [] [] fun v _=>qHs v=true∧K v H):qEi P f [] H K:=by
  intro m w cargs hA hv;cases hv':cargs.toList with
  | cons c cs=>rw [hv'] at hv; cases hv
  | nil =>
  have h0:cargs=#[]:=by apply Array.ext'; simpa using hv'
  subst h0;refine (h _ w #[] (.empty hA.glob.tab) .nil).mono fun e w'=>?_
  rintro ⟨v,c,H',m',he,⟨hp,hk⟩,hvc,hA',hK⟩;obtain ⟨k1,k2⟩:=hA.aside hK;have h0:MExt (fun _ _=>none) m':=fun id ver L hL=>by simp at hL
  have h1:MExt (fun _ _=>none) m:=fun id ver L hL=>by simp at hL
  exact ⟨v,c,H,m,he,hk,(VRel.back (qOy _ hp) h0 hvc).mono h1,k1,k2⟩

end Am
