/- The abstract machine: closed runs, reckoned out.
   No condition: plain lemmas. -/
import Derived.Test.YtdiggaadgjkgkaaGreatDoorZNAmWalk
namespace Am
set_option linter.unusedSimpArgs false
set_option linter.unusedVariables false
open Go

def qUb:Option Value→Option Value→Bool
  | some (.bool a),some (.bool b)=>a == b
  | some (.int k a),some (.int k' b)=>decide (k=k') && decide (a=b)
  | some (.pointer (some ⟨i,o,some s⟩)),some (.pointer (some ⟨i',o',some s'⟩))=>i == i' && o == o' && s == s'
  | some (.slice (some ⟨i,o,none⟩) l v),some (.slice (some ⟨i',o',none⟩) l' v')=>i == i' && o == o' && l == l' && v == v'
  | some (.slice none l v),some (.slice none l' v')=>l == l' && v == v'
  | _,_=>false
theorem sameV_eq {a b:Option Value} (h:qUb a b=true):a=b:=by
  unfold qUb at h
  split at h
  . simp at h; rw [h]
  . simp at h; rw [h.1,h.2]
  . simp at h; simp [h]
  . simp at h; simp [h]
  . simp at h; simp [h]
  . cases h
def qSa (fr:Fr) (H H':Heap):List QOp→Bool
  | []=>true
  | q :: qs=>qUb (qop q fr H') (qop q fr H) && qSa fr H H' qs
theorem staysB_of {fr:Fr} {H H':Heap}:∀ {l:List QOp},qSa fr H H' l=true→qFm fr H H' l
  | [],_=>trivial
  | q :: qs,h=>by simp only [qSa,Bool.and_eq_true] at h; exact ⟨sameV_eq h.1,staysB_of h.2⟩

abbrev qSr:=FuncId→List Value→Heap→Option (Value×Heap)
def xOp (call:qSr) (fn:FuncId→Bool):AOp→Fr→Heap→Option (Value×Heap)
  | .q o,fr,H=>(qop o fr H).map fun v=>(v,H)
  | .e o,fr,H=>eop o fr H
  | .call f args,fr,H=>call f (args.map (ev fr)) H
  | .callv g args,fr,H =>
    match ev fr g with
    | .func (.func f) first caps=>if fn f then call f (first.toList++args.map (ev fr)++caps.toList) H else none
    | _=>none
  | .nilT g x,fr,H=>match qEr (ev fr x) false,qEr (ev fr x) true with | true,false=>some (.bool (false != g),H) | _,_=>none
  | .st _,_,_=>none
def xOps (call:qSr) (fn:FuncId→Bool):List AIns→Fr→Heap→Option (Fr×Heap)
  | [],fr,H=>some (fr,H)
  | i :: is,fr,H =>
    match qCe fr i.guard with
    | true =>
      match xOp call fn i.op fr H with
      | some (v,H')=>match qSa fr H H' i.fl with | true=>xOps call fn is (updO fr i.dst v) H' | false=>none
      | none=>none
    | false=>xOps call fn is (updO fr i.dst (.tuple #[])) H

inductive XR where
  | bad
  | ok (e:Exit) (fr:Fr) (H:Heap)
def qTs (body:Fr→Heap→XR):Nat→Fr→Heap→XR
  | 0,_,_=>.bad
  | n+1,fr,H=>match body fr H with
    | .ok .normal fr H=>qTs body n fr H
    | r=>r
def qSi (body:Fr→Heap→XR) (l:Nat):Nat→XR→XR
  | 0,_=>.bad
  | n+1,.ok (.goto l') fr H=>if l'=l then qSi body l n (body fr H) else .bad
  | _+1,r=>r
def qJf (call:qSr) (fn:FuncId→Bool) (k:Nat):AC→Fr→Heap→XR
  | .skip,fr,H=>.ok .normal fr H
  | .ops is,fr,H=>match xOps call fn is fr H with | some (fr,H)=>.ok .normal fr H | none=>.bad
  | .seq a b,fr,H=>match qJf call fn k a fr H with
    | .ok .normal fr H=>qJf call fn k b fr H
    | r=>r
  | .cond c a b,fr,H=>match ev fr c with
    | .bool true=>qJf call fn k a fr H
    | .bool false=>qJf call fn k b fr H
    | _=>.bad
  | .block id a,fr,H=>match qJf call fn k a fr H with
    | .ok (.exit i) fr H=>if i=id then .ok .normal fr H else .ok (.exit i) fr H
    | r=>r
  | .loop a,fr,H=>qTs (qJf call fn k a) k fr H
  | .exit id,fr,H=>.ok (.exit id) fr H
  | .label _,fr,H=>.ok .normal fr H
  | .goto l,fr,H=>.ok (.goto l) fr H
  | .scope l a r,fr,H=>qSi (qJf call fn k r) l k (qJf call fn k a fr H)
  | .ret,fr,H=>.ok .ret fr H
def qTt (tab:FuncId→Option AFn) (fn:FuncId→Bool) (k:Nat):Nat→qSr
  | 0,_,_,_=>none
  | n+1,f,args,H =>
    match tab f with
    | some af =>
      match (if args.length≤af.ntmps then qJf (qTt tab fn k n) fn k af.body (qBv args) H else .bad) with
      | .ok .ret fr H=>match qAu fr H af.results with | some vs=>some (retV vs,H) | none=>none
      | .ok .normal fr H=>match qAu fr H af.results with | some vs=>some (retV vs,H) | none=>none
      | _=>none
    | none=>none

def qTr (P:Program) (call:qSr):Prop:=∀ f args H v H',call f args H=some (v,H')→qCq P f args H fun v' H''=>v'=v∧H''=H'

section
variable {P : Program} {call : qSr} {fn : FuncId → Bool}
theorem qRa (hc:qTr P call) (hf:∀ f,fn f=true→qCg P f=true) {K:Fr→Heap→Prop}:∀ (is:List AIns) (fr:Fr) (H:Heap) (fr':Fr) (H':Heap),xOps call fn is fr H=some (fr',H')→K fr' H'→wOps P K is fr H
  | [],fr,H,fr',H',h,k=>by cases h; rw [wOps]; exact k
  | ⟨d,g,o,fl⟩ :: is,fr,H,fr',H',h,k=>by
    rw [wOps];simp only [xOps] at h
    split at h
    . rename_i hg
      rw [if_pos hg]
      split at h
      . rename_i v H1 ho
        split at h
        . rename_i hs
          have hs:=staysB_of hs;have ih:=qRa hc hf is _ _ _ _ h k;cases o with
          | q o =>
            simp only [xOp,Option.map_eq_some_iff] at ho;obtain ⟨v',hv,e⟩:=ho;cases e;simp only [wOp,hv]; exact ih
          | e o=>simp only [xOp] at ho; simp only [wOp,ho]; exact ⟨hs,ih⟩
          | call f args =>
            simp only [xOp] at ho; simp only [wOp];exact (hc _ _ _ _ _ ho).mono fun v' H'' ⟨e1,e2⟩=>by subst e1; subst e2; exact ⟨hs,ih⟩
          | callv g args =>
            simp only [xOp] at ho; simp only [wOp]
            split at ho
            . rename_i f first caps e
              split at ho
              . rename_i hfn
                rw [e];exact ⟨hf _ hfn,(hc _ _ _ _ _ ho).mono fun v' H'' ⟨e1,e2⟩=>by subst e1; subst e2; exact ⟨hs,ih⟩⟩
              . cases ho
            . cases ho
          | nilT g x =>
            simp only [xOp] at ho; simp only [wOp]
            split at ho
            . rename_i e1 e2
              cases ho;refine ⟨e1,fun b hb=>?_⟩
              cases b with
              | false=>exact ih
              | true=>rw [e2] at hb; cases hb
            . cases ho
          | st o=>simp only [xOp] at ho; cases ho
        . cases h
      . cases h
    . rename_i hg
      rw [if_neg (by simp [hg])]
      exact qRa hc hf is _ _ _ _ h k

theorem xLoop_ok {a:AC} {body:Fr→Heap→XR} (hb:∀ fr H e fr' H',body fr H=.ok e fr' H'→∀ Q:Exit→Fr→Heap→Prop,Q e fr' H'→awp P a Q fr H):∀ (n:Nat) (fr:Fr) (H:Heap) (e:Exit) (fr':Fr) (H':Heap),qTs body n fr H=.ok e fr' H' →
    ∀ Q:Exit→Fr→Heap→Prop,Q e fr' H'→rounds (awp P a) Q n fr H
  | 0,_,_,_,_,_,h,_,_=>by cases h
  | n+1,fr,H,e,fr',H',h,Q,k=>by
    simp only [qTs] at h
    split at h
    . rename_i fr1 H1 h1
      exact hb _ _ _ _ _ h1 _ (xLoop_ok hb n fr1 H1 e fr' H' h Q k)
    . rename_i hn
      refine hb _ _ _ _ _ h _ ?_;cases e<;>first | exact k | exact (hn _ _ h).elim
theorem xJump_ok {r:AC} {body:Fr→Heap→XR} {l:Nat} (hb:∀ fr H e fr' H',body fr H=.ok e fr' H'→∀ Q:Exit→Fr→Heap→Prop,Q e fr' H'→awp P r Q fr H):∀ (n:Nat) (e0:Exit) (fr0:Fr) (H0:Heap) (e:Exit) (fr':Fr) (H':Heap),qSi body l (n+1) (.ok e0 fr0 H0)=.ok e fr' H' →
    ∀ Q:Exit→Fr→Heap→Prop,Q e fr' H'→qGn l (qLd (awp P r) l Q n) Q e0 fr0 H0:=by
  intro n
  induction n with
  | zero =>
    intro e0 fr0 H0 e fr' H' h Q k;cases e0<;>simp only [qSi] at h
    case goto l'=>split at h<;>cases h
    all_goals (cases h; exact k)
  | succ n ih =>
    intro e0 fr0 H0 e fr' H' h Q k;cases e0
    case goto l' =>
      rw [qSi] at h
      split at h
      . rename_i hl
        refine ⟨hl,?_⟩;cases h1:body fr0 H0 with
        | bad=>rw [h1] at h; cases h
        | ok e1 fr1 H1 =>
          rw [h1] at h;exact hb _ _ _ _ _ h1 _ (ih _ _ _ _ _ _ h Q k)
      . cases h
    all_goals (simp only [qSi] at h; cases h; exact k)
theorem xCode_ok (hc:qTr P call) (hf:∀ f,fn f=true→qCg P f=true) (k:Nat):∀ (c:AC) (fr:Fr) (H:Heap) (e:Exit) (fr':Fr) (H':Heap),qJf call fn k c fr H=.ok e fr' H'→∀ Q:Exit→Fr→Heap→Prop,Q e fr' H'→awp P c Q fr H:=by
  intro c
  induction c with
  | skip=>intro fr H e fr' H' h Q q; cases h; exact q
  | ops is =>
    intro fr H e fr' H' h Q q;simp only [qJf] at h
    split at h
    . rename_i h1; cases h; exact qRa hc hf is _ _ _ _ h1 q
    . cases h
  | seq a b iha ihb =>
    intro fr H e fr' H' h Q q;simp only [qJf] at h
    split at h
    . rename_i fr1 H1 h1; exact iha _ _ _ _ _ h1 _ (ihb _ _ _ _ _ h Q q)
    . rename_i hn
      refine iha _ _ _ _ _ h _ ?_;cases e<;>first | exact q | exact (hn _ _ h).elim
  | cond c a b iha ihb =>
    intro fr H e fr' H' h Q q;simp only [qJf] at h;show qLh _ _ _ _ _
    split at h
    . rename_i hv; rw [hv]; exact iha _ _ _ _ _ h Q q
    . rename_i hv; rw [hv]; exact ihb _ _ _ _ _ h Q q
    . cases h
  | block id a iha =>
    intro fr H e fr' H' h Q q;simp only [qJf] at h
    split at h
    . rename_i i fr1 H1 h1
      refine iha _ _ _ _ _ h1 _ ?_;show (if i=id then Q .normal fr1 H1 else Q (.exit i) fr1 H1)
      split at h
      . rename_i hi; rw [if_pos hi]; cases h; exact q
      . rename_i hi; rw [if_neg hi]; cases h; exact q
    . rename_i hn
      refine iha _ _ _ _ _ h _ ?_;cases e<;>first | exact q | exact (hn _ _ _ h).elim
  | loop a iha =>
    intro fr H e fr' H' h Q q;exact ⟨k,xLoop_ok iha k fr H e fr' H' h Q q⟩
  | exit id=>intro fr H e fr' H' h Q q; cases h; exact q
  | label l=>intro fr H e fr' H' h Q q; cases h; exact q
  | goto l=>intro fr H e fr' H' h Q q; cases h; exact q
  | scope l a r iha ihr =>
    intro fr H e fr' H' h Q q;simp only [qJf] at h;cases h1:qJf call fn k a fr H with
    | bad=>rw [h1] at h; cases k<;>cases h
    | ok e1 fr1 H1 =>
      rw [h1] at h;cases k with
      | zero=>cases h
      | succ k=>exact ⟨k,iha _ _ _ _ _ h1 _ (xJump_ok ihr k e1 fr1 H1 e fr' H' h Q q)⟩
  | ret=>intro fr H e fr' H' h Q q; cases h; exact q

def qOb (P:Program) (tab:FuncId→Option AFn):Prop:=∀ f af,tab f=some af→∃ fn,P.funcs[f]?=some fn∧qCd P fn=some af
theorem qOi (hP:P.follows .mixedOrders=true) {tab:FuncId→Option AFn} (ht:qOb P tab) (hf:∀ f,fn f=true→qCg P f=true) (k:Nat):∀ n,qTr P (qTt tab fn k n)
  | 0=>by intro f args H v H' h; cases h
  | n+1=>by
    intro f args H v H' h;simp only [qTt] at h
    split at h
    . rename_i af ha
      obtain ⟨fn',h1,h2⟩:=ht f af ha
      split at h
      . rename_i fr1 H1 hx
        split at hx
        . rename_i hl
          split at h
          . rename_i vs hvs; cases h
            exact qCp hP h1 h2 hl (xCode_ok (qOi hP ht hf k n) hf k _ _ _ _ _ _ hx _ (by simp [qAs,hvs]))
          . cases h
        . cases hx
      . rename_i fr1 H1 hx
        split at hx
        . rename_i hl
          split at h
          . rename_i vs hvs; cases h
            exact qCp hP h1 h2 hl (xCode_ok (qOi hP ht hf k n) hf k _ _ _ _ _ _ hx _ (by simp [qAs,hvs]))
          . cases h
        . cases hx
      . cases h
    . cases h
end

def tnil:FuncId→Option AFn:=fun _=>none
def tput (f:FuncId) (af:AFn) (tab:FuncId→Option AFn):FuncId→Option AFn:=fun g=>match Nat.beq g f with | true=>some af | false=>tab g
theorem qOb.nil {P:Program}:qOb P tnil:=fun f af h=>by cases h
theorem qOb.put {P:Program} {tab:FuncId→Option AFn} (h:qOb P tab) {f:FuncId} {fn:Func} {af:AFn} (h1:P.funcs[f]?=some fn) (h2:qCd P fn=some af):qOb P (tput f af tab):=by
  intro g af' hg;unfold tput at hg
  split at hg
  . rename_i e; cases hg; rw [Nat.eq_of_beq_eq_true e]; exact ⟨fn,h1,h2⟩
  . exact h g af' hg
theorem qCq.aside {P:Program} {f:FuncId} {H:Heap} {K:Value→Heap→Prop} (h:qCq P f [] [] fun v _=>qEt v=true∧K v H):qCq P f [] H K:=by
  intro m w cargs hA hv;cases hv':cargs.toList with
  | cons c cs=>rw [hv'] at hv; cases hv
  | nil =>
  have h0:cargs=#[]:=by apply Array.ext'; simpa using hv'
  subst h0;refine (h _ w #[] (.empty hA.glob.tab) .nil).mono fun e w'=>?_
  rintro ⟨v,c,H',m',he,⟨hp,hk⟩,hvc,hA',hK⟩;obtain ⟨k1,k2⟩:=hA.aside hK;have h0:MExt (fun _ _=>none) m':=fun id ver L hL=>by simp at hL
  have h1:MExt (fun _ _=>none) m:=fun id ver L hL=>by simp at hL
  exact ⟨v,c,H,m,he,hk,(VRel.back (qKy _ hp) h0 hvc).mono h1,k1,k2⟩

end Am
