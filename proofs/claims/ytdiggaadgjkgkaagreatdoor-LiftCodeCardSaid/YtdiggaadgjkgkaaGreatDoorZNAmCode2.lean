/- The abstract machine, eighth part: code, and functions: what is shown of a compiled function holds of its calls.
   No condition: plain lemmas. -/
import Derived.Test.YtdiggaadgjkgkaaGreatDoorZNAmDraw
namespace Am
set_option linter.unusedSimpArgs false
set_option linter.unusedVariables false
open Go

inductive AC where
  | skip
  | ops (is:List AIns)
  | seq (a b:AC)
  | cond (c:Operand) (a b:AC)
  | block (id:Nat) (a:AC)
  | loop (a:AC)
  | exit (id:Nat)
  | label (l:Nat)
  | goto (l:Nat)
  | scope (l:Nat) (a rest:AC)
  | ret

def SeqK (f:Fr→Heap→Prop) (Q:Exit→Fr→Heap→Prop):Exit→Fr→Heap→Prop
  | .normal,fr,H=>f fr H
  | e,fr,H=>Q e fr H
def qEu (id:Nat) (Q:Exit→Fr→Heap→Prop):Exit→Fr→Heap→Prop
  | .exit id',fr,H=>if id'=id then Q .normal fr H else Q (.exit id') fr H
  | e,fr,H=>Q e fr H
def qGn (l:Nat) (J:Fr→Heap→Prop) (Q:Exit→Fr→Heap→Prop):Exit→Fr→Heap→Prop
  | .goto l',fr,H=>l'=l∧J fr H
  | e,fr,H=>Q e fr H
def rounds (body:(Exit→Fr→Heap→Prop)→Fr→Heap→Prop) (Q:Exit→Fr→Heap→Prop):Nat→Fr→Heap→Prop
  | 0,_,_=>False
  | n+1,fr,H=>body (SeqK (rounds body Q n) Q) fr H
def qLd (pass:(Exit→Fr→Heap→Prop)→Fr→Heap→Prop) (l:Nat) (Q:Exit→Fr→Heap→Prop):Nat→Fr→Heap→Prop
  | 0,_,_=>False
  | n+1,fr,H=>pass (qGn l (qLd pass l Q n) Q) fr H
def qLh (x y:Fr→Heap→Prop):Value→Fr→Heap→Prop
  | .bool t,fr,H=>if t=true then x fr H else y fr H
  | _,_,_=>False

def awp (P:Program):AC→(Exit→Fr→Heap→Prop)→Fr→Heap→Prop
  | .skip,Q,fr,H=>Q .normal fr H
  | .ops is,Q,fr,H=>wOps P (Q .normal) is fr H
  | .seq a b,Q,fr,H=>awp P a (SeqK (awp P b Q) Q) fr H
  | .cond c a b,Q,fr,H=>qLh (awp P a Q) (awp P b Q) (ev fr c) fr H
  | .block id a,Q,fr,H=>awp P a (qEu id Q) fr H
  | .loop a,Q,fr,H=>∃ n,rounds (awp P a) Q n fr H
  | .exit id,Q,fr,H=>Q (.exit id) fr H
  | .label _,Q,fr,H=>Q .normal fr H
  | .goto l,Q,fr,H=>Q (.goto l) fr H
  | .scope l a rest,Q,fr,H=>∃ n,awp P a (qGn l (qLd (awp P rest) l Q n) Q) fr H
  | .ret,Q,fr,H=>Q .ret fr H

/-! ### The translation -/
def qKd:AC→Nat→Option AC
  | .seq a b,l =>
    match qKd a l with
    | some rest=>some (.seq rest b)
    | none=>qKd b l
  | .label l',l=>if l' == l then some .skip else none
  | _,_=>none
def qLf:AC→Option Nat
  | .seq a b=>match qLf a with | some l=>some l | none=>qLf b
  | .label l=>some l
  | _=>none
def qRs (P:Program) (N:Nat) (ops:Array Oper) (draw:Bool):Option (List AIns) :=
  if draw then qUi P N ops else qOa P N ops ops.toList
def qDl (P:Program) (N:Nat):Code→Option AC
  | .skip=>some .skip
  | .region _ ops draw=>(qRs P N ops draw).map .ops
  | .seq a b=>match qDl P N a,qDl P N b with | some x,some y=>some (.seq x y) | _,_=>none
  | .cond c a b=>if okO c then match qDl P N a,qDl P N b with | some x,some y=>some (.cond c x y) | _,_=>none else none
  | .block id a=>(qDl P N a).map (.block id)
  | .loop a=>(qDl P N a).map .loop
  | .exit id=>some (.exit id)
  | .label l=>some (.label l)
  | .goto l=>some (.goto l)
  | .scope a =>
    match qDl P N a with
    | some x=>match qLf x with
      | some l=>(qKd x l).map (.scope l x)
      | none=>none
    | none=>none
  | .ret=>some .ret
  | _=>none

section
variable {P : Program} {N : Nat}

theorem find_of:∀ {c:Code} {x:AC},qDl P N c=some x→∀ {l:Nat} {y:AC},qKd x l=some y→∃ r,findLabel c l=some r∧qDl P N r=some y:=by
  intro c
  induction c with
  | seq a b iha ihb =>
    intro x hx l y hy;simp only [qDl] at hx
    split at hx
    . rename_i x1 x2 h1 h2
      cases hx;simp only [qKd] at hy
      split at hy
      . rename_i r hr
        cases hy;obtain ⟨r',k1,k2⟩:=iha h1 hr;exact ⟨.seq r' b,by simp [findLabel,k1],by simp [qDl,k2,h2]⟩
      . rename_i hr
        obtain ⟨r',k1,k2⟩:=ihb h2 hy;refine ⟨r',?_,k2⟩;have:findLabel a l=none:=by
          have key:∀ {c:Code} {x:AC},qDl P N c=some x→qKd x l=none→findLabel c l=none:=by
            intro c
            induction c with
            | seq a b iha ihb =>
              intro x hx hn;simp only [qDl] at hx
              split at hx
              . rename_i x1 x2 h1 h2
                cases hx;simp only [qKd] at hn
                split at hn
                . cases hn
                . rename_i hr; simp [findLabel,iha h1 hr,ihb h2 hn]
              . cases hx
            | label l'=>intro x hx hn; cases hx; simp only [qKd] at hn; split at hn<;>simp_all [findLabel]
            | _=>intro x _ _; rfl
          exact key h1 hr
        simp [findLabel,this,k1]
    . cases hx
  | label l' =>
    intro x hx l y hy;cases hx;simp only [qKd] at hy
    split at hy
    . rename_i he; cases hy; exact ⟨.skip,by simp [findLabel,he],rfl⟩
    . cases hy
  | region id ops draw =>
    intro x hx l y hy;simp only [qDl,Option.map_eq_some_iff] at hx;obtain ⟨is,_,rfl⟩:=hx;cases hy
  | cond c a b _ _ =>
    intro x hx l y hy;simp only [qDl] at hx
    split at hx
    . split at hx
      . cases hx; cases hy
      . cases hx
    . cases hx
  | block id a _=>intro x hx l y hy; simp only [qDl,Option.map_eq_some_iff] at hx; obtain ⟨z,_,rfl⟩:=hx; cases hy
  | loop a _=>intro x hx l y hy; simp only [qDl,Option.map_eq_some_iff] at hx; obtain ⟨z,_,rfl⟩:=hx; cases hy
  | scope a _ =>
    intro x hx l y hy;simp only [qDl] at hx
    split at hx
    . split at hx
      . simp only [Option.map_eq_some_iff] at hx; obtain ⟨z,_,rfl⟩:=hx; cases hy
      . cases hx
    . cases hx
  | rangeFunc f ps as b _ _=>intro x hx; cases hx
  | refuse s=>intro x hx; cases hx
  | _=>intro x hx l y hy; cases hx; cases hy

theorem seqPost {Q:Exit→Fr→Heap→Prop} {f:Fr→Heap→Prop} {m0:Mu} {H0:Heap} {w0:World} {next:Act→World→Prop}
    (hn:∀ fr H m a w,f fr H→ARel m H w→FRel m fr a→Kept m0 H0 w0 m H w→a.tmps.size=N→a.defers=[]→next a w) :
    ∀ e a w,qLt (SeqK f Q) m0 H0 w0 N e a w→Exit.then next (qLt Q m0 H0 w0 N) e a w:=by
  rintro e a w ⟨fr,H,m,hq,h1,h2,h3,h4,h5⟩;cases e with
  | normal=>exact hn fr H m a w hq h1 h2 h3 h4 h5
  | _=>exact ⟨fr,H,m,hq,h1,h2,h3,h4,h5⟩

theorem loop_sound {a:AC} {c:Code} {Q:Exit→Fr→Heap→Prop} {m0:Mu} {H0:Heap} {w0:World}
    (ih:∀ (Q:Exit→Fr→Heap→Prop) (fr:Fr) (H:Heap) (m:Mu) (a':Act) (w:World),awp P a Q fr H→ARel m H w→FRel m fr a'→Kept m0 H0 w0 m H w→a'.tmps.size=N→a'.defers=[]→c.wp P (qLt Q m0 H0 w0 N) a' w) :
    ∀ n fr H m a' w,rounds (awp P a) Q n fr H→ARel m H w→FRel m fr a'→Kept m0 H0 w0 m H w→a'.tmps.size=N→a'.defers=[]→Code.rounds P c (qLt Q m0 H0 w0 N) n a' w:=by
  intro n
  induction n with
  | zero=>intro fr H m a' w h; exact h.elim
  | succ n ihn =>
    intro fr H m a' w h hA hF hK hN hD;rw [rounds_succ];exact Code.wp_mono (seqPost fun fr H m a w hr h1 h2 h3 h4 h5=>ihn fr H m a w hr h1 h2 h3 h4 h5) (ih _ fr H m a' w h hA hF hK hN hD)

theorem findLabel_size:∀ {c:Code} {l:Nat} {r:Code},findLabel c l=some r→sizeOf r≤sizeOf c:=by
  intro c
  induction c with
  | seq a b iha ihb =>
    intro l r h;simp only [findLabel] at h
    split at h
    . rename_i r' hr; cases h; have:=iha hr; simp only [Code.seq.sizeOf_spec]; omega
    . have:=ihb h; simp only [Code.seq.sizeOf_spec]; omega
  | label l' =>
    intro l r h;simp only [findLabel] at h
    split at h
    . cases h; simp
    . cases h
  | _=>intro l r h; cases h

theorem code_sound {m0:Mu} {H0:Heap} {w0:World} (hP:P.follows .mixedOrders=true):∀ {c:Code} {x:AC},qDl P N c=some x→∀ (Q:Exit→Fr→Heap→Prop) (fr:Fr) (H:Heap) (m:Mu) (a:Act) (w:World),awp P x Q fr H→ARel m H w →
    FRel m fr a→Kept m0 H0 w0 m H w→a.tmps.size=N→a.defers=[]→c.wp P (qLt Q m0 H0 w0 N) a w:=by
  suffices hs:∀ n (c:Code),sizeOf c≤n→∀ {x:AC},qDl P N c=some x→∀ (Q:Exit→Fr→Heap→Prop) (fr:Fr) (H:Heap) (m:Mu) (a:Act) (w:World),awp P x Q fr H→ARel m H w →
      FRel m fr a→Kept m0 H0 w0 m H w→a.tmps.size=N→a.defers=[]→c.wp P (qLt Q m0 H0 w0 N) a w from fun {c} {x} hx=>hs _ c (Nat.le_refl _) hx
  intro n
  induction n with
  | zero=>intro c hn; cases c<;>simp at hn
  | succ n ih =>
    intro c hn x hx Q fr H m a w h hA hF hK hN hD;cases c with
    | skip=>cases hx; exact wp_skip ⟨fr,H,m,h,hA,hF,hK,hN,hD⟩
    | region id ops draw =>
      simp only [qDl,Option.map_eq_some_iff] at hx;obtain ⟨is,his,rfl⟩:=hx;unfold qRs at his;cases draw with
      | false =>
        simp only [Bool.false_eq_true,if_false] at his;exact wp_region_list (ops_sound his h hA hF hK hN hD)
      | true =>
        simp only [if_true] at his;exact draw_sound hP his id h hA hF hK hN hD
    | seq c1 c2 =>
      simp only [Code.seq.sizeOf_spec] at hn;simp only [qDl] at hx
      split at hx
      . rename_i x1 x2 h1 h2
        cases hx;exact wp_seq (Code.wp_mono (seqPost fun fr H m a w hr k1 k2 k3 k4 k5=>ih c2 (by omega) h2 Q fr H m a w hr k1 k2 k3 k4 k5) (ih c1 (by omega) h1 _ fr H m a w h hA hF hK hN hD))
      . cases hx
    | cond o c1 c2 =>
      simp only [Code.cond.sizeOf_spec] at hn;simp only [qDl] at hx
      split at hx
      . rename_i ho
        split at hx
        . rename_i x1 x2 h1 h2
          cases hx;simp only [awp] at h;have hr:=hF.ev ho;cases hv:ev fr o<;>rw [hv] at hr h<;>simp only [qLh] at h;rename_i t;have:=qFn hr;cases t with
          | true=>exact wp_cond_true this (ih c1 (by omega) h1 Q fr H m a w (by simpa using h) hA hF hK hN hD)
          | false=>exact wp_cond_false this (ih c2 (by omega) h2 Q fr H m a w (by simpa using h) hA hF hK hN hD)
        . cases hx
      . cases hx
    | block id c1 =>
      simp only [Code.block.sizeOf_spec] at hn;simp only [qDl,Option.map_eq_some_iff] at hx;obtain ⟨x1,h1,rfl⟩:=hx;refine wp_block (Code.wp_mono ?_ (ih c1 (by omega) h1 _ fr H m a w h hA hF hK hN hD))
      rintro e a w ⟨fr,H,m,hq,k1,k2,k3,k4,k5⟩;cases e with
      | exit id' =>
        simp only [qEu] at hq;simp only [Exit.inBlock]
        split at hq
        . rename_i he; rw [if_pos he]; exact ⟨fr,H,m,hq,k1,k2,k3,k4,k5⟩
        . rename_i he; rw [if_neg he]; exact ⟨fr,H,m,hq,k1,k2,k3,k4,k5⟩
      | _=>exact ⟨fr,H,m,hq,k1,k2,k3,k4,k5⟩
    | loop c1 =>
      simp only [Code.loop.sizeOf_spec] at hn;simp only [qDl,Option.map_eq_some_iff] at hx;obtain ⟨x1,h1,rfl⟩:=hx;obtain ⟨k,hk⟩:=h;exact wp_loop_rounds k (loop_sound (fun Q fr H m a w g1 g2 g3 g4 g5 g6=>ih c1 (by omega) h1 Q fr H m a w g1 g2 g3 g4 g5 g6) k fr H m a w hk hA hF hK hN hD)
    | rangeFunc f ps as b=>cases hx
    | exit id=>cases hx; exact wp_exit ⟨fr,H,m,h,hA,hF,hK,hN,hD⟩
    | scope c1 =>
      simp only [Code.scope.sizeOf_spec] at hn;simp only [qDl] at hx
      split at hx
      . rename_i x1 h1
        split at hx
        . rename_i l hl
          simp only [Option.map_eq_some_iff] at hx;obtain ⟨y,hy,rfl⟩:=hx;obtain ⟨r,hr,hcr⟩:=find_of h1 hy;have hsr:=findLabel_size hr;obtain ⟨k,hk⟩:=h;intro b kk cs;have hg:gotoIn l (.inScope c1 :: kk)=some (.code r :: .inScope c1 :: kk):=by simp [gotoIn,hr]
          have key:∀ (k:Nat) (fr:Fr) (H:Heap) (m:Mu) (a:Act) (w:World),qLd (awp P y) l Q k fr H→ARel m H w→FRel m fr a→Kept m0 H0 w0 m H w→a.tmps.size=N→a.defers=[] →
              ∃ e a' w',qLt Q m0 H0 w0 N e a' w'∧Arrives P (lone (b.at a (.code r :: .inScope c1 :: kk)) cs w) b kk cs e a' w':=by
            intro k
            induction k with
            | zero=>intro fr H m a w h; exact h.elim
            | succ k ihk =>
              intro fr H m a w h g1 g2 g3 g4 g5;obtain ⟨e,a₁,w₁,hq,harr⟩:=ih r (by omega) hcr _ fr H m a w h g1 g2 g3 g4 g5 b (.inScope c1 :: kk) cs
              obtain ⟨fr1,H1,m1,hq,z1,z2,z3,z4,z5⟩:=hq;cases e with
              | normal=>exact ⟨.normal,a₁,w₁,⟨fr1,H1,m1,hq,z1,z2,z3,z4,z5⟩,Steps.trans harr (.one step_inScope)⟩
              | exit id=>exact ⟨.exit id,a₁,w₁,⟨fr1,H1,m1,hq,z1,z2,z3,z4,z5⟩,fun k' hk=>harr k' (by simp [exitTo,hk])⟩
              | goto l' =>
                obtain ⟨rfl,hJ⟩:=hq;obtain ⟨e₂,a₂,w₂,hq₂,harr₂⟩:=ihk fr1 H1 m1 a₁ w₁ hJ z1 z2 z3 z4 z5;exact ⟨e₂,a₂,w₂,hq₂,.of_steps (harr _ hg) harr₂⟩
              | ret=>exact ⟨_,a₁,w₁,⟨fr1,H1,m1,hq,z1,z2,z3,z4,z5⟩,harr⟩
              | panic ch=>exact ⟨_,a₁,w₁,⟨fr1,H1,m1,hq,z1,z2,z3,z4,z5⟩,harr⟩
              | outgrown=>exact ⟨_,a₁,w₁,⟨fr1,H1,m1,hq,z1,z2,z3,z4,z5⟩,harr⟩
          obtain ⟨e,a₁,w₁,hq,harr⟩:=ih c1 (by omega) h1 _ fr H m a w hk hA hF hK hN hD b (.inScope c1 :: kk) cs
          obtain ⟨fr1,H1,m1,hq,z1,z2,z3,z4,z5⟩:=hq;cases e with
          | normal=>exact ⟨.normal,a₁,w₁,⟨fr1,H1,m1,hq,z1,z2,z3,z4,z5⟩,.head step_scope (Steps.trans harr (.one step_inScope))⟩
          | exit id=>exact ⟨.exit id,a₁,w₁,⟨fr1,H1,m1,hq,z1,z2,z3,z4,z5⟩,fun k' hk=>.head step_scope (harr k' (by simp [exitTo,hk]))⟩
          | goto l' =>
            obtain ⟨rfl,hJ⟩:=hq;obtain ⟨e₂,a₂,w₂,hq₂,harr₂⟩:=key k fr1 H1 m1 a₁ w₁ hJ z1 z2 z3 z4 z5;exact ⟨e₂,a₂,w₂,hq₂,.of_steps (.head step_scope (harr _ hg)) harr₂⟩
          | ret=>exact ⟨_,a₁,w₁,⟨fr1,H1,m1,hq,z1,z2,z3,z4,z5⟩,.of_steps (.one step_scope) harr⟩
          | panic ch=>exact ⟨_,a₁,w₁,⟨fr1,H1,m1,hq,z1,z2,z3,z4,z5⟩,.of_steps (.one step_scope) harr⟩
          | outgrown=>exact ⟨_,a₁,w₁,⟨fr1,H1,m1,hq,z1,z2,z3,z4,z5⟩,.of_steps (.one step_scope) harr⟩
        . cases hx
      . cases hx
    | label l=>cases hx; exact wp_label ⟨fr,H,m,h,hA,hF,hK,hN,hD⟩
    | goto l=>cases hx; exact wp_goto ⟨fr,H,m,h,hA,hF,hK,hN,hD⟩
    | ret=>cases hx; exact wp_ret ⟨fr,H,m,h,hA,hF,hK,hN,hD⟩
    | refuse s=>cases hx
end

/-! ### Functions -/
inductive RV where
  | tmp (t:Nat)
  | cell (t:Nat)
  | cells (t n:Nat)

structure AFn where
  body:AC
  results:List RV
  ntmps:Nat

def cResult (P:Program):ResultVar→Option RV
  | .tmp t=>some (.tmp t)
  | .cell a t=>match aggN P t with | some none=>some (.cell a) | some (some n)=>some (.cells a n) | none=>none
def qJc (P:Program):List ResultVar→Option (List RV)
  | []=>some []
  | r :: rs=>match cResult P r,qJc P rs with | some x,some xs=>some (x :: xs) | _,_=>none
def qCd (P:Program) (fn:Func):Option AFn :=
  match fn.body with
  | some c=>match qDl P fn.ntmps c,qJc P fn.results.toList with
    | some b,some r=>some ⟨b,r,fn.ntmps⟩
    | _,_=>none
  | none=>none

def resV (fr:Fr) (H:Heap):RV→Option Value
  | .tmp t=>some (fr t)
  | .cell t=>ldV H (fr t)
  | .cells t n=>ldA H n (fr t)
def qAu (fr:Fr) (H:Heap):List RV→Option (List Value)
  | []=>some []
  | r :: rs=>match resV fr H r,qAu fr H rs with | some v,some vs=>some (v :: vs) | _,_=>none
def retV:List Value→Value
  | [v]=>v
  | vs=>.tuple vs.toArray
def qAs (rs:List RV) (K:Value→Heap→Prop):Exit→Fr→Heap→Prop
  | .normal,fr,H=>match qAu fr H rs with | some vs=>K (retV vs) H | none=>False
  | .ret,fr,H=>match qAu fr H rs with | some vs=>K (retV vs) H | none=>False
  | _,_,_=>False

def qBv (args:List Value):Fr:=fun t=>(args[t]?).getD (.tuple #[])

section
variable {P : Program} {m : Mu} {H : Heap} {w : World} {fr : Fr} {a : Act}

def rsem (a:Act):ResultVar→Sem Value
  | .tmp t=>pure (a.tmps.getD t undef)
  | .cell p t=>do loadVar t (← asAddr (a.tmps.getD p undef))

theorem qMo (hA:ARel m H w) (hF:FRel m fr a):∀ {l:List ResultVar} {rs:List RV} {vs:List Value},qJc P l=some rs→qAu fr H rs=some vs →
    ∃ cs,(l.mapM (rsem a)).run P w=.ok cs w∧VRels m vs cs
  | [],rs,vs,hc,hr=>by cases hc; cases hr; exact ⟨[],by simp,.nil⟩
  | x :: l,rs,vs,hc,hr=>by
    simp only [qJc] at hc
    split at hc
    . rename_i r rs' h1 h2
      cases hc;simp only [qAu] at hr
      split at hr
      . rename_i v vs' hv hvs
        cases hr;obtain ⟨cs,k1,k2⟩:=qMo hA hF h2 hvs;have one:∃ c,(rsem a x).run P w=.ok c w∧VRel m v c:=by
          cases x with
          | tmp t=>cases h1; cases hv; exact ⟨_,rfl,hF t⟩
          | cell p t =>
            simp only [cResult] at h1
            split at h1
            . rename_i ht
              cases h1;obtain ⟨c,q1,q2⟩:=s_load (P:=P) hA (hF p) hv ht;refine ⟨c,?_,q2⟩;have hp:=hF p;simp only [resV,ldV] at hv
              split at hv
              . rename_i id off ver e
                rw [e] at hp;obtain ⟨ver',L,_,_,hc'⟩:=qIa hp;rw [hc'] at q1;show (do loadVar t (← asAddr (a.tmps.getD p undef)):Sem Value).run P w=_;rw [hc']
                simpa [Instr.loadAt,Instr.sureAddr,asAddr] using q1
              . cases hv
            . rename_i n ht
              cases h1;obtain ⟨c,q1,q2⟩:=s_loadA (P:=P) hA (hF p) hv ht;refine ⟨c,?_,q2⟩;have hp:=hF p;simp only [resV,ldA] at hv
              split at hv
              . rename_i id off ver e
                rw [e] at hp;obtain ⟨ver',L,_,_,hc'⟩:=qIa hp;rw [hc'] at q1;show (do loadVar t (← asAddr (a.tmps.getD p undef)):Sem Value).run P w=_;rw [hc']
                simpa [Instr.loadAt,Instr.sureAddr,asAddr] using q1
              . cases hv
            . cases h1
        obtain ⟨c,q1,q2⟩:=one;refine ⟨c :: cs,?_,.cons q2 k2⟩;simp only [List.mapM_cons,Sem.run_bind,q1,Result.andThen_ok,k1,Sem.run_pure]
      . cases hr
    . cases hc

theorem qCp {f:FuncId} {fn:Func} {af:AFn} (hP:P.follows .mixedOrders=true) (hf:P.funcs[f]?=some fn) (hc:qCd P fn=some af) {args:List Value} (hl:args.length≤af.ntmps) {H:Heap} {K:Value→Heap→Prop}
    (h:awp P af.body (qAs af.results K) (qBv args) H):qCq P f args H K:=by
  intro m w cargs hA hv;unfold qCd at hc
  split at hc
  . rename_i c hb
    split at hc
    . rename_i b r h1 h2
      cases hc;simp only at h hl;have hlen:=hv.length;refine calls_of_wp hf hb (Code.wp_mono ?_ (code_sound hP h1 _ (qBv args) H m { tmps:=cargs++Array.replicate (fn.ntmps - cargs.size) undef,defers:=[] } w h hA ?_ (.refl m H w) ?_ rfl))
      . rintro e a w' ⟨fr,H',m',hq,k1,k2,k3,k4,k5⟩
        have fin:(∃ vs,qAu fr H' r=some vs∧K (retV vs) H')→a.defers=[]∧∃ v,(results fn a.tmps).run P w'=.ok v w'∧(∃ v0 c H'' m'',Ending.returned v=.returned c∧K v0 H''∧VRel m'' v0 c∧ARel m'' H'' w'∧Kept m H w m'' H'' w'):=by
          rintro ⟨vs,e1,e2⟩;obtain ⟨cs,q1,q2⟩:=qMo (P:=P) k1 k2 h2 e1;refine ⟨k5,(if h:cs.length=1 then cs[0] else .tuple cs.toArray),?_,?_⟩
          . have er:results fn a.tmps=(do let vs ← fn.results.mapM (rsem a); pure (if h:vs.size=1 then vs[0] else .tuple vs)):=by
              unfold results
              congr 1
            rw [er,Array.mapM_eq_mapM_toList];simp only [Sem.run_bind,Sem.run_map];rw [q1];simp
          . refine ⟨retV vs,_,H',m',rfl,e2,?_,k1,k3⟩
            cases q2 with
            | nil=>exact .undef m'
            | cons hx hxs =>
              cases hxs with
              | nil=>exact hx
              | cons hy hys =>
                simp only [retV];have hl2:=hys.length;exact .tup (by simp [hl2]) fun i x y hi hj=>by
                  obtain ⟨c,z1,z2⟩:=(VRels.cons hx (.cons hy hys)).get i x (by simpa using hi)
                  have:c=y:=by
                    have hj':=hj;simp at hj';rw [z1] at hj'; exact Option.some.inj hj'
                  exact this ▸ z2
        cases e with
        | normal=>simp only [qAs] at hq; split at hq; exact fin ⟨_,by assumption,hq⟩; exact hq.elim
        | ret=>simp only [qAs] at hq; split at hq; exact fin ⟨_,by assumption,hq⟩; exact hq.elim
        | _=>exact hq.elim
      . intro t
        simp only [qBv]
        by_cases ht:t < args.length
        . have hvt:=hv.get t args[t] (List.getElem?_eq_getElem ht)
          obtain ⟨c,z1,z2⟩:=hvt;rw [List.getElem?_eq_getElem ht];have:(cargs++Array.replicate (fn.ntmps - cargs.size) undef).getD t undef=c:=by
            rw [Array.getD_eq_getD_getElem?,Array.getElem?_append_left (by simp at hlen; omega)]
            have:cargs[t]?=some c:=by simpa using z1
            rw [this]; rfl
          rw [this]; exact z2
        . rw [List.getElem?_eq_none (by omega)]
          have:(cargs++Array.replicate (fn.ntmps - cargs.size) undef).getD t undef=undef:=by
            rw [Array.getD_eq_getD_getElem?,Array.getElem?_append_right (by simp at hlen; omega),Array.getElem?_replicate]
            split<;>rfl
          rw [this]; exact .undef m
      . simp; simp at hlen; omega
    . cases hc
  . cases hc
end
end Am
