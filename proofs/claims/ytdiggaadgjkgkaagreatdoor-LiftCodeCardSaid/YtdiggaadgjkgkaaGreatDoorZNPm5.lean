/- The pure machine: laws by which code is walked.
   No condition: plain lemmas. -/

import Derived.Test.YtdiggaadgjkgkaaGreatDoorZNPm4
namespace Pm
set_option linter.unusedSimpArgs false
set_option linter.unusedVariables false
open Go Am

/-! ### More is shown of more -/
theorem qEs {P:Program} {K:Fr→Heap→Prop} {is:List AIns} {d:Option Nat} {fl:List QOp} {o:QOp} {fr:Fr} {h:Heap} (hm:¬ ∃ e b,o=.fn (.yield e) [.tmp b]) :
    pOp P K is d fl (.q o) fr h=(match pqop o fr h with | some v=>pOps P K is (updO fr d v) h | none=>False):=by
  rw [pOp]
  . rfl
  . intro e b x
    exact hm ⟨e,b,x⟩
mutual
theorem qDt {P:Program} {K K':Fr→Heap→Prop} (h:∀ fr H,K fr H→K' fr H):∀ (is:List AIns) (fr:Fr) (H:Heap),pOps P K is fr H→pOps P K' is fr H
  | [],fr,H,x=>by rw [pOps] at x ⊢; exact h fr H x
  | ⟨d,g,o,fl⟩ :: is,fr,H,x=>by
    rw [pOps] at x ⊢
    split at x
    . rename_i hg; rw [if_pos hg]; exact pOp_mono h is d fl o fr H x
    . rename_i hg; rw [if_neg hg]; exact qDt h is _ _ x
theorem pOp_mono {P:Program} {K K':Fr→Heap→Prop} (h:∀ fr H,K fr H→K' fr H):∀ (is:List AIns) (d:Option Nat) (fl:List QOp) (o:AOp) (fr:Fr) (H:Heap),pOp P K is d fl o fr H→pOp P K' is d fl o fr H
  | is,d,fl,.q o,fr,H,x=>by
    by_cases hm:∃ e b,o=.fn (.yield e) [.tmp b]
    . obtain ⟨e,b,rfl⟩:=hm
      simp only [pOp] at x ⊢
      split at x
      . exact qDt h is _ _ x
      . exact x.elim
    . rw [qEs hm] at x ⊢
      split at x
      . exact qDt h is _ _ x
      . exact x.elim
  | is,d,fl,.e o,fr,H,x=>by
    simp only [pOp] at x ⊢
    split at x
    . exact ⟨x.1,qDt h is _ _ x.2⟩
    . exact x.elim
  | is,d,fl,.call f args,fr,H,x=>by
    simp only [pOp] at x ⊢;exact x.mono fun v H' y=>⟨y.1,qDt h is _ _ y.2⟩
  | is,d,fl,.callv g args,fr,H,x=>by
    simp only [pOp] at x ⊢
    split at x
    . exact ⟨x.1,x.2.mono fun v H' y=>⟨y.1,qDt h is _ _ y.2⟩⟩
    . exact x.elim
  | is,d,fl,.st (.call f args),fr,H,x=>by
    simp only [pOp] at x ⊢;rcases x with ⟨h1,x⟩ | ⟨h1,x⟩
    . exact .inl ⟨h1,fun m H vals a b=>(x m H vals a b).mono fun _ _ ⟨e,p,h',m',q,r⟩=>⟨e,p,h',m',qDt h is _ _ q,r⟩⟩
    . exact .inr ⟨h1,x.mono fun v H' y=>qDt h is _ _ y⟩
  | is,d,fl,.st (.e o),fr,H,x=>by
    simp only [pOp] at x ⊢
    split at x
    . exact ⟨x.1,qDt h is _ _ x.2⟩
    . exact x.elim
  | is,d,fl,.st (.q _),fr,H,x=>by
    simp only [pOp] at x ⊢;exact x.mono fun h' y=>qDt h is _ _ y
  | is,d,fl,.st (.callv _ _),fr,H,x=>by simp only [pOp] at x
  | is,d,fl,.st (.nilT _ _),fr,H,x=>by simp only [pOp] at x
  | is,d,fl,.st (.st _),fr,H,x=>by simp only [pOp] at x
  | is,d,fl,.nilT g y,fr,H,x=>by
    simp only [pOp] at x ⊢;exact ⟨x.1,fun b hb=>qDt h is _ _ (x.2 b hb)⟩
end
theorem qDm {P:Program}:∀ (c:AC) (Q Q':Exit→Fr→Heap→Prop),(∀ e fr H,Q e fr H→Q' e fr H)→∀ fr H,pwp P c Q fr H→pwp P c Q' fr H
  | .skip,_,_,h,_,_,x=>h _ _ _ x
  | .ops is,_,_,h,fr,H,x=>qDt (h .normal) is fr H x
  | .seq a b,_,_,h,fr,H,x=>qDm a _ _ (qFh (qDm b _ _ h) h) fr H x
  | .cond c a b,_,_,h,fr,H,x=>condK_mono (qDm a _ _ h) (qDm b _ _ h) _ fr H x
  | .block id a,_,_,h,fr,H,x=>qDm a _ _ (BlockK_mono h) fr H x
  | .loop a,_,_,h,fr,H,⟨n,x⟩=>⟨n,qJl (fun _ _=>qDm a _ _) h n fr H x⟩
  | .exit _,_,_,h,_,_,x=>h _ _ _ x
  | .label _,_,_,h,_,_,x=>h _ _ _ x
  | .goto _,_,_,h,_,_,x=>h _ _ _ x
  | .scope l a r,_,_,h,fr,H,⟨n,x⟩=>⟨n,qDm a _ _ (qEn (qLc (fun _ _=>qDm r _ _) h n) h) fr H x⟩
  | .ret,_,_,h,_,_,x=>h _ _ _ x

theorem loop_rule {P:Program} {a:AC} {Q:Exit→Fr→Heap→Prop} (I:Nat→Fr→Heap→Prop) (step:∀ n fr H,I n fr H→pwp P a (SeqK (fun fr H=>∃ k,k < n∧I k fr H) Q) fr H) {n:Nat} {fr:Fr} {H:Heap} (h:I n fr H) :
    pwp P (.loop a) Q fr H:=by
  have key:∀ (n:Nat),∀ fr H,I n fr H→rounds (pwp P a) Q (n+1) fr H:=by
    intro n
    induction n using Nat.strongRecOn with
    | ind n ih =>
      intro fr H h;refine qDm a _ _ (qFh ?_ fun _ _ _ x=>x) fr H (step n fr H h)
      rintro fr H ⟨k,hk,hI⟩;exact qJk (fun _ _=>qDm a _ _) (k+1) n fr H (by omega) (ih k hk fr H hI)
  exact ⟨n+1,key n fr H h⟩

theorem scope_rule {P:Program} {l:Nat} {a r:AC} {Q:Exit→Fr→Heap→Prop} (I:Nat→Fr→Heap→Prop) (step:∀ n fr H,I n fr H→pwp P r (qGn l (fun fr H=>∃ k,k < n∧I k fr H) Q) fr H) {fr:Fr} {H:Heap} {b:Nat}
    (h:pwp P a (qGn l (fun fr H=>∃ k,k < b∧I k fr H) Q) fr H):pwp P (.scope l a r) Q fr H:=by
  have key:∀ (n:Nat),∀ fr H,I n fr H→qLd (pwp P r) l Q (n+1) fr H:=by
    intro n
    induction n using Nat.strongRecOn with
    | ind n ih =>
      intro fr H h;refine qDm r _ _ (qEn ?_ fun _ _ _ x=>x) fr H (step n fr H h)
      rintro fr H ⟨k,hk,hI⟩;exact qGw (fun _ _=>qDm r _ _) (k+1) n fr H (by omega) (ih k hk fr H hI)
  refine ⟨b,qDm a _ _ (qEn ?_ fun _ _ _ x=>x) fr H h⟩
  rintro fr H ⟨k,hk,hI⟩;exact qGw (fun _ _=>qDm r _ _) (k+1) b fr H (by omega) (key k fr H hI)

/-! ### Forms that are walked by rewriting -/
def qK (P:Program) (K:Fr→Heap→Prop) (is:List AIns) (d:Option Nat) (fr:Fr) (H:Heap) (o:Option Value):Prop:=match o with | some v=>pOps P K is (updO fr d v) H | none=>False
def eK (P:Program) (K:Fr→Heap→Prop) (is:List AIns) (d:Option Nat) (fl:List QOp) (fr:Fr) (H:Heap) (o:Option (Value×Heap)):Prop:=match o with | some x=>qKz fr H x.2 fl∧pOps P K is (updO fr d x.1) x.2 | none=>False
def zK (P:Program) (K:Fr→Heap→Prop) (is:List AIns) (b:Nat) (fr:Fr) (o:Option (Value×Heap)):Prop:=match o with | some x=>pOps P K is (upd fr b x.1) x.2 | none=>False
def callK (P:Program) (K:Fr→Heap→Prop) (is:List AIns) (d:Option Nat) (fl:List QOp) (fr:Fr) (H:Heap) (v:Value) (H':Heap):Prop:=qKz fr H H' fl∧pOps P K is (updO fr d v) H'
def cK (P:Program) (a b:AC) (Q:Exit→Fr→Heap→Prop) (fr:Fr) (H:Heap) (v:Value):Prop:=match v with | .bool t=>if t=true then pwp P a Q fr H else pwp P b Q fr H | _=>False
def gK (P:Program) (K:Fr→Heap→Prop) (w:Bool) (i:AIns) (is:List AIns) (fr:Fr) (H:Heap) (v:Value):Prop :=
  if (match v with | .bool c=>c == w | _=>false)=true then pOps P K (i :: is) fr H else pOps P K is (updO fr i.dst (.tuple #[])) H
section
variable {P : Program} {K : Fr → Heap → Prop} {is : List AIns} {d : Option Nat} {fl : List QOp} {fr fr' : Fr} {H H' : Heap} {a b : AC} {Q : Exit → Fr → Heap → Prop}
@[congr] theorem qK_congr {o o':Option Value} (h:o=o'):qK P K is d fr H o=qK P K is d fr H o':=by rw [h]
@[congr] theorem eK_congr {o o':Option (Value×Heap)} (h:o=o'):eK P K is d fl fr H o=eK P K is d fl fr H o':=by rw [h]
@[congr] theorem zK_congr {b:Nat} {o o':Option (Value×Heap)} (h:o=o'):zK P K is b fr o=zK P K is b fr o':=by rw [h]
@[congr] theorem callK_congr {v v':Value} {H0:Heap} (h:v=v') (k:H=H'):callK P K is d fl fr H0 v H=callK P K is d fl fr H0 v' H':=by rw [h,k]
@[congr] theorem SeqK_congr {f:Fr→Heap→Prop} {e e':Exit} (h:e=e') (k:fr=fr') (l:H=H'):SeqK f Q e fr H=SeqK f Q e' fr' H':=by rw [h,k,l]
@[congr] theorem BlockK_congr {i:Nat} {e e':Exit} (h:e=e') (k:fr=fr') (l:H=H'):qEu i Q e fr H=qEu i Q e' fr' H':=by rw [h,k,l]
@[congr] theorem JumpK_congr {i:Nat} {f:Fr→Heap→Prop} {e e':Exit} (h:e=e') (k:fr=fr') (l:H=H'):qGn i f Q e fr H=qGn i f Q e' fr' H':=by rw [h,k,l]
@[congr] theorem cK_congr {v v':Value} (h:v=v'):cK P a b Q fr H v=cK P a b Q fr H v':=by rw [h]
@[congr] theorem gK_congr {w:Bool} {i:AIns} {v v':Value} (h:v=v'):gK P K w i is fr H v=gK P K w i is fr H v':=by rw [h]
@[simp] theorem qK_some {v:Value}:qK P K is d fr H (some v)=pOps P K is (updO fr d v) H:=Eq.trans rfl rfl
@[simp] theorem eK_some {v:Value}:eK P K is d fl fr H (some (v,H'))=(qKz fr H H' fl∧pOps P K is (updO fr d v) H'):=Eq.trans rfl rfl
@[simp] theorem zK_some {b:Nat} {v:Value}:zK P K is b fr (some (v,H'))=pOps P K is (upd fr b v) H':=Eq.trans rfl rfl
@[simp] theorem cK_true:cK P a b Q fr H (.bool true)=pwp P a Q fr H:=by simp only [cK,if_true]
@[simp] theorem cK_false:cK P a b Q fr H (.bool false)=pwp P b Q fr H:=by simp only [cK,Bool.false_eq_true,if_false]
@[simp] theorem gK_tt {i:AIns}:gK P K true i is fr H (.bool true)=pOps P K (i :: is) fr H:=if_pos rfl
@[simp] theorem gK_ff {i:AIns}:gK P K false i is fr H (.bool false)=pOps P K (i :: is) fr H:=if_pos rfl
@[simp] theorem gK_tf {i:AIns}:gK P K true i is fr H (.bool false)=pOps P K is (updO fr i.dst (.tuple #[])) H:=if_neg (by simp)
@[simp] theorem gK_ft {i:AIns}:gK P K false i is fr H (.bool true)=pOps P K is (updO fr i.dst (.tuple #[])) H:=if_neg (by simp)
@[simp] theorem gK_u {w:Bool} {i:AIns} {vs:Array Value}:gK P K w i is fr H (.tuple vs)=pOps P K is (updO fr i.dst (.tuple #[])) H:=if_neg (by simp)
theorem callK_def {v:Value}:callK P K is d fl fr H v H'=(qKz fr H H' fl∧pOps P K is (updO fr d v) H'):=Eq.trans rfl rfl
@[simp] theorem pStay_nil:qKz fr H H' []=True:=Eq.trans rfl rfl
@[simp] theorem pStay_cons {q:QOp} {qs:List QOp}:qKz fr H H' (q :: qs)=(okQ q=true∧(∃ v,qNy v=true∧pqop q fr H=some v∧pqop q fr H'=some v)∧qKz fr H H' qs):=Eq.trans rfl rfl
theorem eK_optK {o:Option (Value×Heap)}:eK P K is d fl fr H o=optK o fun x=>qKz fr H x.2 fl∧pOps P K is (updO fr d x.1) x.2:=by cases o<;>rfl
@[congr] theorem pwp_congr {c:AC} (h:fr=fr') (k:H=H'):pwp P c Q fr H=pwp P c Q fr' H':=by rw [h,k]
@[congr] theorem pOps_congr (h:fr=fr') (k:H=H'):pOps P K is fr H=pOps P K is fr' H':=by rw [h,k]
@[simp] theorem pwp_skip:pwp P .skip Q fr H=Q .normal fr H:=Eq.trans rfl rfl
@[simp] theorem pwp_ops:pwp P (.ops is) Q fr H=pOps P (Q .normal) is fr H:=Eq.trans rfl rfl
@[simp] theorem qAt:pwp P (.seq a b) Q fr H=pwp P a (SeqK (pwp P b Q) Q) fr H:=Eq.trans rfl rfl
@[simp] theorem pwp_cond {c:Operand}:pwp P (.cond c a b) Q fr H=cK P a b Q fr H (ev fr c):=by
  simp only [pwp];cases ev fr c<;>rfl
@[simp] theorem pwp_block {id:Nat}:pwp P (.block id a) Q fr H=pwp P a (qEu id Q) fr H:=Eq.trans rfl rfl
@[simp] theorem pwp_exit {i:Nat}:pwp P (.exit i) Q fr H=Q (.exit i) fr H:=Eq.trans rfl rfl
@[simp] theorem pwp_label {i:Nat}:pwp P (.label i) Q fr H=Q .normal fr H:=Eq.trans rfl rfl
@[simp] theorem pwp_goto {i:Nat}:pwp P (.goto i) Q fr H=Q (.goto i) fr H:=Eq.trans rfl rfl
@[simp] theorem pwp_ret:pwp P .ret Q fr H=Q .ret fr H:=Eq.trans rfl rfl
@[simp] theorem pOps_nil:pOps P K [] fr H=K fr H:=by rw [pOps]
@[simp] theorem pOps_g {t:Nat} {w:Bool} {o:AOp}:pOps P K (⟨d,some (t,w),o,fl⟩ :: is) fr H=gK P K w ⟨d,none,o,fl⟩ is fr H (fr t):=by
  have e:qCe fr (some (t,w))=(match fr t with | .bool c=>c == w | _=>false):=by
    simp only [qCe]; cases fr t<;>rfl
  unfold gK;rw [pOps,e]
  generalize (match fr t with | .bool c=>c == w | _=>false)=x
  cases x
  . rfl
  . rw [if_pos rfl,if_pos rfl,pOps,if_pos (show qCe fr none=true from rfl)]
@[simp] theorem pOps_call {f:FuncId} {args:List Operand}:pOps P K (⟨d,none,.call f args,fl⟩ :: is) fr H=qBl P f (args.map (ev fr)) H (callK P K is d fl fr H):=by
  rw [pOps,if_pos (show qCe fr none=true from rfl),pOp]; rfl
@[congr] theorem PCall_congr {f:FuncId} {args args':List Value} {K:Value→Heap→Prop} (h:args=args') (k:H=H'):qBl P f args H K=qBl P f args' H' K:=by rw [h,k]
theorem qDn {g:Operand} {args:List Operand} {f:FuncId} {first caps:Array Value} (hg:ev fr g=.func (.func f) first caps) (hc:qCg P f=true):pOps P K (⟨d,none,.callv g args,fl⟩ :: is) fr H=qBl P f (first.toList++args.map (ev fr)++caps.toList) H (callK P K is d fl fr H):=by
  rw [pOps,if_pos (show qCe fr none=true from rfl),pOp,hg];simp [hc]; rfl
theorem pOps_se {o:EOp}:pOps P K (⟨d,none,.st (.e o),fl⟩ :: is) fr H=optK (peop o fr H) fun x=>qOr fr H fl∧pOps P K is (updO fr d x.1) x.2:=by
  rw [pOps,if_pos (show qCe fr none=true from rfl),pOp]; cases peop o fr H<;>rfl
@[simp] theorem pSeen_nil:qOr fr H []=True:=Eq.trans rfl rfl
@[simp] theorem pSeen_cons {q:QOp} {qs:List QOp}:qOr fr H (q :: qs)=(okQ q=true∧(∃ v,pqop q fr H=some v)∧qOr fr H qs):=Eq.trans rfl rfl
@[simp] theorem pFroz_nil:qOt fr H []=True:=Eq.trans rfl rfl
@[simp] theorem pFroz_load {x:Operand} {qs:List QOp}:qOt fr H (.load x :: qs)=(okO x=true∧(∃ cs v,ev fr x=fptr cs∧pLd H (fptr cs)=some v)∧qOt fr H qs):=Eq.trans rfl rfl
@[simp] theorem pFroz_loadA {x:Operand} {n:Nat} {qs:List QOp}:qOt fr H (.loadA n x :: qs)=(okO x=true∧(∃ cs v,ev fr x=fptr cs∧pLdA H n (fptr cs)=some v)∧qOt fr H qs):=Eq.trans rfl rfl
theorem pOps_nilT {g:Bool} {x:Operand} (h1:pNil (ev fr x) false=true) (h2:∀ b:Bool,pNil (ev fr x) b=true→pOps P K is (updO fr d (.bool (b != g))) H):pOps P K (⟨d,none,.nilT g x,fl⟩ :: is) fr H:=by
  rw [pOps,if_pos (show qCe fr none=true from rfl),pOp]; exact ⟨h1,h2⟩
@[simp] theorem pOps_frz {d:Option Nat} {e b:Nat}:pOps P K (⟨d,none,.q (.fn (.yield e) [.tmp b]),fl⟩ :: is) fr H=zK P K is b fr (frzV H e (fr b)):=by
  rw [pOps,if_pos (show qCe fr none=true from rfl),pOp]; cases frzV H e (fr b)<;>rfl
@[simp] theorem qLz {x:Operand}:pOps P K (⟨d,none,.q (.val x),fl⟩ :: is) fr H=pOps P K is (updO fr d (ev fr x)) H:=by
  rw [pOps,if_pos (show qCe fr none=true from rfl),qEs (by rintro ⟨_,_,x⟩; cases x)]; rfl
@[simp] theorem pOps_pick {c a b:Operand}:pOps P K (⟨d,none,.q (.pick c a b),fl⟩ :: is) fr H=qK P K is d fr H (qOp (ev fr a) (ev fr b) (ev fr c)):=by
  rw [pOps,if_pos (show qCe fr none=true from rfl),qEs (by rintro ⟨_,_,x⟩; cases x)]; rfl
@[simp] theorem pOps_build {z:List Value} {ps:List (Nat×Nat×Operand)}:pOps P K (⟨d,none,.q (.build z ps),fl⟩ :: is) fr H=qK P K is d fr H ((qEa z (ps.map fun p=>(p.1,p.2.1,ev fr p.2.2))).map fun l=>.agg l.toArray):=by
  rw [pOps,if_pos (show qCe fr none=true from rfl),qEs (by rintro ⟨_,_,x⟩; cases x)]; rfl
@[simp] theorem pOps_load {x:Operand}:pOps P K (⟨d,none,.q (.load x),fl⟩ :: is) fr H=qK P K is d fr H (pLd H (ev fr x)):=by
  rw [pOps,if_pos (show qCe fr none=true from rfl),qEs (by rintro ⟨_,_,x⟩; cases x)]; rfl
@[simp] theorem pOps_loadA {n:Nat} {x:Operand}:pOps P K (⟨d,none,.q (.loadA n x),fl⟩ :: is) fr H=qK P K is d fr H (pLdA H n (ev fr x)):=by
  rw [pOps,if_pos (show qCe fr none=true from rfl),qEs (by rintro ⟨_,_,x⟩; cases x)]; rfl
@[simp] theorem qOs {op:BinOp} {x y:Operand}:pOps P K (⟨d,none,.q (.bin op x y),fl⟩ :: is) fr H=qK P K is d fr H (binV op (ev fr x) (ev fr y)):=by
  rw [pOps,if_pos (show qCe fr none=true from rfl),qEs (by rintro ⟨_,_,x⟩; cases x)]; rfl
@[simp] theorem pOps_eqB {g:Bool} {x y:Operand}:pOps P K (⟨d,none,.q (.eqB g x y),fl⟩ :: is) fr H=qK P K is d fr H (eqBV g (ev fr x) (ev fr y)):=by
  rw [pOps,if_pos (show qCe fr none=true from rfl),qEs (by rintro ⟨_,_,x⟩; cases x)]; rfl
@[simp] theorem pOps_not {x:Operand}:pOps P K (⟨d,none,.q (.not x),fl⟩ :: is) fr H=qK P K is d fr H (notV (ev fr x)):=by
  rw [pOps,if_pos (show qCe fr none=true from rfl),qEs (by rintro ⟨_,_,x⟩; cases x)]; rfl
@[simp] theorem pOps_neg {x:Operand}:pOps P K (⟨d,none,.q (.neg x),fl⟩ :: is) fr H=qK P K is d fr H (negV (ev fr x)):=by
  rw [pOps,if_pos (show qCe fr none=true from rfl),qEs (by rintro ⟨_,_,x⟩; cases x)]; rfl
@[simp] theorem pOps_conv {k:IntKind} {x:Operand}:pOps P K (⟨d,none,.q (.conv k x),fl⟩ :: is) fr H=qK P K is d fr H (qPl k (ev fr x)):=by
  rw [pOps,if_pos (show qCe fr none=true from rfl),qEs (by rintro ⟨_,_,x⟩; cases x)]; rfl
@[simp] theorem pOps_cut {e:Nat} {x:Operand} {lo hi:Option Operand}:pOps P K (⟨d,none,.q (.cut e x lo hi),fl⟩ :: is) fr H=qK P K is d fr H (pCut H e (ev fr x) (lo.map (ev fr)) (hi.map (ev fr))):=by
  rw [pOps,if_pos (show qCe fr none=true from rfl),qEs (by rintro ⟨_,_,x⟩; cases x)]; rfl
@[simp] theorem pOps_fieldA {off:Nat} {x:Operand}:pOps P K (⟨d,none,.q (.fieldA off x),fl⟩ :: is) fr H=qK P K is d fr H (qHq off (ev fr x)):=by
  rw [pOps,if_pos (show qCe fr none=true from rfl),qEs (by rintro ⟨_,_,x⟩; cases x)]; rfl
@[simp] theorem pOps_part {n:Option Nat} {off:Nat} {x:Operand}:pOps P K (⟨d,none,.q (.part n off x),fl⟩ :: is) fr H=qK P K is d fr H (qKa n off (ev fr x)):=by
  rw [pOps,if_pos (show qCe fr none=true from rfl),qEs (by rintro ⟨_,_,x⟩; cases x)]; rfl
@[simp] theorem pOps_idxA {e:Nat} {x i:Operand}:pOps P K (⟨d,none,.q (.idxA e x i),fl⟩ :: is) fr H=qK P K is d fr H (qGa e (ev fr x) (ev fr i)):=by
  rw [pOps,if_pos (show qCe fr none=true from rfl),qEs (by rintro ⟨_,_,x⟩; cases x)]; rfl
@[simp] theorem pOps_idxP {l e:Nat} {x i:Operand}:pOps P K (⟨d,none,.q (.idxP l e x i),fl⟩ :: is) fr H=qK P K is d fr H (qMs l e (ev fr x) (ev fr i)):=by
  rw [pOps,if_pos (show qCe fr none=true from rfl),qEs (by rintro ⟨_,_,x⟩; cases x)]; rfl
@[simp] theorem pOps_idx {n:Option Nat} {l e:Nat} {x i:Operand}:pOps P K (⟨d,none,.q (.idx n l e x i),fl⟩ :: is) fr H=qK P K is d fr H (idxV n l e (ev fr x) (ev fr i)):=by
  rw [pOps,if_pos (show qCe fr none=true from rfl),qEs (by rintro ⟨_,_,x⟩; cases x)]; rfl
@[simp] theorem pOps_ext {x:Operand} {i:Nat}:pOps P K (⟨d,none,.q (.ext x i),fl⟩ :: is) fr H=qK P K is d fr H (extV i (ev fr x)):=by
  rw [pOps,if_pos (show qCe fr none=true from rfl),qEs (by rintro ⟨_,_,x⟩; cases x)]; rfl
@[simp] theorem pOps_len {x:Operand}:pOps P K (⟨d,none,.q (.len x),fl⟩ :: is) fr H=qK P K is d fr H (pLen (ev fr x)):=by
  rw [pOps,if_pos (show qCe fr none=true from rfl),qEs (by rintro ⟨_,_,x⟩; cases x)]; rfl
@[simp] theorem pOps_lenS {x:Operand}:pOps P K (⟨d,none,.q (.lenS x),fl⟩ :: is) fr H=qK P K is d fr H (qQv (ev fr x)):=by
  rw [pOps,if_pos (show qCe fr none=true from rfl),qEs (by rintro ⟨_,_,x⟩; cases x)]; rfl
@[simp] theorem pOps_none3 {x:Operand}:pOps P K (⟨d,none,.q (.none3 x),fl⟩ :: is) fr H=qK P K is d fr H (qKb (ev fr x)):=by
  rw [pOps,if_pos (show qCe fr none=true from rfl),qEs (by rintro ⟨_,_,x⟩; cases x)]; rfl
@[simp] theorem pOps_idxS {x i:Operand}:pOps P K (⟨d,none,.q (.idxS x i),fl⟩ :: is) fr H=qK P K is d fr H (qQw (ev fr x) (ev fr i)):=by
  rw [pOps,if_pos (show qCe fr none=true from rfl),qEs (by rintro ⟨_,_,x⟩; cases x)]; rfl
@[simp] theorem pOps_ptrCk {x:Operand}:pOps P K (⟨d,none,.q (.ptrCk x),fl⟩ :: is) fr H=qK P K is d fr H (pPtr (ev fr x)):=by
  rw [pOps,if_pos (show qCe fr none=true from rfl),qEs (by rintro ⟨_,_,x⟩; cases x)]; rfl
@[simp] theorem pOps_eqS {g:Bool} {x y:Operand}:pOps P K (⟨d,none,.q (.eqS g x y),fl⟩ :: is) fr H=qK P K is d fr H (eqSV g (ev fr x) (ev fr y)):=by
  rw [pOps,if_pos (show qCe fr none=true from rfl),qEs (by rintro ⟨_,_,x⟩; cases x)]; rfl
@[simp] theorem pOps_eqA {ks:List Nat} {g:Bool} {x y:Operand}:pOps P K (⟨d,none,.q (.eqA ks g x y),fl⟩ :: is) fr H=qK P K is d fr H (eqAV ks g (ev fr x) (ev fr y)):=by
  rw [pOps,if_pos (show qCe fr none=true from rfl),qEs (by rintro ⟨_,_,x⟩; cases x)]; rfl
@[simp] theorem pOps_mm {mx:Bool} {x:Operand} {ys:List Operand}:pOps P K (⟨d,none,.q (.mm mx x ys),fl⟩ :: is) fr H=qK P K is d fr H (mmV mx (ev fr x) (ys.map (ev fr))):=by
  rw [pOps,if_pos (show qCe fr none=true from rfl),qEs (by rintro ⟨_,_,x⟩; cases x)]; rfl
@[simp] theorem pOps_mfn {f:FuncId} {cs:List Operand}:pOps P K (⟨d,none,.q (.mfn (.func f) cs),fl⟩ :: is) fr H=pOps P K is (updO fr d (.func (.func f) (cs.map (ev fr)).toArray #[])) H:=by
  rw [pOps,if_pos (show qCe fr none=true from rfl),qEs (by rintro ⟨_,_,x⟩; cases x)]; rfl
@[simp] theorem pOps_fn {f:FuncId} {cs:List Operand}:pOps P K (⟨d,none,.q (.fn (.func f) cs),fl⟩ :: is) fr H=pOps P K is (updO fr d (.func (.func f) #[] (cs.map (ev fr)).toArray)) H:=by
  rw [pOps,if_pos (show qCe fr none=true from rfl),qEs (by rintro ⟨_,_,x⟩; cases x)]; rfl
theorem qLk {o:EOp}:pOps P K (⟨d,none,.e o,fl⟩ :: is) fr H=eK P K is d fl fr H (peop o fr H):=by
  rw [pOps,if_pos (show qCe fr none=true from rfl),pOp]; cases peop o fr H<;>rfl
@[simp] theorem pOps_new {z:List Value} {e:Nat}:pOps P K (⟨d,none,.e (.new z e),fl⟩ :: is) fr H=eK P K is d fl fr H (some (.pointer (some ⟨H.length,0,some 0⟩),Am.newRow H z e)):=qLk
@[simp] theorem pOps_box {n e:Nat} {x:Operand}:pOps P K (⟨d,none,.e (.box n e x),fl⟩ :: is) fr H=eK P K is d fl fr H (match cellsOf (ev fr x) with | some vs=>if vs.length=n then some (.pointer (some ⟨H.length,0,some 0⟩),Am.newRow H vs e) else none | none=>none):=qLk
@[simp] theorem pOps_lit {z:List Value} {e len:Nat} {ps:List (Nat×Nat×Operand)}:pOps P K (⟨d,none,.e (.lit z e len ps),fl⟩ :: is) fr H=eK P K is d fl fr H ((qEa z (ps.map fun p=>(p.1,p.2.1,ev fr p.2.2))).map fun l=>(.slice (some ⟨H.length,0,none⟩) len 0,Am.newRow H l e)):=qLk
@[simp] theorem pOps_make {z:List Value} {e:Nat} {l c:Operand}:pOps P K (⟨d,none,.e (.make z e l c),fl⟩ :: is) fr H=eK P K is d fl fr H (qIc H z e (ev fr l) (ev fr c)):=qLk
@[simp] theorem pOps_store {n:Nat} {p x:Operand}:pOps P K (⟨d,none,.e (.store n p x),fl⟩ :: is) fr H=eK P K is d fl fr H ((qBu H n (ev fr p) (ev fr x)).map fun H=>(.tuple #[],H)):=qLk
@[simp] theorem pOps_app {e:Nat} {s x:Operand}:pOps P K (⟨d,none,.e (.app e s x),fl⟩ :: is) fr H=eK P K is d fl fr H (pApp H e (ev fr s) (ev fr x)):=qLk
@[simp] theorem pOps_clear {z:List Value} {x:Operand}:pOps P K (⟨d,none,.e (.clear z x),fl⟩ :: is) fr H=eK P K is d fl fr H ((qIf H z (ev fr x)).map fun H=>(.tuple #[],H)):=qLk
@[simp] theorem pOps_copy {e:Nat} {dd s:Operand}:pOps P K (⟨d,none,.e (.copy e dd s),fl⟩ :: is) fr H=eK P K is d fl fr H (qUc H e (ev fr dd) (ev fr s)):=qLk
end
def Next {σ:Type} (I:σ→Fr→Heap→Prop) (μ:σ→Nat) (x:σ) (fr:Fr) (h:Heap):Prop:=∃ y,μ y < μ x∧I y fr h
@[congr] theorem Next_congr {σ:Type} {I:σ→Fr→Heap→Prop} {μ:σ→Nat} {x:σ} {fr fr':Fr} {h h':Heap} (e:fr=fr') (k:h=h'):Next I μ x fr h=Next I μ x fr' h':=by rw [e,k]
theorem Next.go {σ:Type} {I:σ→Fr→Heap→Prop} {μ:σ→Nat} {x:σ} {fr:Fr} {h:Heap} (y:σ) (h1:μ y < μ x) (h2:I y fr h):Next I μ x fr h:=⟨y,h1,h2⟩
theorem qEb {P:Program} {a:AC} {Q:Exit→Fr→Heap→Prop} {fr:Fr} {h:Heap} {σ:Type} (I:σ→Fr→Heap→Prop) (μ:σ→Nat) (step:∀ x fr h,I x fr h→pwp P a (SeqK (Next I μ x) Q) fr h) (x:σ) (h0:I x fr h):pwp P (.loop a) Q fr h:=by
  refine loop_rule (fun n fr h=>∃ x,μ x=n∧I x fr h) ?_ (n:=μ x) ⟨x,rfl,h0⟩
  rintro n fr h ⟨x,rfl,hx⟩;refine qDm a _ _ (qFh ?_ fun _ _ _ x=>x) fr h (step x fr h hx)
  rintro fr h ⟨y,h1,h2⟩;exact ⟨_,h1,y,rfl,h2⟩
theorem qLw {P:Program} {a b:AC} {Q:Exit→Fr→Heap→Prop} {fr:Fr} {h:Heap} (M:Fr→Heap→Prop) (h1:pwp P a (SeqK M Q) fr h) (h2:∀ fr h,M fr h→pwp P b Q fr h):pwp P (.seq a b) Q fr h :=
  qDm a _ _ (qFh h2 fun _ _ _ x=>x) fr h h1
end Pm
/- The pure machine: lists, and lists that grow.
   No condition: plain lemmas. -/
namespace Pm
set_option linter.unusedSimpArgs false
set_option linter.unusedVariables false
open Go Am

/-! ### Values -/
abbrev vI:Int→Value:=.int .i64
abbrev vB:Bool→Value:=.bool
abbrev v8:Nat→Value:=fun x=>.int .u8 x
abbrev vU:Nat→Value:=fun x=>.int .u64 x
abbrev nilS:Value:=.slice none 0 0

def vL {α:Type} (f:α→Value) (l:List α):Value:=lst 1 l.length (l.map f)
class Flat {α:Type} (f:α→List Value) (e:outParam Nat):Prop where
  len:∀ x,(f x).length=e
def vM {α:Type} (e:Nat) (f:α→List Value) (l:List α):Value:=lst e l.length (l.flatMap f)

theorem qDs {α:Type} {f:α→List Value} {e:Nat} (h:∀ x,(f x).length=e):∀ l:List α,(l.flatMap f).length=l.length * e
  | []=>by simp
  | x :: l=>by simp only [List.flatMap_cons,List.length_append,List.length_cons,qDs h l,h,Nat.succ_mul]; omega
theorem qGx {α:Type} {f:α→List Value} {e:Nat} (h:∀ x,(f x).length=e):∀ (l:List α) (i:Nat),(l.flatMap f).drop (i * e)=(l.drop i).flatMap f
  | l,0=>by simp
  | [],i+1=>by simp
  | x :: l,i+1=>by
    rw [List.flatMap_cons,List.drop_succ_cons,← qGx h l i,Nat.succ_mul,Nat.add_comm,← h x,List.drop_append];simp [h]
theorem qNc {α:Type} {f:α→List Value} {e:Nat} (h:∀ x,(f x).length=e):∀ (l:List α) (i:Nat),(l.flatMap f).take (i * e)=(l.take i).flatMap f
  | l,0=>by simp
  | [],i+1=>by simp
  | x :: l,i+1=>by
    rw [List.flatMap_cons,List.take_succ_cons,List.flatMap_cons,← qNc h l i,Nat.succ_mul,Nat.add_comm,List.take_append];simp [h,List.take_of_length_le]

section
variable {α : Type} {f : α → Value} {F : α → List Value} {l : List α} {e n : Nat} {cs : List Value} {k : IntKind} {x : Int} {h : Heap} {v : Value}
@[simp] theorem pLen_lst:pLen (lst e n cs)=some (.int .i64 n):=by simp [pLen]
@[simp] theorem pLen_vL:pLen (vL f l)=some (.int .i64 l.length):=by simp [vL]
@[simp] theorem pLen_vM:pLen (vM e F l)=some (.int .i64 l.length):=by simp [vM]
@[simp] theorem pNil_vL {b:Bool}:pNil (vL f l) b=(!b || l.length == 0):=by simp [pNil,vL]
@[simp] theorem pNil_vM {b:Bool}:pNil (vM e F l) b=(!b || l.length == 0):=by simp [pNil,vM]
@[simp] theorem pNil_slice {o:Option Addr} {len ver:Nat} {b:Bool}:pNil (.slice o len ver) b=(!b || len == 0):=Eq.trans rfl rfl
@[simp] theorem pNone_vL:qKb (vL f l)=some nilS:=by simp [qKb,vL]
@[simp] theorem pNone_vM:qKb (vM e F l)=some nilS:=by simp [qKb,vM]
@[simp] theorem pNone_slice {o:Option Addr} {len ver:Nat}:qKb (.slice o len ver)=some nilS:=Eq.trans rfl rfl
@[simp] theorem pLen_slice {o:Option Addr} {len ver:Nat}:pLen (.slice o len ver)=some (.int .i64 len):=Eq.trans rfl rfl
theorem map_seg (i:Nat):((l.map f).drop (i * 1)).take 1=((l[i]?).map f).toList:=by
  rw [Nat.mul_one]
  by_cases h:i < l.length
  . rw [List.drop_eq_getElem_cons (by simpa using h)]; simp [h]
  . rw [List.drop_eq_nil_of_le (by simp; omega),List.getElem?_eq_none (by omega)]; rfl
@[simp] theorem pIdxA_vL:qGa 1 (vL f l) (.int k x)=if 0≤x then (l[x.toNat]?).map fun y=>fptr [f y] else none:=by
  simp only [qGa,vL,qCx,true_and,map_seg]
  by_cases h0:0≤x
  . by_cases h1:x.toNat < l.length
    . rw [if_pos ⟨h0,by omega⟩,if_pos h0]; simp [h1]
    . rw [if_neg (by omega),if_pos h0,List.getElem?_eq_none (by omega)]; rfl
  . rw [if_neg (by omega),if_neg h0]
@[simp] theorem pIdxA_vM [hF:Flat F e]:qGa e (vM e F l) (.int k x)=if 0≤x then (l[x.toNat]?).map fun y=>fptr (F y) else none:=by
  simp only [qGa,vM,qCx,true_and]
  by_cases h0:0≤x
  . by_cases h1:x.toNat < l.length
    . rw [if_pos ⟨h0,by omega⟩,if_pos h0,qGx hF.len,List.drop_eq_getElem_cons h1,List.flatMap_cons,List.take_append,hF.len,List.take_of_length_le (by rw [hF.len]; exact Nat.le_refl _)]
      simp [h1]
    . rw [if_neg (by omega),if_pos h0,List.getElem?_eq_none (by omega)]; rfl
  . rw [if_neg (by omega),if_neg h0]
@[simp] theorem pIdxA_slice {id off len ver:Nat}:qGa e (.slice (some ⟨id,off,none⟩) len ver) (.int k x)=if 0≤x∧x < len then some (.pointer (some ⟨id,off+x.toNat * e,some ver⟩)) else none:=Eq.trans rfl rfl
@[simp] theorem pLd_fptr:pLd h (fptr cs)=cs[0]?:=by simp [pLd]
@[simp] theorem pLd_ptr {id off ver:Nat}:pLd h (.pointer (some ⟨id,off,some ver⟩))=h.cell? id off ver:=Eq.trans rfl rfl
@[simp] theorem pLdA_fptr:pLdA h n (fptr cs)=if n≤cs.length∧0 < n then some (.agg (cs.take n).toArray) else none:=by simp [pLdA]
@[simp] theorem pLdA_ptr {id off ver:Nat}:pLdA h n (.pointer (some ⟨id,off,some ver⟩))=(h.cells? id off ver n).map fun l=>.agg l.toArray:=Eq.trans rfl rfl
@[simp] theorem pField_fptr {off:Nat}:qHq off (fptr cs)=some (fptr (cs.drop off)):=by simp [qHq]
@[simp] theorem pField_ptr {id off o ver:Nat}:qHq o (.pointer (some ⟨id,off,some ver⟩))=some (.pointer (some ⟨id,off+o,some ver⟩)):=Eq.trans rfl rfl
@[simp] theorem pIdxP_fptr:qMs n e (fptr cs) (.int k x)=if 0≤x∧x < n then some (fptr (cs.drop (x.toNat * e))) else none:=by simp [qMs]
@[simp] theorem pIdxP_ptr {id off ver:Nat}:qMs n e (.pointer (some ⟨id,off,some ver⟩)) (.int k x)=if 0≤x∧x < n then some (.pointer (some ⟨id,off+x.toNat * e,some ver⟩)) else none:=Eq.trans rfl rfl
@[simp] theorem pPtr_ptr {o:Addr}:pPtr (.pointer (some o))=some (.pointer (some o)):=Eq.trans rfl rfl
@[simp] theorem pPtr_fptr:pPtr (fptr cs)=some (fptr cs):=by simp [pPtr]
@[simp] theorem pCut_vL {lo hi:Option Value}:pCut h 1 (vL f l) lo hi=match loV lo,hiV l.length hi with | some a,some b=>if a≤b then some (vL f ((l.drop a).take (b - a))) else none | _,_=>none:=by
  simp only [pCut,vL,qCx,true_and,Nat.mul_one];cases h1:loV lo with
  | none=>rfl
  | some a =>
    cases h2:hiV l.length hi with
    | none=>rfl
    | some b =>
      have:=qSb h2;simp only [List.map_take,List.map_drop,List.length_take,List.length_drop];rw [show min (b - a) (l.length - a)=b - a by omega]
@[simp] theorem pCut_vM [hF:Flat F e] {lo hi:Option Value}:pCut h e (vM e F l) lo hi=match loV lo,hiV l.length hi with | some a,some b=>if a≤b then some (vM e F ((l.drop a).take (b - a))) else none | _,_=>none:=by
  simp only [pCut,vM,qCx,true_and];cases h1:loV lo with
  | none=>rfl
  | some a =>
    cases h2:hiV l.length hi with
    | none=>rfl
    | some b =>
      have:=qSb h2;simp only;rw [qGx hF.len,qNc hF.len];simp only [List.length_take,List.length_drop];rw [show min (b - a) (l.length - a)=b - a by omega]
theorem qBi {o:Addr} {len ver:Nat} {lo hi:Option Value}:pCut h e (.slice (some o) len ver) lo hi=cutV h e (.slice (some o) len ver) lo hi:=Eq.trans rfl rfl
@[simp] theorem pElems_vL:qCv h 1 (vL f l)=some (l.length,l.map f):=by simp [qCv,vL]
@[simp] theorem pElems_vM:qCv h e (vM e F l)=some (l.length,l.flatMap F):=by simp [qCv,vM]
@[simp] theorem pElems_lst:qCv h e (lst e n cs)=some (n,cs):=by simp [qCv]
@[simp] theorem pElems_nil:qCv h e nilS=some (0,[]):=Eq.trans rfl rfl
theorem qAz {id off len ver:Nat}:qCv h e (.slice (some ⟨id,off,none⟩) len ver)=(h.cells? id off ver (len * e)).map fun l=>(len,l):=Eq.trans rfl rfl
@[simp] theorem frzV_lst:frzV h e (lst n n cs)=some (lst n n cs,h):=by simp [frzV,frzC,lst,qCf]
theorem frzV_lst' {m:Nat}:frzV h e (lst m n cs)=some (lst m n cs,h):=by simp [frzV,frzC,lst,qCf]
@[simp] theorem frzV_vL:frzV h e (vL f l)=some (vL f l,h):=frzV_lst'
@[simp] theorem frzV_vM {m:Nat}:frzV h e (vM m F l)=some (vM m F l,h):=frzV_lst'
@[simp] theorem frzV_nil:frzV h e nilS=some (lst e 0 [],h):=Eq.trans rfl rfl
@[simp] theorem frzV_int:frzV h e (.int k x)=some (.int k x,h):=Eq.trans rfl rfl
@[simp] theorem frzV_bool {b:Bool}:frzV h e (.bool b)=some (.bool b,h):=Eq.trans rfl rfl
@[simp] theorem closedC_int:qCf (.int k x)=true:=Eq.trans rfl rfl
@[simp] theorem closedC_bool {b:Bool}:qCf (.bool b)=true:=Eq.trans rfl rfl
@[simp] theorem closedC_string {b:ByteArray}:qCf (.string b)=true:=Eq.trans rfl rfl
@[simp] theorem closedC_lst {m:Nat}:qCf (lst m n cs)=true:=Eq.trans rfl rfl
@[simp] theorem closedC_vL:qCf (vL f l)=true:=Eq.trans rfl rfl
@[simp] theorem closedC_vM:qCf (vM e F l)=true:=Eq.trans rfl rfl
@[simp] theorem stayV_int:qNy (.int k x)=true:=Eq.trans rfl rfl
@[simp] theorem stayV_bool {b:Bool}:qNy (.bool b)=true:=Eq.trans rfl rfl
@[simp] theorem stayV_agg {xs:Array Value}:qNy (.agg xs)=xs.toList.all qDe:=Eq.trans rfl rfl
@[simp] theorem stayV_slice {a:Addr} {n m:Nat}:qNy (.slice (some a) n m)=true:=Eq.trans rfl rfl
@[simp] theorem stayV_nil:qNy (.slice none 0 0)=true:=Eq.trans rfl rfl
@[simp] theorem plainV_int:qEt (.int k x)=true:=Eq.trans rfl rfl
@[simp] theorem plainV_bool {b:Bool}:qEt (.bool b)=true:=Eq.trans rfl rfl
@[simp] theorem plainV_agg {xs:Array Value}:qEt (.agg xs)=xs.toList.all qDe:=Eq.trans rfl rfl
@[simp] theorem plainC_int:qDe (.int k x)=true:=Eq.trans rfl rfl
@[simp] theorem plainC_bool {b:Bool}:qDe (.bool b)=true:=Eq.trans rfl rfl
@[simp] theorem pqop_load {fr:Fr} {o:Operand}:pqop (.load o) fr h=pLd h (ev fr o):=Eq.trans rfl rfl
@[simp] theorem pqop_loadA {fr:Fr} {o:Operand}:pqop (.loadA n o) fr h=pLdA h n (ev fr o):=Eq.trans rfl rfl
@[simp] theorem okQ_load {t:Nat}:okQ (.load (.tmp t))=true:=Eq.trans rfl rfl
@[simp] theorem okQ_loadA {t:Nat}:okQ (.loadA n (.tmp t))=true:=Eq.trans rfl rfl
@[simp] theorem fillL_none {zs:List Value}:qEa zs []=some zs:=Eq.trans rfl rfl
@[simp] theorem fillL_one {zs:List Value} {o m:Nat} {ps:List (Nat×Nat×Value)}:qEa zs ((o,m,v) :: ps)=match cellsOf v with | some vs=>if vs.length=m∧o+m≤zs.length then qEa (setAll zs o vs) ps else none | none=>none:=Eq.trans rfl rfl
@[simp] theorem cellsOf_int:cellsOf (.int k x)=some [.int k x]:=Eq.trans rfl rfl
@[simp] theorem cellsOf_bool {b:Bool}:cellsOf (.bool b)=some [.bool b]:=Eq.trans rfl rfl
@[simp] theorem cellsOf_string {b:ByteArray}:cellsOf (.string b)=some [.string b]:=Eq.trans rfl rfl
@[simp] theorem cellsOf_slice {o:Option Addr} {len ver:Nat}:cellsOf (.slice o len ver)=some [.slice o len ver]:=Eq.trans rfl rfl
@[simp] theorem cellsOf_pointer {o:Option Addr}:cellsOf (.pointer o)=some [.pointer o]:=Eq.trans rfl rfl
@[simp] theorem cellsOf_lst {m:Nat}:cellsOf (lst m n cs)=some [lst m n cs]:=Eq.trans rfl rfl
@[simp] theorem cellsOf_vL:cellsOf (vL f l)=some [vL f l]:=Eq.trans rfl rfl
@[simp] theorem cellsOf_vM:cellsOf (vM e F l)=some [vM e F l]:=Eq.trans rfl rfl
@[simp] theorem qAy {xs:Array Value}:cellsOf (.agg xs)=if xs.toList.all cellLike then some xs.toList else none:=Eq.trans rfl rfl
@[simp] theorem cellLike_int:cellLike (.int k x)=true:=Eq.trans rfl rfl
@[simp] theorem cellLike_bool {b:Bool}:cellLike (.bool b)=true:=Eq.trans rfl rfl
@[simp] theorem cellLike_string {b:ByteArray}:cellLike (.string b)=true:=Eq.trans rfl rfl
@[simp] theorem cellLike_slice {o:Option Addr} {len ver:Nat}:cellLike (.slice o len ver)=true:=Eq.trans rfl rfl
@[simp] theorem cellLike_vL:cellLike (vL f l)=true:=Eq.trans rfl rfl
@[simp] theorem cellLike_vM:cellLike (vM e F l)=true:=Eq.trans rfl rfl
@[simp] theorem setAll_nil {zs:List Value} {o:Nat}:setAll zs o []=zs:=Eq.trans rfl rfl
@[simp] theorem setAll_cons {zs vs:List Value} {o:Nat}:setAll zs o (v :: vs)=setAll (zs.set o v) (o+1) vs:=Eq.trans rfl rfl
@[simp] theorem partV_some {xs:Array Value} {off:Nat}:qKa (some n) off (.agg xs)=if off+n≤xs.size then some (.agg (xs.extract off (off+n))) else none:=Eq.trans rfl rfl
@[simp] theorem partV_none {xs:Array Value} {off:Nat}:qKa none off (.agg xs)=xs[off]?:=Eq.trans rfl rfl
@[simp] theorem idxV_int {o:Option Nat} {len:Nat}:idxV o len e v (.int k x)=if 0≤x∧x < len then qKa o (x.toNat * e) v else none:=Eq.trans rfl rfl
@[simp] theorem qPi {ks:List Nat} {g:Bool} {xs ys:Array Value}:eqAV ks g (.agg xs) (.agg ys)=(eqCs ks xs.toList ys.toList).map fun b=>.bool (if g then !b else b):=Eq.trans rfl rfl
@[simp] theorem eqCs_nil:eqCs [] [] []=some true:=Eq.trans rfl rfl
theorem eqCs_cons {k:Nat} {ks:List Nat} {x y:Value} {xs ys:List Value}:eqCs (k :: ks) (x :: xs) (y :: ys)=match eqC k x y with | some true=>eqCs ks xs ys | some false=>some false | none=>none:=Eq.trans rfl rfl
@[simp] theorem eqCs_int {ks:List Nat} {kk:IntKind} {a b:Int} {xs ys:List Value}:eqCs (0 :: ks) (.int kk a :: xs) (.int kk b :: ys)=if a=b then eqCs ks xs ys else some false:=by
  rw [eqCs_cons];simp only [eqC,if_true]
  by_cases h:a=b
  . simp [h]
  . have:(a == b)=false:=by simpa using h
    simp [h,this]
@[simp] theorem eqCs_bool {ks:List Nat} {a b:Bool} {xs ys:List Value}:eqCs (1 :: ks) (.bool a :: xs) (.bool b :: ys)=if a=b then eqCs ks xs ys else some false:=by
  rw [eqCs_cons];simp only [eqC];cases a<;>cases b<;>simp
@[simp] theorem qRj {mx:Bool}:mmV mx v []=some v:=by simp [mmV]
@[simp] theorem qKc {mx:Bool} {k':IntKind} {a b:Int} {ys:List Value}:mmV mx (.int k a) (.int k' b :: ys)=mmV mx (.int k (if (if mx then a < b else b < a) then b else a)) ys:=by simp [mmV]
end

@[simp] theorem enterF_eq {args:List Value} {t:Nat}:qBv args t=(args[t]?).getD (.tuple #[]):=Eq.trans rfl rfl

/-! ### Heaps -/
def qBs (b:Nat) (h h':Heap):Prop:=h.length≤h'.length∧∀ i,i < b→h'[i]?=h[i]?
theorem qBs.refl (b:Nat) (h:Heap):qBs b h h:=⟨Nat.le_refl _,fun _ _=>rfl⟩
theorem qBs.trans {b:Nat} {h h1 h2:Heap} (k:qBs b h h1) (k':qBs b h1 h2):qBs b h h2:=⟨Nat.le_trans k.1 k'.1,fun i hi=>by rw [k'.2 i hi,k.2 i hi]⟩
theorem qBs.new {b:Nat} {h h1:Heap} (k:qBs b h h1) (hb:b≤h.length) (vs:List Value) (e:Nat):qBs b h (Am.newRow h1 vs e) :=
  ⟨by simp [Am.newRow]; exact Nat.le_succ_of_le k.1,fun i hi=>by unfold Am.newRow; rw [List.getElem?_append_left (by have:=k.1; omega)]; exact k.2 i hi⟩
theorem qBs.ext {h h':Heap} (k:qBs h.length h h'):∃ g,h'=h++g:=by
  refine ⟨h'.drop h.length,?_⟩;apply List.ext_getElem?;intro i
  by_cases hi:i < h.length
  . rw [List.getElem?_append_left hi]; exact k.2 i hi
  . rw [List.getElem?_append_right (by omega),List.getElem?_drop]; congr 1; omega
theorem qBs.app {h g:Heap}:qBs h.length h (h++g):=⟨by simp,fun i hi=>List.getElem?_append_left hi⟩

@[simp] theorem frzV_new {h:Heap} {cs:List Value} {e e' n k:Nat} (hk:k=h.length) (hl:cs.length=n * e) (hc:cs.all qCf=true):frzV (Am.newRow h cs e) e' (.slice (some ⟨k,0,none⟩) n 0)=some (lst e n cs,h++[.row ⟨cs,e,0,false⟩]):=by
  subst hk;have hs:seg cs 0 (n * e)=cs:=by unfold seg; rw [List.drop_zero,List.take_of_length_le (by omega)]
  simp only [frzV,frzC,Heap.row?,Am.newRow,app_at0,List.getElem?_cons_zero,if_true,hs,hc];rw [if_pos ⟨by omega,trivial⟩]
  simp
@[simp] theorem lst_one {x:Int}:lst 1 1 [.int .i64 x]=vL vI [x]:=Eq.trans rfl rfl
@[simp] theorem lst_two {x y:Int}:lst 1 2 [.int .i64 x,.int .i64 y]=vL vI [x,y]:=Eq.trans rfl rfl
@[simp] theorem lst_three {x y z:Int}:lst 1 3 [.int .i64 x,.int .i64 y,.int .i64 z]=vL vI [x,y,z]:=Eq.trans rfl rfl

/-! ### A list that grows -/
def Acc (e b:Nat) (h:Heap) (v:Value) (n:Nat) (cs:List Value):Prop :=
  (v=nilS∧n=0∧cs=[])∨∃ id ver,v=.slice (some ⟨id,0,none⟩) n ver∧b≤id∧h[id]?=some (.row ⟨cs,e,ver,true⟩)∧cs.length=n * e
def rid:Value→Option Nat
  | .slice (some a) _ _=>some a.block
  | _=>none
def qOd (v w:Value):Prop:=∀ i,rid v=some i→rid w≠some i
theorem qOd.symm {v w:Value} (h:qOd v w):qOd w v:=fun i h1 h2=>h i h2 h1
theorem qOd.nil {v:Value}:qOd nilS v:=fun i h=>by simp [rid] at h

section
variable {e b : Nat} {h h' : Heap} {v w : Value} {n : Nat} {cs : List Value}
theorem Acc.nil:Acc e b h nilS 0 []:=.inl ⟨rfl,rfl,rfl⟩
theorem Acc.len (ha:Acc e b h v n cs):pLen v=some (.int .i64 n):=by
  rcases ha with ⟨rfl,rfl,_⟩ | ⟨id,ver,rfl,_⟩<;>rfl
theorem Acc.lt (ha:Acc e b h v n cs) {i:Nat} (hi:rid v=some i):i < h.length:=by
  rcases ha with ⟨rfl,_⟩ | ⟨id,ver,rfl,_,hr,_⟩
  . simp [rid] at hi
  . simp [rid] at hi; subst hi; exact (List.getElem?_eq_some_iff.1 hr).1
theorem Acc.keep (ha:Acc e b h v n cs) (hk:∀ i,rid v=some i→h'[i]?=h[i]?):Acc e b h' v n cs:=by
  rcases ha with ⟨rfl,h1,h2⟩ | ⟨id,ver,rfl,h1,h2,h3⟩
  . exact .inl ⟨rfl,h1,h2⟩
  . exact .inr ⟨id,ver,rfl,h1,by rw [hk id rfl]; exact h2,h3⟩
theorem Acc.ext (ha:Acc e b h v n cs) (hk:qBs h.length h h'):Acc e b h' v n cs:=ha.keep fun i hi=>hk.2 i (ha.lt hi)
theorem Acc.app (ha:Acc e b h v n cs) (hb:b≤h.length) {h1:Heap} (hx:qBs h.length h h1) {x:Value} {k:Nat} {new:List Value} (hn:qCv h1 e x=some (k,new)) (hl:new.length=k * e) (hlim:n+k≤lim) :
    ∃ v' h2,pApp h1 e v x=some (v',h2)∧Acc e b h2 v' (n+k) (cs++new)∧qBs b h h2∧(∀ i,i < h.length→rid v≠some i→h2[i]?=h[i]?)∧∀ i,rid v'=some i→rid v=some i∨h.length≤i:=by
  simp only [pApp,hn];rcases ha with ⟨rfl,rfl,rfl⟩ | ⟨id,ver,rfl,h2,h3,h4⟩
  . simp only [qJg]
    by_cases h0:k=0
    . subst h0
      have:new=[]:=List.length_eq_zero_iff.1 (by simpa using hl)
      subst this;exact ⟨nilS,h1,by rw [if_pos rfl],.nil,⟨hx.1,fun i hi=>hx.2 i (by omega)⟩,fun i hi _=>hx.2 i hi,fun i hi=>by simp [rid] at hi⟩
    . rw [if_neg h0,if_pos (by omega)]
      have h1l:=hx.1;refine ⟨_,_,rfl,.inr ⟨h1.length,0,by simp,by omega,by simp [Am.newRow],by simpa using hl⟩,⟨by simp [Am.newRow]; omega,fun i hi=>?_⟩,fun i hi _=>?_,fun i hi=>?_⟩
      . unfold Am.newRow; rw [List.getElem?_append_left (by omega)]; exact hx.2 i (by omega)
      . unfold Am.newRow; rw [List.getElem?_append_left (by omega)]; exact hx.2 i hi
      . simp [rid] at hi; omega
  . have hid:=(List.getElem?_eq_some_iff.1 h3).1
    have h3':h1[id]?=some (.row ⟨cs,e,ver,true⟩):=by rw [hx.2 id hid]; exact h3
    have h1l:=hx.1;simp only [qJg,Heap.row?,h3',if_true];rw [if_pos ⟨trivial,trivial,by omega,hlim⟩]
    refine ⟨_,_,rfl,.inr ⟨id,ver+1,rfl,h2,?_,by simp [hl,h4,Nat.add_mul]⟩,⟨by simpa using h1l,fun i hi=>?_⟩,fun i hi hne=>?_,fun i hi=>?_⟩
    . rw [List.getElem?_set_self (by omega),List.drop_zero,List.take_of_length_le (by omega)]
    . rw [List.getElem?_set_ne (by omega)]; exact hx.2 i (by omega)
    . rw [List.getElem?_set_ne (fun x=>hne (by rw [x]; rfl))]; exact hx.2 i hi
    . simp [rid] at hi ⊢; exact .inl hi
theorem Acc.frz (ha:Acc e b h v n cs) (hc:cs.all qCf=true):∃ h',frzV h e v=some (lst e n cs,h')∧qBs b h h'∧h'.length=h.length∧∀ i,rid v≠some i→h'[i]?=h[i]?:=by
  rcases ha with ⟨rfl,rfl,rfl⟩ | ⟨id,ver,rfl,h2,h3,h4⟩
  . exact ⟨h,rfl,.refl _ _,rfl,fun _ _=>rfl⟩
  . have hs:seg cs 0 (n * e)=cs:=by unfold seg; rw [List.drop_zero,List.take_of_length_le (by omega)]
    refine ⟨h.set id (.row ⟨cs,e,ver,false⟩),?_,⟨by simp,fun i hi=>by rw [List.getElem?_set_ne (by omega)]⟩,by simp,fun i hi=>by rw [List.getElem?_set_ne (fun x=>hi (by rw [x]; rfl))]⟩
    simp only [frzV,frzC,Heap.row?,h3,if_true,hs,hc];rw [if_pos ⟨by omega,trivial⟩]
theorem Acc.inl (ha:Acc e b h v n cs) (hc:cs.all qCf=true):Inl b h v (lst e n cs):=by
  rcases ha with ⟨rfl,rfl,rfl⟩ | ⟨id,ver,rfl,h2,h3,h4⟩
  . exact .nil
  . exact .row (r:=⟨cs,e,ver,true⟩) h2 (by simp [Heap.row?,h3]) (by simp; omega) h4 fun j c c' h5 h6=>by
      simp only [Nat.zero_add] at h5;rw [h5] at h6; cases h6;exact .cell (List.all_eq_true.1 hc _ (List.mem_of_getElem? h5))
end

def AccL {α:Type} (f:α→Value) (b:Nat) (h:Heap) (v:Value) (l:List α):Prop:=Acc 1 b h v l.length (l.map f)
def AccM {α:Type} (e:Nat) (f:α→List Value) (b:Nat) (h:Heap) (v:Value) (l:List α):Prop:=Acc e b h v l.length (l.flatMap f)
section
variable {α : Type} {f : α → Value} {F : α → List Value} {e b : Nat} {h h' : Heap} {v : Value} {l : List α}
theorem AccL.nil:AccL f b h nilS []:=Acc.nil
theorem AccM.nil:AccM e F b h nilS []:=Acc.nil
theorem AccL.ext (ha:AccL f b h v l) (hk:qBs h.length h h'):AccL f b h' v l:=Acc.ext ha hk
theorem AccM.ext (ha:AccM e F b h v l) (hk:qBs h.length h h'):AccM e F b h' v l:=Acc.ext ha hk
theorem qHa (hc:∀ x,qCf (f x)=true) (l:List α):(l.map f).all qCf=true:=by simp [hc]
theorem closed_flat (hc:∀ x,(F x).all qCf=true) (l:List α):(l.flatMap F).all qCf=true:=by
  rw [List.all_eq_true];intro c hx;obtain ⟨y,_,hy⟩:=List.mem_flatMap.1 hx;exact List.all_eq_true.1 (hc y) c hy
theorem AccL.inl (ha:AccL f b h v l) (hc:∀ x,qCf (f x)=true):Inl b h v (vL f l):=Acc.inl ha (qHa hc l)
theorem AccM.inl (ha:AccM e F b h v l) (hc:∀ x,(F x).all qCf=true):Inl b h v (vM e F l):=Acc.inl ha (closed_flat hc l)
section
variable {P : Program} {K : Fr → Heap → Prop} {is : List AIns} {d : Option Nat} {fr : Fr} {H0 : Heap}
theorem AccL.push (ha:AccL f b h v l) (hb:b≤h.length) (hl:l.length < lim) {x:α} (hk:∀ v' h',AccL f b h' v' (l++[x])→qBs b h h'→(∀ i,i < h.length→rid v≠some i→h'[i]?=h[i]?)→(∀ i,rid v'=some i→rid v=some i∨h.length≤i)→pOps P K is (updO fr d v') h') :
    eK P K is d [] fr H0 (pApp (Am.newRow h [f x] 1) 1 v (.slice (some ⟨h.length,0,none⟩) 1 0)):=by
  obtain ⟨v',h2,k1,k2,k3,k4,k5⟩:=Acc.app ha hb (h1:=Am.newRow h [f x] 1) ((qBs.refl _ _).new (Nat.le_refl _) _ _) (x:=.slice (some ⟨h.length,0,none⟩) 1 0) (k:=1) (new:=[f x]) (by simp [qAz,Heap.cells?,Heap.row?,Am.newRow]) rfl (by omega)
  rw [k1,eK_some];exact ⟨trivial,hk v' h2 (by simpa [AccL] using k2) k3 k4 k5⟩
theorem AccM.push [hF:Flat F e] (ha:AccM e F b h v l) (hb:b≤h.length) (hl:l.length < lim) {x:α} {cs:List Value} (hx:F x=cs) (hk:∀ v' h',AccM e F b h' v' (l++[x])→qBs b h h'→(∀ i,i < h.length→rid v≠some i→h'[i]?=h[i]?)→(∀ i,rid v'=some i→rid v=some i∨h.length≤i)→pOps P K is (updO fr d v') h') :
    eK P K is d [] fr H0 (pApp (Am.newRow h cs e) e v (.slice (some ⟨h.length,0,none⟩) 1 0)):=by
  subst hx;obtain ⟨v',h2,k1,k2,k3,k4,k5⟩:=Acc.app ha hb (h1:=Am.newRow h (F x) e) ((qBs.refl _ _).new (Nat.le_refl _) _ _) (x:=.slice (some ⟨h.length,0,none⟩) 1 0) (k:=1) (new:=F x) (by
    have:=hF.len x;simp [qAz,Heap.cells?,Heap.row?,Am.newRow,this];exact List.take_of_length_le (by omega)) (by rw [hF.len]; omega) (by omega)
  rw [k1,eK_some];exact ⟨trivial,hk v' h2 (by simpa [AccM] using k2) k3 k4 k5⟩
theorem AccL.pushK (ha:AccL f b h v l) (hb:b≤h.length) (hl:l.length < lim) {x:α} {k:Nat} (hx:k=h.length) (hk:∀ v' h',AccL f b h' v' (l++[x])→qBs b h h'→(∀ i,i < h.length→rid v≠some i→h'[i]?=h[i]?)→(∀ i,rid v'=some i→rid v=some i∨h.length≤i)→pOps P K is (updO fr d v') h') :
    eK P K is d [] fr H0 (pApp (Am.newRow h [f x] 1) 1 v (.slice (some ⟨k,0,none⟩) 1 0)):=by
  subst hx; exact ha.push hb hl hk
theorem AccM.pushK [hF:Flat F e] (ha:AccM e F b h v l) (hb:b≤h.length) (hl:l.length < lim) {x:α} {cs:List Value} (hx:F x=cs) {k:Nat} (hkk:k=h.length) (hk:∀ v' h',AccM e F b h' v' (l++[x])→qBs b h h'→(∀ i,i < h.length→rid v≠some i→h'[i]?=h[i]?)→(∀ i,rid v'=some i→rid v=some i∨h.length≤i)→pOps P K is (updO fr d v') h') :
    eK P K is d [] fr H0 (pApp (Am.newRow h cs e) e v (.slice (some ⟨k,0,none⟩) 1 0)):=by
  subst hkk; exact ha.push hb hl hx hk
theorem AccL.apps (ha:AccL f b h v l) (hb:b≤h.length) {x:Value} {m:List α} (hx:qCv h 1 x=some (m.length,m.map f)) (hl:l.length+m.length≤lim) (hk:∀ v' h',AccL f b h' v' (l++m)→qBs b h h'→(∀ i,i < h.length→rid v≠some i→h'[i]?=h[i]?)→(∀ i,rid v'=some i→rid v=some i∨h.length≤i)→pOps P K is (updO fr d v') h') :
    eK P K is d [] fr H0 (pApp h 1 v x):=by
  obtain ⟨v',h2,k1,k2,k3,k4,k5⟩:=Acc.app ha hb (.refl _ _) hx (by simp) hl
  rw [k1,eK_some];exact ⟨trivial,hk v' h2 (by simpa [AccL] using k2) k3 k4 k5⟩
theorem AccM.apps [hF:Flat F e] (ha:AccM e F b h v l) (hb:b≤h.length) {x:Value} {m:List α} (hx:qCv h e x=some (m.length,m.flatMap F)) (hl:l.length+m.length≤lim) (hk:∀ v' h',AccM e F b h' v' (l++m)→qBs b h h'→(∀ i,i < h.length→rid v≠some i→h'[i]?=h[i]?)→(∀ i,rid v'=some i→rid v=some i∨h.length≤i)→pOps P K is (updO fr d v') h') :
    eK P K is d [] fr H0 (pApp h e v x):=by
  obtain ⟨v',h2,k1,k2,k3,k4,k5⟩:=Acc.app ha hb (.refl _ _) hx (qDs hF.len m) hl;rw [k1,eK_some];exact ⟨trivial,hk v' h2 (by simpa [AccM] using k2) k3 k4 k5⟩
theorem AccL.frz {t:Nat} (ha:AccL f b h v l) (hc:∀ x,qCf (f x)=true) (hk:∀ h',qBs b h h'→h'.length=h.length→(∀ i,rid v≠some i→h'[i]?=h[i]?)→pOps P K is (upd fr t (vL f l)) h'):zK P K is t fr (frzV h 1 v):=by
  obtain ⟨h',k1,k2,k3,k4⟩:=Acc.frz ha (qHa hc l);rw [k1,zK_some]; exact hk h' k2 k3 k4
theorem AccM.frz {t:Nat} (ha:AccM e F b h v l) (hc:∀ x,(F x).all qCf=true) (hk:∀ h',qBs b h h'→h'.length=h.length→(∀ i,rid v≠some i→h'[i]?=h[i]?)→pOps P K is (upd fr t (vM e F l)) h'):zK P K is t fr (frzV h e v):=by
  obtain ⟨h',k1,k2,k3,k4⟩:=Acc.frz ha (closed_flat hc l);rw [k1,zK_some]; exact hk h' k2 k3 k4
end
theorem Pure.list {P:Program} {g:FuncId} {args:List Value} (hc:∀ x,qCf (f x)=true) (k:∀ h,qBl P g args h fun v h'=>qBs h.length h h'∧AccL f h.length h' v l):Pure P g args (vL f l) :=
  .of fun h=>(k h).mono fun _ _ ⟨h1,h2⟩=>⟨h1.ext,h2.inl hc⟩
theorem Pure.rows {P:Program} {g:FuncId} {args:List Value} (hc:∀ x,(F x).all qCf=true) (k:∀ h,qBl P g args h fun v h'=>qBs h.length h h'∧AccM e F h.length h' v l):Pure P g args (vM e F l) :=
  .of fun h=>(k h).mono fun _ _ ⟨h1,h2⟩=>⟨h1.ext,h2.inl hc⟩
theorem Pure.plain {P:Program} {g:FuncId} {args:List Value} {p:Value} (hc:qCf p=true) (k:∀ h,qBl P g args h fun v h'=>qBs h.length h h'∧v=p):Pure P g args p :=
  .of fun h=>(k h).mono fun _ _ ⟨h1,h2⟩=>⟨h1.ext,by subst h2; exact .cell hc⟩
end
end Pm
/- The pure machine: short forms of instructions, for codes that are printed.
   No condition: plain lemmas. -/
namespace Pm
set_option linter.unusedSimpArgs false
set_option linter.unusedVariables false
open Go Am

def V (d x:Nat):AIns:=⟨some d,none,.q (.val (.tmp x)),[]⟩
def N (d:Nat) (n:Int):AIns:=⟨some d,none,.q (.val (.const (.int .i64 n))),[]⟩
def T (d:Nat) (b:Bool):AIns:=⟨some d,none,.q (.val (.const (.bool b))),[]⟩
def E (d:Nat):AIns:=⟨some d,none,.q (.val (.const (.slice none 0 0))),[]⟩
def B (d:Nat) (o:BinOp) (x y:Nat):AIns:=⟨some d,none,.q (.bin o (.tmp x) (.tmp y)),[]⟩
def Bn (d:Nat) (o:BinOp) (x:Nat) (n:Int):AIns:=⟨some d,none,.q (.bin o (.tmp x) (.const (.int .i64 n))),[]⟩
def Bk (d:Nat) (o:BinOp) (x:Nat) (k:IntKind) (n:Int):AIns:=⟨some d,none,.q (.bin o (.tmp x) (.const (.int k n))),[]⟩
def L (d x:Nat):AIns:=⟨some d,none,.q (.load (.tmp x)),[]⟩
def LA (d n x:Nat):AIns:=⟨some d,none,.q (.loadA n (.tmp x)),[]⟩
def X (d e x i:Nat):AIns:=⟨some d,none,.q (.idxA e (.tmp x) (.tmp i)),[]⟩
def Ln (d x:Nat):AIns:=⟨some d,none,.q (.len (.tmp x)),[]⟩
def F (d o x:Nat):AIns:=⟨some d,none,.q (.part none o (.tmp x)),[]⟩
def FA (d o x:Nat):AIns:=⟨some d,none,.q (.fieldA o (.tmp x)),[]⟩
def S (p x:Nat):AIns:=⟨none,none,.e (.store 1 (.tmp p) (.tmp x)),[]⟩
def Ap (d e s x:Nat):AIns:=⟨some d,none,.e (.app e (.tmp s) (.tmp x)),[]⟩
def Pk (d c x:Nat) (b:Bool):AIns:=⟨some d,none,.q (.pick (.tmp c) (.tmp x) (.const (.bool b))),[]⟩
def Cv' (d:Nat) (k:IntKind) (x:Nat):AIns:=⟨some d,none,.q (.conv k (.tmp x)),[]⟩
def Nt (d x:Nat):AIns:=⟨some d,none,.q (.not (.tmp x)),[]⟩
def Z (e b:Nat):AIns:=⟨none,none,.q (.fn (.yield e) [.tmp b]),[]⟩
def Gd (t:Nat) (w:Bool) (i:AIns):AIns:=⟨i.dst,some (t,w),i.op,i.fl⟩
def O (l:List AIns) (c:AC):AC:=.seq (.ops l) c

@[simp] theorem V_dst (d x:Nat):(V d x).dst=some d:=Eq.trans rfl rfl
@[simp] theorem V_guard (d x:Nat):(V d x).guard=none:=Eq.trans rfl rfl
@[simp] theorem N_dst (d:Nat) (n:Int):(N d n).dst=some d:=Eq.trans rfl rfl
@[simp] theorem N_guard (d:Nat) (n:Int):(N d n).guard=none:=Eq.trans rfl rfl
@[simp] theorem T_dst (d:Nat) (b:Bool):(T d b).dst=some d:=Eq.trans rfl rfl
@[simp] theorem T_guard (d:Nat) (b:Bool):(T d b).guard=none:=Eq.trans rfl rfl
@[simp] theorem E_dst (d:Nat):(E d).dst=some d:=Eq.trans rfl rfl
@[simp] theorem E_guard (d:Nat):(E d).guard=none:=Eq.trans rfl rfl
@[simp] theorem B_dst (d:Nat) (o:BinOp) (x y:Nat):(B d o x y).dst=some d:=Eq.trans rfl rfl
@[simp] theorem B_guard (d:Nat) (o:BinOp) (x y:Nat):(B d o x y).guard=none:=Eq.trans rfl rfl
@[simp] theorem Bn_dst (d:Nat) (o:BinOp) (x:Nat) (n:Int):(Bn d o x n).dst=some d:=Eq.trans rfl rfl
@[simp] theorem Bn_guard (d:Nat) (o:BinOp) (x:Nat) (n:Int):(Bn d o x n).guard=none:=Eq.trans rfl rfl
@[simp] theorem Bk_dst (d:Nat) (o:BinOp) (x:Nat) (k:IntKind) (n:Int):(Bk d o x k n).dst=some d:=Eq.trans rfl rfl
@[simp] theorem Bk_guard (d:Nat) (o:BinOp) (x:Nat) (k:IntKind) (n:Int):(Bk d o x k n).guard=none:=Eq.trans rfl rfl
@[simp] theorem L_dst (d x:Nat):(L d x).dst=some d:=Eq.trans rfl rfl
@[simp] theorem L_guard (d x:Nat):(L d x).guard=none:=Eq.trans rfl rfl
@[simp] theorem LA_dst (d n x:Nat):(LA d n x).dst=some d:=Eq.trans rfl rfl
@[simp] theorem LA_guard (d n x:Nat):(LA d n x).guard=none:=Eq.trans rfl rfl
@[simp] theorem X_dst (d e x i:Nat):(X d e x i).dst=some d:=Eq.trans rfl rfl
@[simp] theorem X_guard (d e x i:Nat):(X d e x i).guard=none:=Eq.trans rfl rfl
@[simp] theorem Ln_dst (d x:Nat):(Ln d x).dst=some d:=Eq.trans rfl rfl
@[simp] theorem Ln_guard (d x:Nat):(Ln d x).guard=none:=Eq.trans rfl rfl
@[simp] theorem F_dst (d o x:Nat):(F d o x).dst=some d:=Eq.trans rfl rfl
@[simp] theorem F_guard (d o x:Nat):(F d o x).guard=none:=Eq.trans rfl rfl
@[simp] theorem FA_dst (d o x:Nat):(FA d o x).dst=some d:=Eq.trans rfl rfl
@[simp] theorem FA_guard (d o x:Nat):(FA d o x).guard=none:=Eq.trans rfl rfl
@[simp] theorem Pk_dst (d c x:Nat) (b:Bool):(Pk d c x b).dst=some d:=Eq.trans rfl rfl
@[simp] theorem Pk_guard (d c x:Nat) (b:Bool):(Pk d c x b).guard=none:=Eq.trans rfl rfl
@[simp] theorem Cv1_dst (d:Nat) (k:IntKind) (x:Nat):(Cv' d k x).dst=some d:=Eq.trans rfl rfl
@[simp] theorem Cv1_guard (d:Nat) (k:IntKind) (x:Nat):(Cv' d k x).guard=none:=Eq.trans rfl rfl
@[simp] theorem Nt_dst (d x:Nat):(Nt d x).dst=some d:=Eq.trans rfl rfl
@[simp] theorem Nt_guard (d x:Nat):(Nt d x).guard=none:=Eq.trans rfl rfl
@[simp] theorem Ap_dst (d e s x:Nat):(Ap d e s x).dst=some d:=Eq.trans rfl rfl
@[simp] theorem Ap_guard (d e s x:Nat):(Ap d e s x).guard=none:=Eq.trans rfl rfl

section
variable {P : Program} {K : Fr → Heap → Prop} {is : List AIns} {fr : Fr} {h : Heap} {Q : Exit → Fr → Heap → Prop} {d x y : Nat}
@[simp] theorem pOps_V:pOps P K (V d x :: is) fr h=pOps P K is (upd fr d (fr x)) h:=qLz
@[simp] theorem pOps_N {n:Int}:pOps P K (N d n :: is) fr h=pOps P K is (upd fr d (.int .i64 n)) h:=qLz
@[simp] theorem pOps_T {b:Bool}:pOps P K (T d b :: is) fr h=pOps P K is (upd fr d (.bool b)) h:=qLz
@[simp] theorem pOps_E:pOps P K (E d :: is) fr h=pOps P K is (upd fr d (.slice none 0 0)) h:=qLz
@[simp] theorem pOps_B {o:BinOp}:pOps P K (B d o x y :: is) fr h=qK P K is (some d) fr h (binV o (fr x) (fr y)):=qOs
@[simp] theorem pOps_Bn {o:BinOp} {n:Int}:pOps P K (Bn d o x n :: is) fr h=qK P K is (some d) fr h (binV o (fr x) (.int .i64 n)):=qOs
@[simp] theorem pOps_Bk {o:BinOp} {k:IntKind} {n:Int}:pOps P K (Bk d o x k n :: is) fr h=qK P K is (some d) fr h (binV o (fr x) (.int k n)):=qOs
@[simp] theorem pOps_L:pOps P K (L d x :: is) fr h=qK P K is (some d) fr h (pLd h (fr x)):=pOps_load
@[simp] theorem pOps_LA {n:Nat}:pOps P K (LA d n x :: is) fr h=qK P K is (some d) fr h (pLdA h n (fr x)):=pOps_loadA
@[simp] theorem pOps_X {e:Nat}:pOps P K (X d e x y :: is) fr h=qK P K is (some d) fr h (qGa e (fr x) (fr y)):=pOps_idxA
@[simp] theorem pOps_Ln:pOps P K (Ln d x :: is) fr h=qK P K is (some d) fr h (pLen (fr x)):=pOps_len
@[simp] theorem pOps_F {o:Nat}:pOps P K (F d o x :: is) fr h=qK P K is (some d) fr h (qKa none o (fr x)):=pOps_part
@[simp] theorem pOps_FA {o:Nat}:pOps P K (FA d o x :: is) fr h=qK P K is (some d) fr h (qHq o (fr x)):=pOps_fieldA
@[simp] theorem pOps_S:pOps P K (S x y :: is) fr h=eK P K is none [] fr h ((qBu h 1 (fr x) (fr y)).map fun H=>(.tuple #[],H)):=pOps_store
@[simp] theorem pOps_Ap {e:Nat}:pOps P K (Ap d e x y :: is) fr h=eK P K is (some d) [] fr h (pApp h e (fr x) (fr y)):=pOps_app
@[simp] theorem pOps_Pk {c:Nat} {b:Bool}:pOps P K (Pk d c x b :: is) fr h=qK P K is (some d) fr h (qOp (fr x) (.bool b) (fr c)):=pOps_pick
@[simp] theorem pOps_Cv {k:IntKind}:pOps P K (Cv' d k x :: is) fr h=qK P K is (some d) fr h (qPl k (fr x)):=pOps_conv
@[simp] theorem pOps_Nt:pOps P K (Nt d x :: is) fr h=qK P K is (some d) fr h (notV (fr x)):=pOps_not
@[simp] theorem pOps_Z {e:Nat}:pOps P K (Z e x :: is) fr h=zK P K is x fr (frzV h e (fr x)):=pOps_frz
@[simp] theorem pOps_Gd {t:Nat} {w:Bool} {i:AIns} (hi:i.guard=none):pOps P K (Gd t w i :: is) fr h=gK P K w i is fr h (fr t):=by
  obtain ⟨d,g,o,fl⟩:=i;cases hi;exact pOps_g
@[simp] theorem pwp_O {c:AC}:pwp P (O is c) Q fr h=pOps P (SeqK (pwp P c Q) Q .normal) is fr h:=Eq.trans rfl rfl
end
end Pm
