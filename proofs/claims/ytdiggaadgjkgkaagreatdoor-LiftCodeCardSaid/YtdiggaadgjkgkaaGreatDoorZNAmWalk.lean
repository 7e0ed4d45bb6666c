/- The abstract machine: laws by which code is walked.
   No condition: plain lemmas. -/
import Derived.Test.YtdiggaadgjkgkaaGreatDoorZNAmCode2
namespace Am
set_option linter.unusedSimpArgs false
set_option linter.unusedVariables false
open Go

/-! ### More is shown of more -/
theorem qFx {P:Program} {K K':Fr→Heap→Prop} (h:∀ fr H,K fr H→K' fr H):∀ (is:List AIns) (fr:Fr) (H:Heap),wOps P K is fr H→wOps P K' is fr H
  | [],fr,H,x=>by rw [wOps] at x ⊢; exact h fr H x
  | ⟨d,g,o,fl⟩ :: is,fr,H,x=>by
    rw [wOps] at x ⊢
    split at x
    . rename_i hg
      rw [if_pos hg];cases o with
      | q o =>
        simp only [wOp] at x ⊢
        split at x
        . exact qFx h is _ _ x
        . exact x.elim
      | e o =>
        simp only [wOp] at x ⊢
        split at x
        . exact ⟨x.1,qFx h is _ _ x.2⟩
        . exact x.elim
      | call f args =>
        simp only [wOp] at x ⊢;exact x.mono fun v H' y=>⟨y.1,qFx h is _ _ y.2⟩
      | callv g args =>
        simp only [wOp] at x ⊢
        split at x
        . exact ⟨x.1,x.2.mono fun v H' y=>⟨y.1,qFx h is _ _ y.2⟩⟩
        . exact x.elim
      | nilT g y =>
        simp only [wOp] at x ⊢;exact ⟨x.1,fun b hb=>qFx h is _ _ (x.2 b hb)⟩
      | st o=>simp only [wOp] at x
    . rename_i hg
      rw [if_neg hg];exact qFx h is _ _ x

theorem qFh {f f':Fr→Heap→Prop} {Q Q':Exit→Fr→Heap→Prop} (hf:∀ fr H,f fr H→f' fr H) (h:∀ e fr H,Q e fr H→Q' e fr H):∀ e fr H,SeqK f Q e fr H→SeqK f' Q' e fr H:=by
  intro e fr H x;cases e<;>first | exact hf _ _ x | exact h _ _ _ x
theorem BlockK_mono {id:Nat} {Q Q':Exit→Fr→Heap→Prop} (h:∀ e fr H,Q e fr H→Q' e fr H):∀ e fr H,qEu id Q e fr H→qEu id Q' e fr H:=by
  intro e fr H x;cases e with
  | exit i =>
    simp only [qEu] at x ⊢
    split at x
    . rename_i e; rw [if_pos e]; exact h _ _ _ x
    . rename_i e; rw [if_neg e]; exact h _ _ _ x
  | _=>exact h _ _ _ x
theorem qEn {l:Nat} {f f':Fr→Heap→Prop} {Q Q':Exit→Fr→Heap→Prop} (hf:∀ fr H,f fr H→f' fr H) (h:∀ e fr H,Q e fr H→Q' e fr H):∀ e fr H,qGn l f Q e fr H→qGn l f' Q' e fr H:=by
  intro e fr H x;cases e<;>first | exact ⟨x.1,hf _ _ x.2⟩ | exact h _ _ _ x
theorem qJl {body:(Exit→Fr→Heap→Prop)→Fr→Heap→Prop} (hb:∀ Q Q':Exit→Fr→Heap→Prop,(∀ e fr H,Q e fr H→Q' e fr H)→∀ fr H,body Q fr H→body Q' fr H) {Q Q':Exit→Fr→Heap→Prop} (h:∀ e fr H,Q e fr H→Q' e fr H) :
    ∀ (n:Nat) (fr:Fr) (H:Heap),rounds body Q n fr H→rounds body Q' n fr H
  | 0,_,_,x=>x.elim
  | n+1,fr,H,x=>hb _ _ (qFh (qJl hb h n) h) fr H x
theorem qJk {body:(Exit→Fr→Heap→Prop)→Fr→Heap→Prop} (hb:∀ Q Q':Exit→Fr→Heap→Prop,(∀ e fr H,Q e fr H→Q' e fr H)→∀ fr H,body Q fr H→body Q' fr H) {Q:Exit→Fr→Heap→Prop} :
    ∀ (n k:Nat) (fr:Fr) (H:Heap),n≤k→rounds body Q n fr H→rounds body Q k fr H
  | 0,_,_,_,_,x=>x.elim
  | n+1,0,_,_,hk,_=>by omega
  | n+1,k+1,fr,H,hk,x=>hb _ _ (qFh (fun fr H y=>qJk hb n k fr H (by omega) y) fun _ _ _ y=>y) fr H x
theorem qLc {body:(Exit→Fr→Heap→Prop)→Fr→Heap→Prop} (hb:∀ Q Q':Exit→Fr→Heap→Prop,(∀ e fr H,Q e fr H→Q' e fr H)→∀ fr H,body Q fr H→body Q' fr H) {l:Nat} {Q Q':Exit→Fr→Heap→Prop} (h:∀ e fr H,Q e fr H→Q' e fr H) :
    ∀ (n:Nat) (fr:Fr) (H:Heap),qLd body l Q n fr H→qLd body l Q' n fr H
  | 0,_,_,x=>x.elim
  | n+1,fr,H,x=>hb _ _ (qEn (qLc hb h n) h) fr H x
theorem qGw {body:(Exit→Fr→Heap→Prop)→Fr→Heap→Prop} (hb:∀ Q Q':Exit→Fr→Heap→Prop,(∀ e fr H,Q e fr H→Q' e fr H)→∀ fr H,body Q fr H→body Q' fr H) {l:Nat} {Q:Exit→Fr→Heap→Prop} :
    ∀ (n k:Nat) (fr:Fr) (H:Heap),n≤k→qLd body l Q n fr H→qLd body l Q k fr H
  | 0,_,_,_,_,x=>x.elim
  | n+1,0,_,_,hk,_=>by omega
  | n+1,k+1,fr,H,hk,x=>hb _ _ (qEn (fun fr H y=>qGw hb n k fr H (by omega) y) fun _ _ _ y=>y) fr H x
theorem condK_mono {x y x' y':Fr→Heap→Prop} (h1:∀ fr H,x fr H→x' fr H) (h2:∀ fr H,y fr H→y' fr H):∀ v fr H,qLh x y v fr H→qLh x' y' v fr H:=by
  intro v fr H h;cases v with
  | bool t =>
    simp only [qLh] at h ⊢
    split at h
    . rename_i e; rw [if_pos e]; exact h1 _ _ h
    . rename_i e; rw [if_neg e]; exact h2 _ _ h
  | _=>exact h.elim
theorem qCw {P:Program}:∀ (c:AC) (Q Q':Exit→Fr→Heap→Prop),(∀ e fr H,Q e fr H→Q' e fr H)→∀ fr H,awp P c Q fr H→awp P c Q' fr H
  | .skip,_,_,h,_,_,x=>h _ _ _ x
  | .ops is,_,_,h,fr,H,x=>qFx (h .normal) is fr H x
  | .seq a b,_,_,h,fr,H,x=>qCw a _ _ (qFh (qCw b _ _ h) h) fr H x
  | .cond c a b,_,_,h,fr,H,x=>condK_mono (qCw a _ _ h) (qCw b _ _ h) _ fr H x
  | .block id a,_,_,h,fr,H,x=>qCw a _ _ (BlockK_mono h) fr H x
  | .loop a,_,_,h,fr,H,⟨n,x⟩=>⟨n,qJl (fun _ _=>qCw a _ _) h n fr H x⟩
  | .exit _,_,_,h,_,_,x=>h _ _ _ x
  | .label _,_,_,h,_,_,x=>h _ _ _ x
  | .goto _,_,_,h,_,_,x=>h _ _ _ x
  | .scope l a r,_,_,h,fr,H,⟨n,x⟩=>⟨n,qCw a _ _ (qEn (qLc (fun _ _=>qCw r _ _) h n) h) fr H x⟩
  | .ret,_,_,h,_,_,x=>h _ _ _ x

theorem loop_rule {P:Program} {a:AC} {Q:Exit→Fr→Heap→Prop} (I:Nat→Fr→Heap→Prop) (step:∀ n fr H,I n fr H→awp P a (SeqK (fun fr H=>∃ k,k < n∧I k fr H) Q) fr H) {n:Nat} {fr:Fr} {H:Heap} (h:I n fr H) :
    awp P (.loop a) Q fr H:=by
  have key:∀ (n:Nat),∀ fr H,I n fr H→rounds (awp P a) Q (n+1) fr H:=by
    intro n
    induction n using Nat.strongRecOn with
    | ind n ih =>
      intro fr H h;refine qCw a _ _ (qFh ?_ fun _ _ _ x=>x) fr H (step n fr H h)
      rintro fr H ⟨k,hk,hI⟩;exact qJk (fun _ _=>qCw a _ _) (k+1) n fr H (by omega) (ih k hk fr H hI)
  exact ⟨n+1,key n fr H h⟩

theorem scope_rule {P:Program} {l:Nat} {a r:AC} {Q:Exit→Fr→Heap→Prop} (I:Nat→Fr→Heap→Prop) (step:∀ n fr H,I n fr H→awp P r (qGn l (fun fr H=>∃ k,k < n∧I k fr H) Q) fr H) {fr:Fr} {H:Heap} {b:Nat}
    (h:awp P a (qGn l (fun fr H=>∃ k,k < b∧I k fr H) Q) fr H):awp P (.scope l a r) Q fr H:=by
  have key:∀ (n:Nat),∀ fr H,I n fr H→qLd (awp P r) l Q (n+1) fr H:=by
    intro n
    induction n using Nat.strongRecOn with
    | ind n ih =>
      intro fr H h;refine qCw r _ _ (qEn ?_ fun _ _ _ x=>x) fr H (step n fr H h)
      rintro fr H ⟨k,hk,hI⟩;exact qGw (fun _ _=>qCw r _ _) (k+1) n fr H (by omega) (ih k hk fr H hI)
  refine ⟨b,qCw a _ _ (qEn ?_ fun _ _ _ x=>x) fr H h⟩
  rintro fr H ⟨k,hk,hI⟩;exact qGw (fun _ _=>qCw r _ _) (k+1) b fr H (by omega) (key k fr H hI)

/-! ### Forms that are walked by rewriting -/
def optK {α:Type} (o:Option α) (k:α→Prop):Prop:=match o with | some v=>k v | none=>False
@[congr] theorem optK_congr {α:Type} {o o':Option α} {k:α→Prop} (h:o=o'):optK o k=optK o' k:=by rw [h]
@[simp] theorem optK_some {α:Type} {v:α} {k:α→Prop}:optK (some v) k=k v:=Eq.trans rfl rfl
def qK (P:Program) (K:Fr→Heap→Prop) (is:List AIns) (d:Option Nat) (fr:Fr) (H:Heap) (o:Option Value):Prop:=match o with | some v=>wOps P K is (updO fr d v) H | none=>False
def eK (P:Program) (K:Fr→Heap→Prop) (is:List AIns) (d:Option Nat) (fl:List QOp) (fr:Fr) (H:Heap) (o:Option (Value×Heap)):Prop:=match o with | some x=>qFm fr H x.2 fl∧wOps P K is (updO fr d x.1) x.2 | none=>False
def callK (P:Program) (K:Fr→Heap→Prop) (is:List AIns) (d:Option Nat) (fl:List QOp) (fr:Fr) (H:Heap) (v:Value) (H':Heap):Prop:=qFm fr H H' fl∧wOps P K is (updO fr d v) H'
def cK (P:Program) (a b:AC) (Q:Exit→Fr→Heap→Prop) (fr:Fr) (H:Heap) (v:Value):Prop:=match v with | .bool t=>if t=true then awp P a Q fr H else awp P b Q fr H | _=>False
def gK (P:Program) (K:Fr→Heap→Prop) (w:Bool) (i:AIns) (is:List AIns) (fr:Fr) (H:Heap) (v:Value):Prop :=
  if (match v with | .bool c=>c == w | _=>false)=true then wOps P K (i :: is) fr H else wOps P K is (updO fr i.dst (.tuple #[])) H
section
variable {P : Program} {K : Fr → Heap → Prop} {is : List AIns} {d : Option Nat} {fl : List QOp} {fr fr' : Fr} {H H' : Heap} {a b : AC} {Q : Exit → Fr → Heap → Prop}
@[congr] theorem qK_congr {o o':Option Value} (h:o=o'):qK P K is d fr H o=qK P K is d fr H o':=by rw [h]
@[congr] theorem eK_congr {o o':Option (Value×Heap)} (h:o=o'):eK P K is d fl fr H o=eK P K is d fl fr H o':=by rw [h]
@[congr] theorem cK_congr {v v':Value} (h:v=v'):cK P a b Q fr H v=cK P a b Q fr H v':=by rw [h]
@[congr] theorem gK_congr {w:Bool} {i:AIns} {v v':Value} (h:v=v'):gK P K w i is fr H v=gK P K w i is fr H v':=by rw [h]
@[simp] theorem qK_some {v:Value}:qK P K is d fr H (some v)=wOps P K is (updO fr d v) H:=Eq.trans rfl rfl
@[simp] theorem eK_some {v:Value}:eK P K is d fl fr H (some (v,H'))=(qFm fr H H' fl∧wOps P K is (updO fr d v) H'):=Eq.trans rfl rfl
@[simp] theorem cK_true:cK P a b Q fr H (.bool true)=awp P a Q fr H:=by simp only [cK,if_true]
@[simp] theorem cK_false:cK P a b Q fr H (.bool false)=awp P b Q fr H:=by simp only [cK,Bool.false_eq_true,if_false]
@[simp] theorem gK_tt {i:AIns}:gK P K true i is fr H (.bool true)=wOps P K (i :: is) fr H:=if_pos rfl
@[simp] theorem gK_ff {i:AIns}:gK P K false i is fr H (.bool false)=wOps P K (i :: is) fr H:=if_pos rfl
@[simp] theorem gK_tf {i:AIns}:gK P K true i is fr H (.bool false)=wOps P K is (updO fr i.dst (.tuple #[])) H:=if_neg (by simp)
@[simp] theorem gK_ft {i:AIns}:gK P K false i is fr H (.bool true)=wOps P K is (updO fr i.dst (.tuple #[])) H:=if_neg (by simp)
theorem callK_def {v:Value}:callK P K is d fl fr H v H'=(qFm fr H H' fl∧wOps P K is (updO fr d v) H'):=Eq.trans rfl rfl
theorem eK_optK {o:Option (Value×Heap)}:eK P K is d fl fr H o=optK o fun x=>qFm fr H x.2 fl∧wOps P K is (updO fr d x.1) x.2:=by cases o<;>rfl
end

section
variable {P : Program} {K : Fr → Heap → Prop} {Q : Exit → Fr → Heap → Prop} {fr : Fr} {H : Heap}
@[simp] theorem ev_tmp {t:Nat}:ev fr (.tmp t)=fr t:=Eq.trans rfl rfl
@[simp] theorem ev_const {v:Value}:ev fr (.const v)=v:=Eq.trans rfl rfl
@[simp] theorem ev_func {f:FuncId}:ev fr (.func f)=.func (.func f) #[] #[]:=Eq.trans rfl rfl
@[simp] theorem upd_same {t:Nat} {v:Value}:upd fr t v t=v:=if_pos rfl
@[simp] theorem upd_far {t d:Nat} {v:Value} (h:t≠d):upd fr d v t=fr t:=if_neg h
@[simp] theorem updO_some {d:Nat} {v:Value}:updO fr (some d) v=upd fr d v:=Eq.trans rfl rfl
@[simp] theorem updO_none {v:Value}:updO fr none v=fr:=Eq.trans rfl rfl
@[simp] theorem SeqK_normal {f:Fr→Heap→Prop}:SeqK f Q .normal fr H=f fr H:=Eq.trans rfl rfl
@[simp] theorem SeqK_exit {f:Fr→Heap→Prop} {i:Nat}:SeqK f Q (.exit i) fr H=Q (.exit i) fr H:=Eq.trans rfl rfl
@[simp] theorem SeqK_goto {f:Fr→Heap→Prop} {i:Nat}:SeqK f Q (.goto i) fr H=Q (.goto i) fr H:=Eq.trans rfl rfl
@[simp] theorem SeqK_ret {f:Fr→Heap→Prop}:SeqK f Q .ret fr H=Q .ret fr H:=Eq.trans rfl rfl
@[simp] theorem BlockK_normal {id:Nat}:qEu id Q .normal fr H=Q .normal fr H:=Eq.trans rfl rfl
@[simp] theorem BlockK_goto {id i:Nat}:qEu id Q (.goto i) fr H=Q (.goto i) fr H:=Eq.trans rfl rfl
@[simp] theorem BlockK_ret {id:Nat}:qEu id Q .ret fr H=Q .ret fr H:=Eq.trans rfl rfl
@[simp] theorem BlockK_same {id:Nat}:qEu id Q (.exit id) fr H=Q .normal fr H:=if_pos rfl
@[simp] theorem BlockK_far {id i:Nat} (h:i≠id):qEu id Q (.exit i) fr H=Q (.exit i) fr H:=if_neg h
@[simp] theorem JumpK_normal {l:Nat} {f:Fr→Heap→Prop}:qGn l f Q .normal fr H=Q .normal fr H:=Eq.trans rfl rfl
@[simp] theorem JumpK_exit {l:Nat} {f:Fr→Heap→Prop} {i:Nat}:qGn l f Q (.exit i) fr H=Q (.exit i) fr H:=Eq.trans rfl rfl
@[simp] theorem JumpK_ret {l:Nat} {f:Fr→Heap→Prop}:qGn l f Q .ret fr H=Q .ret fr H:=Eq.trans rfl rfl
@[simp] theorem JumpK_goto {l:Nat} {f:Fr→Heap→Prop}:qGn l f Q (.goto l) fr H=f fr H:=by simp [qGn]
@[congr] theorem awp_congr {c:AC} {fr fr':Fr} {H H':Heap} (h:fr=fr') (k:H=H'):awp P c Q fr H=awp P c Q fr' H':=by rw [h,k]
@[congr] theorem wOps_congr {is:List AIns} {fr fr':Fr} {H H':Heap} (h:fr=fr') (k:H=H'):wOps P K is fr H=wOps P K is fr' H':=by rw [h,k]
@[simp] theorem awp_skip:awp P .skip Q fr H=Q .normal fr H:=Eq.trans rfl rfl
@[simp] theorem awp_ops {is:List AIns}:awp P (.ops is) Q fr H=wOps P (Q .normal) is fr H:=Eq.trans rfl rfl
@[simp] theorem awp_seq {a b:AC}:awp P (.seq a b) Q fr H=awp P a (SeqK (awp P b Q) Q) fr H:=Eq.trans rfl rfl
@[simp] theorem awp_cond {c:Operand} {a b:AC}:awp P (.cond c a b) Q fr H=cK P a b Q fr H (ev fr c):=by
  simp only [awp];cases ev fr c<;>rfl
@[simp] theorem awp_block {id:Nat} {a:AC}:awp P (.block id a) Q fr H=awp P a (qEu id Q) fr H:=Eq.trans rfl rfl
@[simp] theorem awp_exit {i:Nat}:awp P (.exit i) Q fr H=Q (.exit i) fr H:=Eq.trans rfl rfl
@[simp] theorem awp_label {i:Nat}:awp P (.label i) Q fr H=Q .normal fr H:=Eq.trans rfl rfl
@[simp] theorem awp_goto {i:Nat}:awp P (.goto i) Q fr H=Q (.goto i) fr H:=Eq.trans rfl rfl
@[simp] theorem awp_ret:awp P .ret Q fr H=Q .ret fr H:=Eq.trans rfl rfl
@[simp] theorem wOps_nil:wOps P K [] fr H=K fr H:=by rw [wOps]
@[simp] theorem wOps_q {d:Option Nat} {o:QOp} {fl:List QOp} {is:List AIns}:wOps P K (⟨d,none,.q o,fl⟩ :: is) fr H=qK P K is d fr H (qop o fr H):=by
  rw [wOps,if_pos (show qCe fr none=true from rfl),wOp]; cases qop o fr H<;>rfl
@[simp] theorem wOps_e {d:Option Nat} {o:EOp} {fl:List QOp} {is:List AIns}:wOps P K (⟨d,none,.e o,fl⟩ :: is) fr H=eK P K is d fl fr H (eop o fr H):=by
  rw [wOps,if_pos (show qCe fr none=true from rfl),wOp];cases eop o fr H<;>rfl
@[simp] theorem wOps_call {d:Option Nat} {f:FuncId} {args:List Operand} {fl:List QOp} {is:List AIns}:wOps P K (⟨d,none,.call f args,fl⟩ :: is) fr H=qCq P f (args.map (ev fr)) H (callK P K is d fl fr H):=by
  rw [wOps,if_pos (show qCe fr none=true from rfl),wOp]; rfl
@[simp] theorem wOps_g {d:Option Nat} {t:Nat} {b:Bool} {o:AOp} {fl:List QOp} {is:List AIns}:wOps P K (⟨d,some (t,b),o,fl⟩ :: is) fr H=gK P K b ⟨d,none,o,fl⟩ is fr H (fr t):=by
  have e:qCe fr (some (t,b))=(match fr t with | .bool c=>c == b | _=>false):=by
    simp only [qCe]; cases fr t<;>rfl
  unfold gK;rw [wOps,e]
  generalize (match fr t with | .bool c=>c == b | _=>false)=x
  cases x
  . rfl
  . rw [if_pos rfl,if_pos rfl,wOps,if_pos (show qCe fr none=true from rfl)]
@[congr] theorem ACall_congr {f:FuncId} {args args':List Value} {H H':Heap} {K:Value→Heap→Prop} (h:args=args') (k:H=H'):qCq P f args H K=qCq P f args' H' K:=by rw [h,k]
end

@[simp] theorem qop_val {fr:Fr} {H:Heap} {x:Operand}:qop (.val x) fr H=(some (ev fr x)):=Eq.trans rfl rfl
@[simp] theorem qop_pick {fr:Fr} {H:Heap} {c:Operand} {a:Operand} {b:Operand}:qop (.pick c a b) fr H=(qOp (ev fr a) (ev fr b) (ev fr c)):=Eq.trans rfl rfl
@[simp] theorem qop_build {fr:Fr} {H:Heap} {z:List Value} {ps:List (Nat×Nat×Operand)}:qop (.build z ps) fr H=((qEa z (ps.map fun p=>(p.1,p.2.1,ev fr p.2.2))).map fun l=>.agg l.toArray):=Eq.trans rfl rfl
@[simp] theorem qop_load {fr:Fr} {H:Heap} {x:Operand}:qop (.load x) fr H=(ldV H (ev fr x)):=Eq.trans rfl rfl
@[simp] theorem qop_loadA {fr:Fr} {H:Heap} {n:Nat} {x:Operand}:qop (.loadA n x) fr H=(ldA H n (ev fr x)):=Eq.trans rfl rfl
@[simp] theorem qop_bin {fr:Fr} {H:Heap} {op:BinOp} {x:Operand} {y:Operand}:qop (.bin op x y) fr H=(binV op (ev fr x) (ev fr y)):=Eq.trans rfl rfl
@[simp] theorem qop_eqB {fr:Fr} {H:Heap} {neg:Bool} {x:Operand} {y:Operand}:qop (.eqB neg x y) fr H=(eqBV neg (ev fr x) (ev fr y)):=Eq.trans rfl rfl
@[simp] theorem qop_not {fr:Fr} {H:Heap} {x:Operand}:qop (.not x) fr H=(notV (ev fr x)):=Eq.trans rfl rfl
@[simp] theorem qop_neg {fr:Fr} {H:Heap} {x:Operand}:qop (.neg x) fr H=(negV (ev fr x)):=Eq.trans rfl rfl
@[simp] theorem qop_conv {fr:Fr} {H:Heap} {k:IntKind} {x:Operand}:qop (.conv k x) fr H=(qPl k (ev fr x)):=Eq.trans rfl rfl
@[simp] theorem qop_mfn {fr:Fr} {H:Heap} {f:Fn} {cs:List Operand}:qop (.mfn f cs) fr H=(some (.func f (cs.map (ev fr)).toArray #[])):=Eq.trans rfl rfl
@[simp] theorem qop_fn {fr:Fr} {H:Heap} {f:Fn} {cs:List Operand}:qop (.fn f cs) fr H=(some (.func f #[] (cs.map (ev fr)).toArray)):=Eq.trans rfl rfl
@[simp] theorem qop_cut {fr:Fr} {H:Heap} {esz:Nat} {x:Operand} {lo:Option Operand} {hi:Option Operand}:qop (.cut esz x lo hi) fr H=(cutV H esz (ev fr x) (lo.map (ev fr)) (hi.map (ev fr))):=Eq.trans rfl rfl
@[simp] theorem qop_fieldA {fr:Fr} {H:Heap} {off:Nat} {x:Operand}:qop (.fieldA off x) fr H=(qIe off (ev fr x)):=Eq.trans rfl rfl
@[simp] theorem qop_part {fr:Fr} {H:Heap} {n:Option Nat} {off:Nat} {x:Operand}:qop (.part n off x) fr H=(qKa n off (ev fr x)):=Eq.trans rfl rfl
@[simp] theorem qop_idxA {fr:Fr} {H:Heap} {esz:Nat} {x:Operand} {i:Operand}:qop (.idxA esz x i) fr H=(qGf esz (ev fr x) (ev fr i)):=Eq.trans rfl rfl
@[simp] theorem qop_idxP {fr:Fr} {H:Heap} {len:Nat} {esz:Nat} {x:Operand} {i:Operand}:qop (.idxP len esz x i) fr H=(qLe len esz (ev fr x) (ev fr i)):=Eq.trans rfl rfl
@[simp] theorem qop_idx {fr:Fr} {H:Heap} {n:Option Nat} {len:Nat} {esz:Nat} {x:Operand} {i:Operand}:qop (.idx n len esz x i) fr H=(idxV n len esz (ev fr x) (ev fr i)):=Eq.trans rfl rfl
@[simp] theorem qop_ext {fr:Fr} {H:Heap} {x:Operand} {i:Nat}:qop (.ext x i) fr H=(extV i (ev fr x)):=Eq.trans rfl rfl
@[simp] theorem qop_len {fr:Fr} {H:Heap} {x:Operand}:qop (.len x) fr H=(lenV (ev fr x)):=Eq.trans rfl rfl
@[simp] theorem qop_none3 {fr:Fr} {H:Heap} {x:Operand}:qop (.none3 x) fr H=(qNz (ev fr x)):=Eq.trans rfl rfl
@[simp] theorem qop_lenS {fr:Fr} {H:Heap} {x:Operand}:qop (.lenS x) fr H=(qQv (ev fr x)):=Eq.trans rfl rfl
@[simp] theorem qop_idxS {fr:Fr} {H:Heap} {x:Operand} {i:Operand}:qop (.idxS x i) fr H=(qQw (ev fr x) (ev fr i)):=Eq.trans rfl rfl
@[simp] theorem qop_ptrCk {fr:Fr} {H:Heap} {x:Operand}:qop (.ptrCk x) fr H=(ptrV (ev fr x)):=Eq.trans rfl rfl
@[simp] theorem qop_eqS {fr:Fr} {H:Heap} {neg:Bool} {x:Operand} {y:Operand}:qop (.eqS neg x y) fr H=(eqSV neg (ev fr x) (ev fr y)):=Eq.trans rfl rfl
@[simp] theorem qop_eqA {fr:Fr} {H:Heap} {n:List Nat} {neg:Bool} {x:Operand} {y:Operand}:qop (.eqA n neg x y) fr H=(eqAV n neg (ev fr x) (ev fr y)):=Eq.trans rfl rfl
@[simp] theorem qop_mm {fr:Fr} {H:Heap} {mx:Bool} {x:Operand} {ys:List Operand}:qop (.mm mx x ys) fr H=(mmV mx (ev fr x) (ys.map (ev fr))):=Eq.trans rfl rfl
@[simp] theorem eop_new {fr:Fr} {H:Heap} {z:List Value} {esz:Nat}:eop (.new z esz) fr H=(some (.pointer (some ⟨H.length,0,some 0⟩),newRow H z esz)):=Eq.trans rfl rfl
@[simp] theorem eop_box {fr:Fr} {H:Heap} {n:Nat} {esz:Nat} {x:Operand}:eop (.box n esz x) fr H=(match cellsOf (ev fr x) with | some vs=>if vs.length=n then some (.pointer (some ⟨H.length,0,some 0⟩),newRow H vs esz) else none | none=>none):=Eq.trans rfl rfl
@[simp] theorem eop_lit {fr:Fr} {H:Heap} {z:List Value} {esz:Nat} {len:Nat} {ps:List (Nat×Nat×Operand)}:eop (.lit z esz len ps) fr H=((qEa z (ps.map fun p=>(p.1,p.2.1,ev fr p.2.2))).map fun l=>(.slice (some ⟨H.length,0,none⟩) len 0,newRow H l esz)):=Eq.trans rfl rfl
@[simp] theorem eop_make {fr:Fr} {H:Heap} {z:List Value} {esz:Nat} {l:Operand} {c:Operand}:eop (.make z esz l c) fr H=(qIc H z esz (ev fr l) (ev fr c)):=Eq.trans rfl rfl
@[simp] theorem eop_store {fr:Fr} {H:Heap} {n:Nat} {p:Operand} {x:Operand}:eop (.store n p x) fr H=((qBu H n (ev fr p) (ev fr x)).map fun H=>(.tuple #[],H)):=Eq.trans rfl rfl
@[simp] theorem eop_app {fr:Fr} {H:Heap} {esz:Nat} {s:Operand} {x:Operand}:eop (.app esz s x) fr H=(appV H esz (ev fr s) (ev fr x)):=Eq.trans rfl rfl
@[simp] theorem eop_clear {fr:Fr} {H:Heap} {z:List Value} {x:Operand}:eop (.clear z x) fr H=((qIf H z (ev fr x)).map fun H=>(.tuple #[],H)):=Eq.trans rfl rfl
@[simp] theorem eop_copy {fr:Fr} {H:Heap} {esz:Nat} {d:Operand} {s:Operand}:eop (.copy esz d s) fr H=(qSm H esz (ev fr d) (ev fr s)):=Eq.trans rfl rfl
@[simp] theorem stays_nil {fr:Fr} {H H':Heap}:qFm fr H H' []=True:=Eq.trans rfl rfl
@[simp] theorem stays_cons {fr:Fr} {H H':Heap} {q:QOp} {qs:List QOp}:qFm fr H H' (q :: qs)=(qop q fr H'=qop q fr H∧qFm fr H H' qs):=Eq.trans rfl rfl
section
variable {a b : Value} {t u : Bool} {k : IntKind} {x y : Int} {H : Heap} {id off len ver n e : Nat} {s : ByteArray} {vs : Array Value}
@[simp] theorem pickV_bool:qOp a b (.bool t)=some (if t then a else b):=Eq.trans rfl rfl
@[simp] theorem eqBV_bool {g:Bool}:eqBV g (.bool t) (.bool u)=some (.bool (if g then t != u else t == u)):=Eq.trans rfl rfl
@[simp] theorem notV_bool:notV (.bool t)=some (.bool (!t)):=Eq.trans rfl rfl
@[simp] theorem negV_int:negV (.int k x)=some (.int k (k.wrap (0 - x))):=Eq.trans rfl rfl
@[simp] theorem convV_int {k':IntKind}:qPl k' (.int k x)=some (.int k' (k'.wrap x)):=Eq.trans rfl rfl
@[simp] theorem loV_none:loV none=some 0:=Eq.trans rfl rfl
@[simp] theorem loV_int:loV (some (.int k x))=if 0≤x then some x.toNat else none:=Eq.trans rfl rfl
@[simp] theorem hiV_none:hiV n none=some n:=Eq.trans rfl rfl
@[simp] theorem hiV_int:hiV n (some (.int k x))=if 0≤x∧x≤n then some x.toNat else none:=Eq.trans rfl rfl
@[simp] theorem fieldV_ptr:qIe n (.pointer (some ⟨id,off,some ver⟩))=some (.pointer (some ⟨id,off+n,some ver⟩)):=Eq.trans rfl rfl
@[simp] theorem idxPV_ptr:qLe len e (.pointer (some ⟨id,off,some ver⟩)) (.int k x)=if 0≤x∧x < len then some (.pointer (some ⟨id,off+x.toNat * e,some ver⟩)) else none:=Eq.trans rfl rfl
@[simp] theorem idxAV_slice:qGf e (.slice (some ⟨id,off,none⟩) len ver) (.int k x)=if 0≤x∧x < len then some (.pointer (some ⟨id,off+x.toNat * e,some ver⟩)) else none:=Eq.trans rfl rfl
@[simp] theorem lenV_slice {o:Option Addr}:lenV (.slice o len ver)=some (.int .i64 len):=Eq.trans rfl rfl
@[simp] theorem lenSV_string:qQv (.string s)=some (.int .i64 s.size):=Eq.trans rfl rfl
@[simp] theorem idxSV_string:qQw (.string s) (.int k x)=if 0≤x then (s[x.toNat]?).map fun b=>.int .u8 b.toNat else none:=Eq.trans rfl rfl
@[simp] theorem ptrV_ptr {o:Addr}:ptrV (.pointer (some o))=some (.pointer (some o)):=Eq.trans rfl rfl
@[simp] theorem eqSV_string {g:Bool} {s':ByteArray}:eqSV g (.string s) (.string s')=some (.bool (if g then !(s == s') else s == s')):=Eq.trans rfl rfl
@[simp] theorem extV_tup {i:Nat}:extV i (.tuple vs)=vs[i]?:=Eq.trans rfl rfl
@[simp] theorem ldV_ptr:ldV H (.pointer (some ⟨id,off,some ver⟩))=H.cell? id off ver:=Eq.trans rfl rfl
@[simp] theorem ldA_ptr:ldA H n (.pointer (some ⟨id,off,some ver⟩))=(H.cells? id off ver n).map fun l=>.agg l.toArray:=Eq.trans rfl rfl
@[simp] theorem cutV_nil {lo hi:Option Value}:cutV H e (.slice none 0 0) lo hi=match loV lo,hiV 0 hi with | some l,some h=>if l≤h then some (.slice none 0 0) else none | _,_=>none:=Eq.trans rfl rfl
@[simp] theorem cutV_slice {lo hi:Option Value}:cutV H e (.slice (some ⟨id,off,none⟩) len ver) lo hi =
    match H.row? id ver,loV lo,hiV len hi with | some r,some l,some h=>if r.esz=e∧l≤h then some (.slice (some ⟨id,off+l * e,none⟩) (h - l) ver) else none | _,_,_=>none:=Eq.trans rfl rfl
end

@[simp] theorem binV_add {k:IntKind} {a b:Int}:binV .add (.int k a) (.int k b)=some (.int k (k.wrap (a+b))):=by simp [binV,isSh,binI]
@[simp] theorem binV_sub {k:IntKind} {a b:Int}:binV .sub (.int k a) (.int k b)=some (.int k (k.wrap (a - b))):=by simp [binV,isSh,binI]
@[simp] theorem binV_mul {k:IntKind} {a b:Int}:binV .mul (.int k a) (.int k b)=some (.int k (k.wrap (a * b))):=by simp [binV,isSh,binI]
@[simp] theorem binV_quo {k:IntKind} {a b:Int}:binV .quo (.int k a) (.int k b)=if b=0 then none else some (.int k (k.wrap (a.tdiv b))):=by simp [binV,isSh,binI]
@[simp] theorem binV_rem {k:IntKind} {a b:Int}:binV .rem (.int k a) (.int k b)=if b=0 then none else some (.int k (a.tmod b)):=by simp [binV,isSh,binI]
@[simp] theorem binV_and {k:IntKind} {a b:Int}:binV .and (.int k a) (.int k b)=some (.int k (bits k .and a b)):=by simp [binV,isSh,binI]
@[simp] theorem binV_or {k:IntKind} {a b:Int}:binV .or (.int k a) (.int k b)=some (.int k (bits k .or a b)):=by simp [binV,isSh,binI]
@[simp] theorem binV_xor {k:IntKind} {a b:Int}:binV .xor (.int k a) (.int k b)=some (.int k (bits k .xor a b)):=by simp [binV,isSh,binI]
@[simp] theorem binV_andNot {k:IntKind} {a b:Int}:binV .andNot (.int k a) (.int k b)=some (.int k (bits k .andNot a b)):=by simp [binV,isSh,binI]
@[simp] theorem binV_eql {k:IntKind} {a b:Int}:binV .eql (.int k a) (.int k b)=some (.bool (decide (a=b))):=by simp [binV,isSh,binI]
@[simp] theorem binV_neq {k:IntKind} {a b:Int}:binV .neq (.int k a) (.int k b)=some (.bool (!decide (a=b))):=by simp [binV,isSh,binI]
@[simp] theorem binV_lss {k:IntKind} {a b:Int}:binV .lss (.int k a) (.int k b)=some (.bool (decide (a < b))):=by simp [binV,isSh,binI]
@[simp] theorem binV_leq {k:IntKind} {a b:Int}:binV .leq (.int k a) (.int k b)=some (.bool (decide (a≤b))):=by simp [binV,isSh,binI]
@[simp] theorem binV_gtr {k:IntKind} {a b:Int}:binV .gtr (.int k a) (.int k b)=some (.bool (decide (b < a))):=by simp [binV,isSh,binI]
@[simp] theorem binV_geq {k:IntKind} {a b:Int}:binV .geq (.int k a) (.int k b)=some (.bool (decide (b≤a))):=by simp [binV,isSh,binI]
theorem binV_shl {k k':IntKind} {a b:Int} (h:0≤b):binV .shl (.int k a) (.int k' b)=some (.int k (k.wrap (a * 2 ^ (min b.toNat k.bits)))):=by simp [binV,isSh,shI,Int.not_lt.2 h]
theorem wrap_i64 {x:Int} (h1:-9223372036854775808≤x) (h2:x≤9223372036854775807):IntKind.wrap .i64 x=x:=by
  simp [IntKind.wrap,IntKind.bits,IntKind.signed]; omega
theorem qGk {x:Int} (h1:0≤x) (h2:x≤255):IntKind.wrap .u8 x=x:=by
  simp [IntKind.wrap,IntKind.bits,IntKind.signed]; omega
theorem wrap_u64 {x:Int} (h1:0≤x) (h2:x≤18446744073709551615):IntKind.wrap .u64 x=x:=by
  simp [IntKind.wrap,IntKind.bits,IntKind.signed]; omega

@[simp] theorem app_at0 {l m:Heap}:(l++m)[l.length]?=m[0]?:=by rw [List.getElem?_append_right (by omega)]; congr 1; omega
@[simp] theorem app_at {l m:Heap} {i:Nat}:(l++m)[l.length+i]?=m[i]?:=by rw [List.getElem?_append_right (by omega)]; congr 1; omega
@[simp] theorem app_set0 {l m:Heap} {x:Ob}:(l++m).set l.length x=l++m.set 0 x:=by simp
@[simp] theorem app_set {l m:Heap} {i:Nat} {x:Ob}:(l++m).set (l.length+i) x=l++m.set i x:=by rw [List.set_append_right _ _ (by omega)]; congr 2; omega

theorem qCq.forget {P:Program} {f:FuncId} {args:List Value} {H:Heap} {K:Value→Heap→Prop} (h:qCq P f args H fun v H'=>(∃ ext,H'=H++ext)∧qEt v=true∧K v H):qCq P f args H K:=by
  intro m w cargs hA hv;refine (h m w cargs hA hv).mono fun e w'=>?_
  rintro ⟨v,c,H',m',he,⟨⟨ext,rfl⟩,hp,hk⟩,hvc,hA',hK⟩;obtain ⟨k1,k2⟩:=hA.forget hK hA';refine ⟨v,c,H,m,he,hk,?_,k1,k2⟩;have:=(qKy m hp);exact VRel.back this hK.ext hvc

end Am
