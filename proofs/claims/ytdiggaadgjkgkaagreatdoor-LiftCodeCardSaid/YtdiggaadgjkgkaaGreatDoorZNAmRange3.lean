/- The abstract machine: code in the rounds of a range over a function, and code that calls yield: what is shown of it holds of the model's run.
   No condition: plain lemmas. -/
import Derived.RangeFuncRecord
import Derived.LoopNIn
import Derived.RangeFuncOwn
import Derived.Test.YtdiggaadgjkgkaaGreatDoorZNAmWalk
namespace Am
set_option linter.unusedSimpArgs false
set_option linter.unusedVariables false
open Go

abbrev FW (ro:Option Nat):Fence:={ Fence.wide with round:=ro }
theorem qRn {ro:Option Nat} {n:Nat} {P:Program} {f:FuncId} {args:Array Value} {w:World} {R:Ending→World→Prop} (h:Calls P f args w R):CallsIn (FW ro) n P f args w R :=
  show CallsIn Fence.wide n P f args w R from callsIn_wide.2 h

section
variable {P : Program} {m : Mu} {H : Heap} {w : World} {fr : Fr} {a : Act} {N : Nat} {ro : Option Nat} {n : Nat}

theorem notDefer {o:Op} {op:AOp} (h:cOp P o=some op):∀ c,o≠.defer c:=by
  intro c e;subst e;simp [cOp,cQ,cE] at h

theorem op_soundIn {K:Fr→Heap→Prop} {is:List AIns} {d:Option Nat} {fl:List QOp} {o:Oper} {op:AOp} (hc:cOp P o.op=some op) (hd:o.dst=d) (hdn:qPj N d=true) (hA:ARel m H w) (hF:FRel m fr a) (hN:a.tmps.size=N)
    (h:wOp P K is d fl op fr H) (next:Act→World→Prop) (Q:Exit→Act→World→Prop)
    (hn:∀ (v c:Value) (H':Heap) (m':Mu) (w':World),qFm fr H H' fl→wOps P K is (updO fr d v) H'→VRel m' v c→ARel m' H' w'→Kept m H w m' H' w'→FRel m' (updO fr d v) (a.put d c)→next (a.put d c) w'):o.wpIn (FW ro) n P a w next Q:=by
  subst hd;refine ⟨fun _ _=>trivial,?_⟩
  rw [Oper.semAt_eq _ _ _ (notDefer hc)];have hstay0:∀ l,qFm fr H H l:=by intro l; induction l with | nil=>trivial | cons q l ih=>exact ⟨rfl,ih⟩
  unfold cOp at hc
  split at hc
  . rename_i q hq
    cases hc;simp only [wOp] at h
    split at h
    . rename_i v hv
      obtain ⟨c,k1,k2⟩:=qMq hA hF hq hv;rw [k1];exact hn v c H m w (hstay0 fl) h k2 hA (.refl _ _ _) (hF.upd _ k2 (qFe hdn hN))
    . exact h.elim
  . split at hc
    . rename_i e he
      cases hc;simp only [wOp] at h
      split at h
      . rename_i v H' hv
        obtain ⟨n,c,w',m',k1,k2,k3,k4,k5⟩:=qNe hA hF he hv;rw [k1];rcases k2 with rfl | ⟨rfl,rfl⟩
        . exact hn v c H' m' w' h.1 h.2 k3 k4 k5 ((hF.mono k5.ext).upd _ k3 (qFe hdn hN))
        . exact hn v undef H' m' w' h.1 h.2 k3 k4 k5 ((hF.mono k5.ext).upd _ k3 (qFe hdn hN))
      . exact h.elim
    . split at hc
      . rename_i f args tys ho
        split at hc
        . rename_i hok
          cases hc;simp only [Bool.and_eq_true] at hok;obtain ⟨dst,op',ty,pos,after,guard⟩:=o;simp only at ho hn h hdn;subst ho;rw [qOl hok.2];simp only [wOp] at h;refine ⟨fun hd=>by simp [Fence.wide] at hd,qRn ((h m w (args.map a.eval) hA (by simpa using qEd hF hok.1)).mono ?_)⟩
          rintro e w' ⟨v,c,H',m',rfl,⟨hs,hK⟩,k3,k4,k5⟩;exact hn v c H' m' w' hs hK k3 k4 k5 ((hF.mono k5.ext).upd _ k3 (qFe hdn hN))
        . cases hc
      . rename_i t args tys ho
        split at hc
        . rename_i hok
          cases hc;obtain ⟨dst,op',ty,pos,after,guard⟩:=o;simp only at ho hn h hdn;subst ho;simp only [wOp] at h
          split at h
          . rename_i f first caps hev
            have hr:=hF.ev (x:=.tmp t) rfl;rw [hev] at hr;cases hg:a.eval (.tmp t)<;>rw [hg] at hr<;>cases hr;rename_i f1 g1 s1 r1 s2 r2;rw [qMl hg h.1];refine ⟨fun hd=>by simp [Fence.wide] at hd,qRn ((h.2 m w (f1++args.map a.eval++g1) hA ?_).mono ?_)⟩
            . simp only [Array.toList_append,Array.toList_map]
              exact ((VRels.of_get (by simpa using s1) fun i x y hx hy=>r1 i x y (by simpa using hx) (by simpa using hy)).append (qEd hF hok)).append
                (.of_get (by simpa using s2) fun i x y hx hy=>r2 i x y (by simpa using hx) (by simpa using hy))
            . rintro e w' ⟨v,c,H',m',rfl,⟨hs,hK⟩,k3,k4,k5⟩
              exact hn v c H' m' w' hs hK k3 k4 k5 ((hF.mono k5.ext).upd _ k3 (qFe hdn hN))
          . exact h.elim
        . cases hc
      . rename_i t x yt ho
        split at hc
        . rename_i hok
          split at hc
          . rename_i e ht
            cases hc;obtain ⟨dst,op',ty,pos,after,guard⟩:=o;simp only at ho hn h hdn;subst ho;simp only [wOp] at h;obtain ⟨b,k1,k2⟩:=qIr (w:=w) (hF.ev hok) h.1 ht false dst yt ty pos after guard;simp only [Bool.false_eq_true,if_false] at k2;rw [k2];exact hn _ _ H m w (hstay0 fl) (h.2 b k1) (.bool _) hA (.refl _ _ _) (hF.upd _ (.bool _) (qFe hdn hN))
          . cases hc
        . cases hc
      . rename_i t x yt ho
        split at hc
        . rename_i hok
          split at hc
          . rename_i e ht
            cases hc;obtain ⟨dst,op',ty,pos,after,guard⟩:=o;simp only at ho hn h hdn;subst ho;simp only [wOp] at h;obtain ⟨b,k1,k2⟩:=qIr (w:=w) (hF.ev hok) h.1 ht true dst yt ty pos after guard;simp only [if_true] at k2;rw [k2];exact hn _ _ H m w (hstay0 fl) (h.2 b k1) (.bool _) hA (.refl _ _ _) (hF.upd _ (.bool _) (qFe hdn hN))
          . cases hc
        . cases hc
      . cases hc
end

def qLr (G:Option Code→World→Prop):Prop:=∀ s m H w m' H' w',G s w→ARel m H w→Kept m H w m' H' w'→G s w'
def qSh (P:Program) (l:Nat) (G:Option Code→World→Prop) (m0:Mu) (H0:Heap) (w0:World) (args:List Value) (H:Heap) (K:Option Code→Heap→Prop):Prop :=
  ∀ (m:Mu) (w:World) (cargs:Array Value),G none w→ARel m H w→Kept m0 H0 w0 m H w→VRels m args cargs.toList →
    ∃ fn tmps assign body,(Instr.yield l cargs).run P w=.ok (.round l fn tmps assign body) w ∧
      RoundIn (FW none) 0 P l fn tmps assign body w fun e w'=>∃ s H' m',e=.returned (.bool (Option.isNone s))∧K s H'∧ARel m' H' w'∧MExt m m'∧Kept m0 H0 w0 m' H' w'∧G s w'

abbrev YSem:=List Value→Heap→(Option Code→Heap→Prop)→Prop
def NoY:YSem:=fun _ _ _=>False
section
variable (P : Program) (l : Nat) (Y : YSem)
def yOps (K:Option Code→Fr→Heap→Prop):List AIns→Option Code→Fr→Heap→Prop
  | [],s,fr,H=>K s fr H
  | ⟨d,none,.callv (.tmp t) args,[]⟩ :: is,s,fr,H =>
    (fr t=.func (.yield l) #[] #[]∧s=none∧Y (args.map (ev fr)) H fun s' H'=>yOps K is s' (updO fr d (.bool (Option.isNone s'))) H') ∨
    ((∀ l,fr t≠.func (.yield l) #[] #[])∧wOps P (fun fr' H'=>yOps K is s fr' H') [⟨d,none,.callv (.tmp t) args,[]⟩] fr H)
  | i :: is,s,fr,H=>wOps P (fun fr' H'=>yOps K is s fr' H') [i] fr H
abbrev qHw:=Exit→Option Code→Fr→Heap→Prop
def seqY (f:Option Code→Fr→Heap→Prop) (Q:qHw):qHw
  | .normal,s,fr,H=>f s fr H
  | e,s,fr,H=>Q e s fr H
def qHs (id:Nat) (Q:qHw):qHw
  | .exit id',s,fr,H=>if id'=id then Q .normal s fr H else Q (.exit id') s fr H
  | e,s,fr,H=>Q e s fr H
def qKu (body:qHw→Option Code→Fr→Heap→Prop) (Q:qHw):Nat→Option Code→Fr→Heap→Prop
  | 0,_,_,_=>False
  | n+1,s,fr,H=>body (seqY (qKu body Q n) Q) s fr H
def ywp:AC→qHw→Option Code→Fr→Heap→Prop
  | .skip,Q,s,fr,H=>Q .normal s fr H
  | .ops is,Q,s,fr,H=>yOps P l Y (Q .normal) is s fr H
  | .seq a b,Q,s,fr,H=>ywp a (seqY (ywp b Q) Q) s fr H
  | .cond c a b,Q,s,fr,H=>qLh (ywp a Q s) (ywp b Q s) (ev fr c) fr H
  | .block id a,Q,s,fr,H=>ywp a (qHs id Q) s fr H
  | .loop a,Q,s,fr,H=>∃ n,qKu (ywp a) Q n s fr H
  | .exit id,Q,s,fr,H=>Q (.exit id) s fr H
  | .ret,Q,s,fr,H=>Q .ret s fr H
  | _,_,_,_,_=>False
end
def qGb:Code→Bool
  | .region _ _ d=>!d
  | .seq a b | .cond _ a b=>qGb a && qGb b
  | .block _ a | .loop a=>qGb a
  | _=>true

def qSq (G:Option Code→World→Prop) (Q:qHw) (mb m0:Mu) (H0:Heap) (w0:World) (N:Nat) (ds:List Deferred):Exit→Act→World→Prop :=
  fun e a w=>∃ s fr H m,Q e s fr H∧G s w∧ARel m H w∧FRel m fr a∧Kept m0 H0 w0 m H w∧a.tmps.size=N∧a.defers=ds∧MExt mb m

section
variable {P : Program} {l : Nat} {Y : YSem} {G : Option Code → World → Prop} {N : Nat} {ro : Option Nat} {n : Nat} {mb m0 : Mu} {H0 : Heap} {w0 : World} {ds : List Deferred}

theorem qIn (hG:qLr G) (hY:∀ args H K,Y args H K→qSh P l G m0 H0 w0 args H K) {ops:Array Oper} {Q:qHw}:∀ {L:List Oper} {is:List AIns},qOa P N ops L=some is→∀ {s:Option Code} {fr:Fr} {H:Heap} {m:Mu} {a:Act} {w:World},
    yOps P l Y (Q .normal) is s fr H→G s w→ARel m H w→FRel m fr a→Kept m0 H0 w0 m H w→a.tmps.size=N→a.defers=ds→MExt mb m→wpListIn (FW ro) n P ops (qSq G Q mb m0 H0 w0 N ds) L a w
  | [],is,hc,s,fr,H,m,a,w,h,hg,hA,hF,hK,hN,hD,hB=>by
    cases hc;exact ⟨s,fr,H,m,by simpa [yOps] using h,hg,hA,hF,hK,hN,hD,hB⟩
  | o :: L,is,hc,s,fr,H,m,a,w,h,hg,hA,hF,hK,hN,hD,hB=>by
    simp only [qOa] at hc
    split at hc
    . rename_i i is' hi hl
      cases hc;unfold cIns at hi
      split at hi
      . rename_i op g hop hgs
        split at hi
        . rename_i hdn
          cases hi;have plain:wOps P (fun fr' H'=>yOps P l Y (Q .normal) is' s fr' H') [⟨o.dst,g,op,[]⟩] fr H→wpListIn (FW ro) n P ops (qSq G Q mb m0 H0 w0 N ds) (o :: L) a w:=by
            intro h;simp only [wOps] at h;unfold wpListIn;rw [qRc hF hgs]
            split
            . rename_i hw
              rw [if_pos hw] at h;exact op_soundIn hop rfl hdn hA hF hN h _ _ fun v c H' m' w' _ hK' _ k4 k5 hF'=>qIn hG hY hl (by simpa only [wOps] using hK') (hG _ _ _ _ _ _ _ hg hA k5) k4 hF' (hK.trans k5) (by rw [qGh,hN]) (by rw [qEl,hD]) (hB.trans k5.ext)
            . rename_i hw
              rw [if_neg hw] at h;exact ⟨fun _ _=>trivial,qIn hG hY hl h hg hA (hF.upd _ (.undef m) (qFe hdn hN)) hK (by rw [qGh,hN]) (by rw [qEl,hD]) hB⟩
          by_cases hcv:∃ t args,op=.callv (.tmp t) args∧g=none
          . obtain ⟨t,args,rfl,rfl⟩:=hcv
            simp only [yOps] at h;rcases h with ⟨h1,rfl,h3⟩ | ⟨_,h⟩
            . unfold wpListIn
              rw [qRc hF hgs];simp only [qCe,if_true];refine ⟨fun _ _=>trivial,?_⟩
              rw [Oper.semAt_eq _ _ _ (notDefer hop)];obtain ⟨dst,op',ty,pos,after,guard⟩:=o;have hform:∃ xs tys,op'=.call { callee:=.value (.tmp t),args:=xs,argTypes:=tys }∧xs.toList=args∧okL args=true:=by
                simp only [cOp] at hop
                split at hop
                . cases hop
                . split at hop
                  . cases hop
                  . split at hop
                    . split at hop<;>cases hop
                    . split at hop
                      . rename_i hok; cases hop; exact ⟨_,_,rfl,rfl,hok⟩
                      . cases hop
                    . split at hop
                      . split at hop<;>cases hop
                      . cases hop
                    . split at hop
                      . split at hop<;>cases hop
                      . cases hop
                    . cases hop
              obtain ⟨xs,tys,rfl,rfl,hok⟩:=hform;have hr:=hF.ev (x:=.tmp t) rfl;have hev:ev fr (.tmp t)=.func (.yield l) #[] #[]:=h1;rw [hev] at hr;have hg0:a.eval (.tmp t)=.func (.yield l) #[] #[]:=by
                generalize hgg:a.eval (.tmp t)=y at hr
                cases hr with
                | func hs _ hs' _ =>
                  rename_i f2 g2 _ _;have e1:f2=#[]:=by apply Array.ext'; simpa using hs.symm
                  have e2:g2=#[]:=by apply Array.ext'; simpa using hs'.symm
                  rw [e1,e2]
              obtain ⟨fn,tmps,assign,body,k1,k2⟩:=hY _ _ _ h3 m w (xs.map a.eval) hg hA hK (by simpa using qEd hF hok)
              have hrun:(execOp a.eval ⟨dst,.call { callee:=.value (.tmp t),args:=xs,argTypes:=tys },ty,pos,after,guard⟩).run P w=.ok (.round l fn tmps assign body) w:=by
                have e0:a.tmps.getD t undef=.func (.yield l) #[] #[]:=hg0;simp [execOp,resolve,hg0,Deferred.ofValue,invoke,k1]
              rw [hrun];refine ⟨fun hd=>by simp [Fence.wide] at hd,?_⟩
              refine RoundIn.mono (show RoundIn (FW ro) _ P l fn tmps assign body w _ from ⟨trivial,fun c cs hr=>k2.2 c cs fun _ h=>by simp [Fence.wide] at h⟩) ?_
              rintro e w' ⟨s',H',m',rfl,q1,q2,q3,q3',q4⟩;exact qIn hG hY hl q1 q4 q2 ((hF.mono q3).upd dst (.bool _) (qFe hdn hN)) q3' (by rw [qGh,hN]) (by rw [qEl,hD]) (hB.trans q3)
            . exact plain h
          . refine plain ?_
            have e:yOps P l Y (Q .normal) (⟨o.dst,g,op,[]⟩ :: is') s fr H=wOps P (fun fr' H'=>yOps P l Y (Q .normal) is' s fr' H') [⟨o.dst,g,op,[]⟩] fr H:=by
              cases op with
              | callv x args =>
                cases x with
                | tmp t =>
                  cases g with
                  | none=>exact absurd ⟨t,args,rfl,rfl⟩ hcv
                  | some g=>rfl
                | _=>cases g<;>rfl
              | _=>cases g<;>rfl
            rw [e] at h; exact h
        . cases hi
      . cases hi
    . cases hc
end
end Am

/- The abstract machine: a range over a function, and what it is over.
   No condition: plain lemmas. -/
namespace Am
set_option linter.unusedSimpArgs false
set_option linter.unusedVariables false
open Go

section
variable {P : Program} {l : Nat} {Y : YSem} {G : Option Code → World → Prop} {N : Nat} {ro : Option Nat} {n : Nat} {mb m0 : Mu} {H0 : Heap} {w0 : World} {ds : List Deferred}

theorem seqY_post {Q:qHw} {f:Option Code→Fr→Heap→Prop} {next:Act→World→Prop}
    (hn:∀ s fr H m a w,f s fr H→G s w→ARel m H w→FRel m fr a→Kept m0 H0 w0 m H w→a.tmps.size=N→a.defers=ds→MExt mb m→next a w) :
    ∀ e a w,qSq G (seqY f Q) mb m0 H0 w0 N ds e a w→Exit.then next (qSq G Q mb m0 H0 w0 N ds) e a w:=by
  rintro e a w ⟨s,fr,H,m,hq,h0,h1,h2,h3,h4,h5,h6⟩;cases e with
  | normal=>exact hn s fr H m a w hq h0 h1 h2 h3 h4 h5 h6
  | _=>exact ⟨s,fr,H,m,hq,h0,h1,h2,h3,h4,h5,h6⟩

theorem qKn (hG:qLr G) (hY:∀ args H K,Y args H K→qSh P l G m0 H0 w0 args H K):∀ {c:Code} {x:AC},qDl P N c=some x→qGb c=true→∀ (Q:qHw) (s:Option Code) (fr:Fr) (H:Heap) (m:Mu) (a:Act) (w:World),
    ywp P l Y x Q s fr H→G s w→ARel m H w→FRel m fr a→Kept m0 H0 w0 m H w→a.tmps.size=N→a.defers=ds→MExt mb m→c.wpIn (FW ro) n P (qSq G Q mb m0 H0 w0 N ds) a w:=by
  intro c
  induction c with
  | skip=>intro x hx _ Q s fr H m a w h g hA hF hK hN hD hB; cases hx; exact wpIn_skip ⟨s,fr,H,m,h,g,hA,hF,hK,hN,hD,hB⟩
  | region id ops draw =>
    intro x hx hd Q s fr H m a w h g hA hF hK hN hD hB;simp only [qDl,Option.map_eq_some_iff] at hx;obtain ⟨is,his,rfl⟩:=hx;have hdd:draw=false:=by simpa [qGb] using hd
    subst hdd;simp only [qRs,Bool.false_eq_true,if_false] at his;exact wpIn_region_list (qIn hG hY his h g hA hF hK hN hD hB)
  | seq c1 c2 ih1 ih2 =>
    intro x hx hd Q s fr H m a w h g hA hF hK hN hD hB;simp only [qGb,Bool.and_eq_true] at hd;simp only [qDl] at hx
    split at hx
    . rename_i x1 x2 h1 h2
      cases hx;exact wpIn_seq (wpIn_mono (ih1 h1 hd.1 _ s fr H m a w h g hA hF hK hN hD hB) (seqY_post fun s fr H m a w hr k0 k1 k2 k3 k4 k5 k6=>ih2 h2 hd.2 Q s fr H m a w hr k0 k1 k2 k3 k4 k5 k6))
    . cases hx
  | cond o c1 c2 ih1 ih2 =>
    intro x hx hd Q s fr H m a w h g hA hF hK hN hD hB;simp only [qGb,Bool.and_eq_true] at hd;simp only [qDl] at hx
    split at hx
    . rename_i ho
      split at hx
      . rename_i x1 x2 h1 h2
        cases hx;simp only [ywp] at h;have hr:=hF.ev ho;cases hv:ev fr o<;>rw [hv] at hr h<;>simp only [qLh] at h;rename_i t;have:=qFn hr;cases t with
        | true=>exact wpIn_cond_true this (ih1 h1 hd.1 Q s fr H m a w (by simpa using h) g hA hF hK hN hD hB)
        | false=>exact wpIn_cond_false this (ih2 h2 hd.2 Q s fr H m a w (by simpa using h) g hA hF hK hN hD hB)
      . cases hx
    . cases hx
  | block id c1 ih =>
    intro x hx hd Q s fr H m a w h g hA hF hK hN hD hB;simp only [qDl,Option.map_eq_some_iff] at hx;obtain ⟨x1,h1,rfl⟩:=hx;refine wpIn_block (wpIn_mono (ih h1 hd _ s fr H m a w h g hA hF hK hN hD hB) ?_);rintro e a w ⟨s,fr,H,m,hq,k0,k1,k2,k3,k4,k5,k6⟩;cases e with
    | exit id' =>
      simp only [qHs] at hq;simp only [Exit.inBlock]
      split at hq
      . rename_i he; rw [if_pos he]; exact ⟨s,fr,H,m,hq,k0,k1,k2,k3,k4,k5,k6⟩
      . rename_i he; rw [if_neg he]; exact ⟨s,fr,H,m,hq,k0,k1,k2,k3,k4,k5,k6⟩
    | _=>exact ⟨s,fr,H,m,hq,k0,k1,k2,k3,k4,k5,k6⟩
  | loop c1 ih =>
    intro x hx hd Q s fr H m a w h g hA hF hK hN hD hB;simp only [qDl,Option.map_eq_some_iff] at hx;obtain ⟨x1,h1,rfl⟩:=hx;obtain ⟨k,hk⟩:=h;have key:∀ k s fr H m a w,qKu (ywp P l Y x1) Q k s fr H→G s w→ARel m H w→FRel m fr a→Kept m0 H0 w0 m H w→a.tmps.size=N→a.defers=ds→MExt mb m→Code.roundsIn (FW ro) n P c1 (qSq G Q mb m0 H0 w0 N ds) k a w:=by
      intro k
      induction k with
      | zero=>intro s fr H m a w h; exact h.elim
      | succ k ihk =>
        intro s fr H m a w h g hA hF hK hN hD hB;rw [roundsIn_succ];exact wpIn_mono (ih h1 hd _ s fr H m a w h g hA hF hK hN hD hB) (seqY_post fun s fr H m a w hr k0 k1 k2 k3 k4 k5 k6=>ihk s fr H m a w hr k0 k1 k2 k3 k4 k5 k6)
    exact wpIn_loop_rounds k (key k s fr H m a w hk g hA hF hK hN hD hB)
  | exit id=>intro x hx _ Q s fr H m a w h g hA hF hK hN hD hB; cases hx; exact wpIn_exit ⟨s,fr,H,m,h,g,hA,hF,hK,hN,hD,hB⟩
  | ret=>intro x hx _ Q s fr H m a w h g hA hF hK hN hD hB; cases hx; exact wpIn_ret ⟨s,fr,H,m,h,g,hA,hF,hK,hN,hD,hB⟩
  | rangeFunc f ps as b _ _=>intro x hx; cases hx
  | refuse s=>intro x hx; cases hx
  | label l=>intro x hx _ Q s fr H m a w h; cases hx; exact h.elim
  | goto l=>intro x hx _ Q s fr H m a w h; cases hx; exact h.elim
  | scope c1 _ =>
    intro x hx hd Q s fr H m a w h;simp only [qDl] at hx
    split at hx
    . split at hx
      . simp only [Option.map_eq_some_iff] at hx; obtain ⟨z,_,rfl⟩:=hx; exact h.elim
      . cases hx
    . cases hx
end

def qRw (P:Program) (l:Nat) (Y:YSem) (f:FuncId) (args:List Value) (H:Heap) (K:Option Code→Heap→Prop):Prop :=
  ∀ (G:Option Code→World→Prop) (m0:Mu) (H0:Heap) (w0:World),qLr G→(∀ args H K,Y args H K→qSh P l G m0 H0 w0 args H K)→∀ (m:Mu) (w:World) (cargs:Array Value),G none w→ARel m H w→Kept m0 H0 w0 m H w→VRels m args cargs.toList →
    Calls P f cargs w fun e w'=>∃ v s H' m',e=.returned v∧K s H'∧ARel m' H' w'∧Kept m0 H0 w0 m' H' w'∧G s w'
def qUk (K:Option Code→Heap→Prop):qHw
  | .normal,s,_,H=>K s H
  | .ret,s,_,H=>K s H
  | _,_,_,_=>False
theorem frel_enter {m:Mu} {args:List Value} {cargs:Array Value} {N:Nat} (hv:VRels m args cargs.toList) (hl:args.length≤N):FRel m (qBv args) { tmps:=cargs++Array.replicate (N - cargs.size) undef,defers:=[] }:=by
  intro t;have hlen:=hv.length;simp only [qBv]
  by_cases ht:t < args.length
  . have hvt:=hv.get t args[t] (List.getElem?_eq_getElem ht)
    obtain ⟨c,z1,z2⟩:=hvt;rw [List.getElem?_eq_getElem ht];have:(cargs++Array.replicate (N - cargs.size) undef).getD t undef=c:=by
      rw [Array.getD_eq_getD_getElem?,Array.getElem?_append_left (by simp at hlen; omega)]
      have:cargs[t]?=some c:=by simpa using z1
      rw [this]; rfl
    rw [this]; exact z2
  . rw [List.getElem?_eq_none (by omega)]
    have:(cargs++Array.replicate (N - cargs.size) undef).getD t undef=undef:=by
      rw [Array.getD_eq_getD_getElem?,Array.getElem?_append_right (by simp at hlen; omega),Array.getElem?_replicate]
      split<;>rfl
    rw [this]; exact .undef m
theorem cally_of {P:Program} {l:Nat} {Y:YSem} {f:FuncId} {fn:Func} {c:Code} {x:AC} (hf:P.funcs[f]?=some fn) (hb:fn.body=some c) (hr:fn.results=#[]) (hx:qDl P fn.ntmps c=some x) (hd:qGb c=true) {args:List Value} (hl:args.length≤fn.ntmps)
    {H:Heap} {K:Option Code→Heap→Prop} (h:ywp P l Y x (qUk K) none (qBv args) H):qRw P l Y f args H K:=by
  intro G m0 H0 w0 hG hY m w cargs g hA hK0 hv;have hlen:=hv.length;refine (callsIn_wide (n:=0)).1 (callsIn_of_wp (F:=FW none) hf hb trivial (wpIn_mono (qKn hG hY hx hd (qUk K) none (qBv args) H m { tmps:=cargs++Array.replicate (fn.ntmps - cargs.size) undef,defers:=[] } w h g hA (frel_enter hv hl) hK0 (by simp; simp at hlen; omega) rfl (.refl m)) ?_))
  rintro e a w' ⟨s,fr,H',m',hq,k0,k1,k2,k3,k4,k5,k6⟩;have fin:K s H'→a.defers=[]∧∃ v,(results fn a.tmps).run P w'=.ok v w'∧∃ v0 s H'' m'',Ending.returned v=.returned v0∧K s H''∧ARel m'' H'' w'∧Kept m0 H0 w0 m'' H'' w'∧G s w':=by
    intro hK;refine ⟨k5,.tuple #[],?_,_,s,H',m',rfl,hK,k1,k3,k0⟩;simp [results,hr]
  cases e with
  | normal=>exact fin hq
  | ret=>exact fin hq
  | _=>exact hq.elim

def qRd (fr:Fr):List Nat→List Value→Fr
  | p :: ps,v :: vs=>qRd (upd fr p v) ps vs
  | _,_=>fr
theorem frel_setPs {m:Mu}:∀ {ps:List Nat} {vs cs:List Value} {fr:Fr} {tmps:Array Value},FRel m fr { tmps:=tmps,defers:=[] }→VRels m vs cs→(∀ p∈ps,p < tmps.size)→
    FRel m (qRd fr ps vs) { tmps:=(ps.zip cs).foldl (fun t (p,v)=>t.setIfInBounds p v) tmps,defers:=[] }∧((ps.zip cs).foldl (fun t (p,v)=>t.setIfInBounds p v) tmps).size=tmps.size
  | [],vs,cs,fr,tmps,h,hv,hp=>by simpa [qRd] using h
  | p :: ps,[],cs,fr,tmps,h,hv,hp=>by cases hv; simpa [qRd] using h
  | p :: ps,v :: vs,cs,fr,tmps,h,hv,hp=>by
    cases hv with
    | cons hx hxs =>
      rename_i c cs;simp only [List.zip_cons_cons,List.foldl_cons,qRd];have h1:FRel m (upd fr p v) { tmps:=tmps.setIfInBounds p c,defers:=[] }:=by
        have:=h.upd (some p) hx (fun t e=>by cases e; exact hp p (by simp))
        exact this
      obtain ⟨k1,k2⟩:=frel_setPs (ps:=ps) h1 hxs (fun q hq=>by simp; exact hp q (by simp [hq]))
      exact ⟨k1,by rw [k2]; simp⟩

def RoundK (K:Option Code→Heap→Prop):qHw
  | .normal,_,_,H=>K none H
  | .ret,_,_,H=>K (some .ret) H
  | .exit id,_,_,H=>K (some (.exit id)) H
  | .goto t,_,_,H=>K (some (.goto t)) H
  | _,_,_,_=>False
def RoundY (P:Program) (ps:List Nat) (xa xb:AC) (fr:Fr):YSem:=fun args H K =>
  args.length=ps.length∧ywp P 0 NoY xa (seqY (fun s fr1 H1=>ywp P 0 NoY xb (RoundK K) none fr1 H1∧s=none) (fun _ _ _ _=>False)) none (qRd fr ps args) H
def qTm (Q:qHw) (fr:Fr):Option Code→Heap→Prop
  | none,H=>Q .normal none fr H
  | some .ret,H=>Q .ret none fr H
  | some (.exit id),H=>Q (.exit id) none fr H
  | some (.goto t),H=>Q (.goto t) none fr H
  | _,_=>False
theorem qHy {l:Nat} {o:Option Code→Obj} (ho:∀ s,(o s).isCells=false):qLr fun s w=>w.heap[l]?=some (o s):=by
  intro s m H w m' H' w' hg hA hK;rw [hK.same l (Array.getElem?_eq_some_iff.1 hg).1 ?_]; exact hg;rintro ⟨id,r,L,h1,h2,h3,h4⟩;obtain ⟨L',cs,T,fz,k1,k2,_⟩:=hA.row id r h1;rw [h3] at k1; cases k1;rw [h4,hg] at k2;have:=ho s
  injection k2 with k2
  rw [k2] at this; cases this
theorem qLr.and {A B:Option Code→World→Prop} (ha:qLr A) (hb:qLr B):qLr fun s w=>A s w∧B s w:=fun s m H w m' H' w' h hA hK=>⟨ha _ _ _ _ _ _ _ h.1 hA hK,hb _ _ _ _ _ _ _ h.2 hA hK⟩
theorem noY {P:Program} {l:Nat} {G:Option Code→World→Prop} {m0:Mu} {H0:Heap} {w0:World}:∀ args H K,NoY args H K→qSh P l G m0 H0 w0 args H K:=fun _ _ _ h=>h.elim

theorem qIu {m0 m:Mu} {H0 H:Heap} {w0 w:World} (hA:ARel m H w) (hK:Kept m0 H0 w0 m H w) {l:Nat} {o o':Obj} (ho:w.heap[l]?=some o) (hc:o.isCells=false) (hl:w0.heap.size≤l):ARel m H (w.putObj l o')∧Kept m0 H0 w0 m H (w.putObj l o'):=by
  have hcell:∀ b cs T fz,w.heap[b]?=some (.cells cs T fz)→b≠l:=by
    intro b cs T fz h1 e;subst e;rw [h1] at ho; cases ho; cases hc
  refine ⟨⟨⟨fun id r hr=>?_,hA.sep,hA.fresh,fun id ver L h=>by rw [World.putObj_size]; exact hA.lt id ver L h⟩,⟨fun g vs e=>?_,hA.glob.no⟩⟩,⟨by rw [World.putObj_size]; exact hK.size,hK.os,hK.tape,hK.output,fun b hb hn=>?_,fun b hb=>hK.rw b hb,hK.ext,hK.dom⟩⟩
  . obtain ⟨L,cs,T,fz,h1,h2,h3⟩:=hA.row id r hr
    exact ⟨L,cs,T,fz,h1,by rw [World.putObj_heap_other (hcell _ _ _ _ h2)]; exact h2,h3⟩
  . obtain ⟨cs,T,fz,h1,h2⟩:=hA.glob.tab g vs e
    exact ⟨cs,T,fz,by rw [World.putObj_heap_other (hcell _ _ _ _ h1)]; exact h1,h2⟩
  . rw [World.putObj_heap_other (by omega)]; exact hK.same b hb hn

section
variable {P : Program} {N : Nat} {n : Nat} {m0 : Mu} {H0 : Heap} {w0 : World} {ds : List Deferred}

def stOf:Option Code→LoopState
  | none=>.ready
  | some _=>.done
theorem range_sound {g:Operand} {ps:Array Tmp} {assign body:Code} {xa xb:AC} (ca:qDl P N assign=some xa) (cb:qDl P N body=some xb) (da:qGb assign=true) (db:qGb body=true) (hps:∀ p∈ps.toList,p < N)
    {fr:Fr} {H:Heap} {m:Mu} {a:Act} {w:World} {gf:FuncId} {first caps:Array Value} (hok:okO g=true) (hg:ev fr g=.func (.func gf) first caps) (hcal:qCg P gf=true) {Q:qHw}
    (h:∀ l,qRw P l (RoundY P ps.toList xa xb fr) gf (first.toList++[.func (.yield l) #[] #[]]++caps.toList) H (qTm Q fr))
    (hA:ARel m H w) (hF:FRel m fr a) (hK:Kept m0 H0 w0 m H w) (hN:a.tmps.size=N) (hD:a.defers=ds) :
    (Code.rangeFunc g ps assign body).wpIn (FW none) n P (fun e a w=>∃ fr H m D,Q e none fr H∧ARel m H w∧FRel m fr a∧Kept m0 H0 w0 m H w∧a.tmps.size=N∧a.defers={ target:=.collected D,args:=#[] } :: ds∧w.heap[D]?=some (.deferred (some []))∧w0.heap.size≤D) a w:=by
  refine wpIn_rangeFunc ?_;intro fn hfn;obtain ⟨rec,hrec⟩:∃ rec:LoopState→Option Code→Loop,rec=fun st pe=>{ state:=st,pending:=pe,fn,tmps:=a.tmps,params:=ps,assign,body,defers:=w.heap.size }:=⟨_,rfl⟩
  obtain ⟨G,hGd⟩:∃ G:Option Code→World→Prop,G=fun s W=>W.heap[w.heap.size+1]?=some (.loop (rec (stOf s) s))∧W.heap[w.heap.size]?=some (.deferred (some [])):=⟨_,rfl⟩
  obtain ⟨G2,hG2d⟩:∃ G:Option Code→World→Prop,G=fun _ W=>W.heap[w.heap.size+1]?=some (.loop (rec .busy none))∧W.heap[w.heap.size]?=some (.deferred (some [])):=⟨_,rfl⟩
  have hG:qLr G:=by rw [hGd]; exact (qHy (o:=fun s=>.loop (rec (stOf s) s)) fun _=>rfl).and (qHy (o:=fun _=>.deferred (some [])) fun _=>rfl)
  have hG2:qLr G2:=by rw [hG2d]; exact (qHy (o:=fun s=>.loop (rec .busy none)) fun _=>rfl).and (qHy (o:=fun _=>.deferred (some [])) fun _=>rfl)
  obtain ⟨W1,hW1⟩:∃ W1,(w.alloc (.deferred (some []))).alloc (.loop (rec .ready none))=W1:=⟨_,rfl⟩;have hL1:W1.heap[w.heap.size+1]?=some (.loop (rec .ready none)):=by
    rw [← hW1]; have:=World.alloc_heap_new (w.alloc (.deferred (some []))) (.loop (rec .ready none)); rwa [World.size_alloc] at this
  have hK1:W1.heap[w.heap.size]?=some (.deferred (some [])):=by
    rw [← hW1];show ((w.heap.push _).push _)[w.heap.size]?=_;rw [Array.getElem?_push,if_neg (by simp)]; simp
  have hA1:ARel m H W1:=by rw [← hW1]; exact (hA.alloc _).alloc _
  have hKK:Kept m H w m H W1:=by rw [← hW1]; exact ((Kept.refl m H w).alloc _).alloc _
  have hws:=hK.size;have hr:=hF.ev hok;rw [hg] at hr;obtain ⟨f2,g2,he2,s1,r1,s2,r2⟩:∃ f2 g2,a.eval g=.func (.func gf) f2 g2∧first.size=f2.size∧(∀ (i:Nat) (x y:Value),first[i]?=some x→f2[i]?=some y→VRel m x y)∧caps.size=g2.size∧(∀ (i:Nat) (x y:Value),caps[i]?=some x→g2[i]?=some y→VRel m x y):=by
    generalize a.eval g=y at hr
    cases hr with
    | func s1 r1 s2 r2=>exact ⟨_,_,rfl,s1,r1,s2,r2⟩
  have hent:(callFunc gf (f2++#[.func (.yield (w.heap.size+1)) #[] #[]]++g2)).run P W1=.ok (.enter gf (f2++#[.func (.yield (w.heap.size+1)) #[] #[]]++g2)) W1:=by
    unfold qCg at hcal
    split at hcal
    . rename_i fn0 hf0
      simp only [Bool.and_eq_true,Bool.not_eq_true',beq_eq_false_iff_ne,ne_eq] at hcal;have hb:fn0.body≠none:=by intro h; simp [h] at hcal
      simp [callFunc,hf0,hcal.2];exact fun h=>absurd h hb
    . cases hcal
  refine ⟨w.heap.size+1,[{ target:=.collected w.heap.size,args:=#[] }],W1,{ target:=.fn (.func gf) g2,args:=f2++#[.func (.yield (w.heap.size+1)) #[] #[]] },W1,gf,
    f2++#[.func (.yield (w.heap.size+1)) #[] #[]]++g2,W1,?_,?_,fun _ _=>trivial,?_,fun hd=>by simp [Fence.wide] at hd,?_⟩
  . rw [← hW1,hrec]; exact run_enterLoop_outer _ _ _ _ _
  . simp only [resolve,he2]
    simp [Deferred.ofValue,Act.eval]
  . simp only [invoke]; exact hent
  . refine qRn ((h (w.heap.size+1) G m H w hG ?_ m W1 _ (by rw [hGd]; exact ⟨hL1,hK1⟩) hA1 hKK ?_).mono ?_)
    . -- one round
      rintro args H1 K ⟨hlen,hy⟩ m1 w1 cargs hg1 hA2 hK2 hv2;rw [hGd] at hg1;obtain ⟨hl,hk⟩:=hg1;have hcl:=hv2.length;have hsz:cargs.size=ps.size:=by simp at hcl; simp at hlen; omega
      have hyr:=run_yield (P:=P) (args:=cargs) hl (by rw [hrec]; exact hsz)
      rw [hrec] at hyr;refine ⟨fn,_,assign,body,hyr,?_⟩;have hF1:FRel m1 fr a:=hF.mono hK2.ext;obtain ⟨f1,f2'⟩:=frel_setPs (ps:=ps.toList) (vs:=args) (cs:=cargs.toList) (tmps:=a.tmps) (fr:=fr) (fun t=>hF1 t) hv2 (fun p hp=>by rw [hN]; exact hps p hp)
      have hz:(ps.zip cargs).foldl (fun t (p,v)=>t.setIfInBounds p v) a.tmps=(ps.toList.zip cargs.toList).foldl (fun t (p,v)=>t.setIfInBounds p v) a.tmps:=by
        rw [← Array.foldl_toList]
        congr 1
        simp
      rw [← hz] at f1 f2';have hGst:G none w1:=by rw [hGd]; exact ⟨hl,hk⟩
      refine roundIn_of_wpIn (F:=FW none) (n:=0) trivial (wpIn_mono (qKn (ro:=some (w.heap.size+1)) (l:=0) (ds:=[]) hG noY ca da _ none _ H1 m1 _ w1 hy hGst hA2 f1 hK2 (by rw [f2',hN]) rfl (.refl m1)) ?_)
      rintro e1 a1 w2 ⟨s1,fr1,H2,m2,hq,k0,k1,k2,k3,k4,k5,k6⟩;cases e1 with
      | normal =>
        simp only [seqY] at hq;have hGrd:∀ s W,G s W↔W.heap[w.heap.size+1]?=some (.loop (rec (stOf s) s))∧W.heap[w.heap.size]?=some (.deferred (some [])):=fun s W=>by rw [hGd]
        have k0':w2.heap[w.heap.size+1]?=some (.loop (rec .ready none))∧w2.heap[w.heap.size]?=some (.deferred (some [])):=(hGrd none w2).1 (hq.2 ▸ k0);have hbr:=run_beginRound (P:=P) k0'.1 (by rw [hrec])
        obtain ⟨p1,p2⟩:=qIu (o':=.loop { rec .ready none with state:=.busy }) k1 k3 k0'.1 rfl (by omega)
        have hlt2:w.heap.size+1 < w2.heap.size:=(Array.getElem?_eq_some_iff.1 k0'.1).1;refine ⟨_,hbr,wpIn_mono (qKn (ro:=some (w.heap.size+1)) (l:=0) (ds:=[]) hG2 noY cb db _ none fr1 H2 m2 a1 _ hq.1 ?_ p1 k2 p2 k4 k5 k6) ?_⟩
        . rw [hG2d]
          exact ⟨by rw [World.putObj_heap_same hlt2]; rw [hrec],by rw [World.putObj_heap_other (by omega)]; exact k0'.2⟩
        . have fin:∀ (jump:Option Code) (s2:Option Code) (H3:Heap) (m3:Mu) (w3:World),G2 s2 w3→K jump H3→ARel m3 H3 w3→Kept m H w m3 H3 w3→MExt m1 m3→∃ v w',(Instr.endRound (w.heap.size+1) jump).run P w3=.ok v w' ∧
              ∃ s H' m',Ending.returned v=.returned (.bool (Option.isNone s))∧K s H'∧ARel m' H' w'∧MExt m1 m'∧Kept m H w m' H' w'∧G s w':=fun jump s2 H3 m3 w3 hg hk3 hA3 hK3 hM=>by
            rw [hG2d] at hg;obtain ⟨b1,b2⟩:=hg;obtain ⟨q1,q2⟩:=qIu (o':=.loop { rec .busy none with state:=if jump.isNone then .ready else .done,pending:=jump }) hA3 hK3 b1 rfl (by omega)
            have hlt3:w.heap.size+1 < w3.heap.size:=(Array.getElem?_eq_some_iff.1 b1).1;refine ⟨_,_,run_endRound (P:=P) jump b1,jump,H3,m3,rfl,hk3,q1,hM,q2,(hGrd _ _).2 ⟨?_,by rw [World.putObj_heap_other (by omega)]; exact b2⟩⟩
            rw [World.putObj_heap_same hlt3,hrec];cases jump<;>rfl
          rintro e2 a2 w3 ⟨s2,fr2,H3,m3,hq2,g0,g1,g2,g3,g4,g5,g6⟩;cases e2 with
          | normal=>exact fin none s2 H3 m3 w3 g0 hq2 g1 g3 g6
          | ret=>exact fin (some .ret) s2 H3 m3 w3 g0 hq2 g1 g3 g6
          | exit id=>exact fin (some (.exit id)) s2 H3 m3 w3 g0 hq2 g1 g3 g6
          | goto t=>exact fin (some (.goto t)) s2 H3 m3 w3 g0 hq2 g1 g3 g6
          | _=>exact hq2.elim
      | _=>exact hq.elim
    . simp only [Array.toList_append]
      refine ((VRels.of_get (by simpa using s1) fun i x y hx hy=>r1 i x y (by simpa using hx) (by simpa using hy)).append ?_).append (.of_get (by simpa using s2) fun i x y hx hy=>r2 i x y (by simpa using hx) (by simpa using hy))
      exact .cons (.func rfl (fun i x y h=>by simp at h) rfl (fun i x y h=>by simp at h)) .nil
    . rintro e w2 ⟨v,s,H',m',rfl,hq,q1,q2,q3⟩
      rw [hGd] at q3;obtain ⟨b1,b2⟩:=q3;have hbz:(rec (stOf s) s).state≠.busy:=by
        rw [hrec]; cases s<;>simp [stOf]
      have hpe:(rec (stOf s) s).pending=s:=by rw [hrec]
      obtain ⟨O,hel⟩:∃ O,(Instr.endLoop (w.heap.size+1)).run P w2=.ok s (w2.putObj (w.heap.size+1) O):=⟨_,by have:=run_endLoop (P:=P) b1 hbz; rw [hpe] at this; exact this⟩
      obtain ⟨p1,p2⟩:=qIu (o':=O) q1 q2 b1 rfl (by omega)
      have hd2:(w2.putObj (w.heap.size+1) O).heap[w.heap.size]?=some (.deferred (some [])):=by rw [World.putObj_heap_other (by omega)]; exact b2
      have hF2:FRel m' fr a:=hF.mono q2.ext;refine ⟨s,_,hel,?_⟩;have fin:∀ e,Q e none fr H'→∃ fr H m D,Q e none fr H∧ARel m H (w2.putObj (w.heap.size+1) O)∧FRel m fr { a with defers:=[{ target:=.collected w.heap.size,args:=#[] }]++a.defers } ∧
          Kept m0 H0 w0 m H (w2.putObj (w.heap.size+1) O)∧a.tmps.size=N∧[{ target:=.collected w.heap.size,args:=#[] }]++a.defers={ target:=.collected D,args:=#[] } :: ds ∧
          (w2.putObj (w.heap.size+1) O).heap[D]?=some (.deferred (some []))∧w0.heap.size≤D:=fun e he =>
        ⟨fr,H',m',w.heap.size,he,p1,hF2,hK.trans p2,hN,by rw [hD]; rfl,hd2,hws⟩
      cases s with
      | none=>exact fin .normal hq
      | some c =>
        cases c with
        | ret=>exact wpIn_ret (fin .ret hq)
        | exit id=>exact wpIn_exit (fin (.exit id) hq)
        | goto t=>exact wpIn_goto (fin (.goto t) hq)
        | _=>exact hq.elim
end
end Am

/- The abstract machine: a function that holds one range over a function.
   No condition: plain lemmas. -/
namespace Am
set_option linter.unusedSimpArgs false
set_option linter.unusedVariables false
open Go

def qRx (rs:List RV) (K:Value→Heap→Prop):qHw
  | .normal,_,fr,H=>match qAu fr H rs with | some vs=>K (retV vs) H | none=>False
  | .ret,_,fr,H=>match qAu fr H rs with | some vs=>K (retV vs) H | none=>False
  | _,_,_,_=>False
def NoQ:qHw:=fun _ _ _ _=>False
theorem results_run {P:Program} {fn:Func} {m:Mu} {H:Heap} {w:World} {fr:Fr} {a:Act} (k1:ARel m H w) (k2:FRel m fr a) {r:List RV} (h2:qJc P fn.results.toList=some r) {vs:List Value} (e1:qAu fr H r=some vs) :
    ∃ v,(results fn a.tmps).run P w=.ok v w∧VRel m (retV vs) v:=by
  obtain ⟨cs,q1,q2⟩:=qMo (P:=P) k1 k2 h2 e1;refine ⟨(if h:cs.length=1 then cs[0] else .tuple cs.toArray),?_,?_⟩
  . have er:results fn a.tmps=(do let vs ← fn.results.mapM (rsem a); pure (if h:vs.size=1 then vs[0] else .tuple vs)):=by
      unfold results
      congr 1
    rw [er,Array.mapM_eq_mapM_toList];simp only [Sem.run_bind,Sem.run_map];rw [q1];simp
  . cases q2 with
    | nil=>exact .undef m
    | cons hx hxs =>
      cases hxs with
      | nil=>exact hx
      | cons hy hys =>
        simp only [retV];have hl2:=hys.length;exact .tup (by simp [hl2]) fun i x y hi hj=>by
          obtain ⟨c,z1,z2⟩:=(VRels.cons hx (.cons hy hys)).get i x (by simpa using hi)
          have:c=y:=by
            have hj':=hj;simp at hj';rw [z1] at hj'; exact Option.some.inj hj'
          exact this ▸ z2

theorem acall_range {P:Program} {f:FuncId} {fn:Func} {c0 c1 c2 assign body:Code} {id:Nat} {g:Operand} {ps:Array Tmp} {x0 x1 x2 xa xb:AC} {r:List RV} (hf:P.funcs[f]?=some fn) (hb:fn.body=some (.seq c0 (.seq (.seq c1 (.block id (.rangeFunc g ps assign body))) c2)))
    (h0:qDl P fn.ntmps c0=some x0) (h1:qDl P fn.ntmps c1=some x1) (h2:qDl P fn.ntmps c2=some x2) (ha:qDl P fn.ntmps assign=some xa) (hbb:qDl P fn.ntmps body=some xb)
    (hd:(qGb c0 && qGb c1 && qGb c2 && qGb assign && qGb body)=true) (hps:(ps.toList.all fun p=>p < fn.ntmps)=true) (hr:qJc P fn.results.toList=some r) (hok:okO g=true)
    {args:List Value} (hl:args.length≤fn.ntmps) {H:Heap} {K:Value→Heap→Prop}
    (h:ywp P 0 NoY x0 (seqY (fun s fr H=>s=none∧ywp P 0 NoY x1 (seqY (fun s fr H=>s=none∧∃ gf first caps,ev fr g=.func (.func gf) first caps∧qCg P gf=true ∧
      ∀ l,qRw P l (RoundY P ps.toList xa xb fr) gf (first.toList++[.func (.yield l) #[] #[]]++caps.toList) H (qTm (qHs id (seqY (fun _ fr H=>ywp P 0 NoY x2 (qRx r K) none fr H) (qRx r K))) fr)) NoQ) none fr H) NoQ) none (qBv args) H) :
    qCq P f args H K:=by
  simp only [Bool.and_eq_true] at hd;obtain ⟨⟨⟨⟨d0,d1⟩,d2⟩,da⟩,db⟩:=hd;intro m w cargs hA hv;have hlen:=hv.length;have hG:qLr fun _ _=>True:=fun _ _ _ _ _ _ _ _ _ _=>trivial
  have fin:∀ (fr:Fr) (H':Heap) (m':Mu) (D:Nat) (a:Act) (w':World),(∃ vs,qAu fr H' r=some vs∧K (retV vs) H')→ARel m' H' w'→FRel m' fr a→Kept m H w m' H' w'→a.defers=[{ target:=.collected D,args:=#[] }]→w'.heap[D]?=some (.deferred (some []))→w.heap.size≤D →
      LeavesInM (FW none) 0 P fn a.tmps (fun e w'=>∃ v c H' m',e=.returned c∧K v H'∧VRel m' v c∧ARel m' H' w'∧Kept m H w m' H' w') a.defers .returning w':=by
    rintro fr H' m' D a w' ⟨vs,e1,e2⟩ k1 k2 k3 k5 kd kl;obtain ⟨p1,p2⟩:=qIu (o':=.deferred none) k1 k3 kd rfl kl;obtain ⟨v,q1,q2⟩:=results_run p1 k2 hr e1;rw [k5];exact ⟨by simp,.inl ⟨D,_,rfl,run_takeDeferred kd,_,q1,_,_,H',m',rfl,e2,q2,p1,p2⟩⟩
  have finB:∀ (e:Exit) (fr:Fr) (H':Heap) (m':Mu) (D:Nat) (a:Act) (w':World) (s:Option Code),qRx r K e s fr H'→ARel m' H' w'→FRel m' fr a→Kept m H w m' H' w'→a.defers=[{ target:=.collected D,args:=#[] }]→w'.heap[D]?=some (.deferred (some []))→w.heap.size≤D →
      bodyPostM (FW none) 0 P fn (fun e w'=>∃ v c H' m',e=.returned c∧K v H'∧VRel m' v c∧ARel m' H' w'∧Kept m H w m' H' w') e a w':=by
    intro e fr H' m' D a w' s hq k1 k2 k3 k5 kd kl;cases e with
    | normal=>simp only [qRx] at hq; split at hq; exact fin fr H' m' D a w' ⟨_,by assumption,hq⟩ k1 k2 k3 k5 kd kl; exact hq.elim
    | ret=>simp only [qRx] at hq; split at hq; exact fin fr H' m' D a w' ⟨_,by assumption,hq⟩ k1 k2 k3 k5 kd kl; exact hq.elim
    | _=>exact hq.elim
  refine (callsIn_wide (n:=0)).1 (callsIn_of_wp_marks (F:=FW none) hf hb trivial ?_);refine wpIn_seq (wpIn_mono (qKn (ro:=none) (l:=0) (mb:=m) (ds:=[]) hG noY h0 d0 _ none (qBv args) H m { tmps:=cargs++Array.replicate (fn.ntmps - cargs.size) undef,defers:=[] } w h trivial hA (frel_enter hv hl) (.refl m H w) (by simp; simp at hlen; omega) rfl (.refl m)) ?_)
  rintro e a w1 ⟨s,fr,H1,m1,hq,g0,g1,g2,g3,g4,g5,g6⟩;cases e with
  | normal =>
    obtain ⟨rfl,hq⟩:=hq;show Code.wpIn _ _ _ _ _ _ _;refine wpIn_seq (wpIn_seq (wpIn_mono (qKn (ro:=none) (l:=0) (mb:=m) (ds:=[]) hG noY h1 d1 _ none fr H1 m1 a w1 hq trivial g1 g2 g3 g4 g5 g6) ?_));rintro e a w2 ⟨s,fr,H2,m2,hq,k0,k1,k2,k3,k4,k5,k6⟩;cases e with
    | normal =>
      obtain ⟨rfl,gf,first,caps,z1,z2,z3⟩:=hq
      show Code.wpIn _ _ _ _ _ _ _;refine wpIn_block (wpIn_mono (range_sound (n:=0) ha hbb da db (fun p hp=>by simpa using List.all_eq_true.1 hps p hp) hok z1 z2 z3 k1 k2 k3 k4 k5) ?_)
      rintro e a w3 ⟨fr3,H3,m3,D,hq,t1,t2,t3,t4,t5,t6,t7⟩;have go2:∀ s,ywp P 0 NoY x2 (qRx r K) s fr3 H3→Code.wpIn (FW none) 0 P c2 (bodyPostM (FW none) 0 P fn fun e w'=>∃ v c H' m',e=.returned c∧K v H'∧VRel m' v c∧ARel m' H' w'∧Kept m H w m' H' w') a w3:=by
        intro s hq;have hGd:qLr fun (s:Option Code) w=>w.heap[D]?=some (.deferred (some [])):=qHy (o:=fun _=>.deferred (some [])) fun _=>rfl
        refine wpIn_mono (qKn (ro:=none) (l:=0) (mb:=m3) (ds:=[{ target:=.collected D,args:=#[] }]) hGd noY h2 d2 _ s fr3 H3 m3 a w3 hq t6 t1 t2 t3 t4 t5 (.refl m3)) ?_;rintro e a w4 ⟨s,fr,H4,m4,hq,u0,u1,u2,u3,u4,u5,u6⟩;exact finB e fr H4 m4 D a w4 s hq u1 u2 u3 u5 u0 t7
      cases e with
      | normal=>exact go2 none hq
      | exit id' =>
        simp only [qHs] at hq;simp only [Exit.inBlock]
        split at hq
        . rename_i he; rw [if_pos he]; exact go2 none hq
        . exact hq.elim
      | ret=>exact finB .ret fr3 H3 m3 D a w3 none hq t1 t2 t3 t5 t6 t7
      | _=>exact hq.elim
    | _=>exact hq.elim
  | _=>exact hq.elim
end Am
