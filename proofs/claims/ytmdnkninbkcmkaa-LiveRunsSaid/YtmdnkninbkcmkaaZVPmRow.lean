/- What holds where, in plain lists and numbers: the work list comes to the least marks.
   No condition: plain lemmas. -/

import Derived.KernelRfl
import Derived.Test.YtmdnkninbkcmkaaZVPmCfg3
import Derived.Test.YtmdnkninbkcmkaaZVPmVal7
import Derived.Test.YtmdnkninbkcmkaaZVPm5
import Derived.Test.YtmdnkninbkcmkaaProg
import Derived.Test.YtmdnkninbkcmkaaZVPmCfgCode
namespace Pm
set_option linter.unusedSimpArgs false
set_option linter.unusedVariables false
open Go Am

def andN (a b:Nat):Nat:=a ^^^ (a &&& b)
theorem andN_bit (a b k:Nat):(andN a b).testBit k=(a.testBit k && !b.testBit k):=by
  unfold andN;rw [Nat.testBit_xor,Nat.testBit_and];cases a.testBit k<;>cases b.testBit k<;>rfl
theorem qSw {a b:Nat} (h:a < big):andN a b < big:=Nat.xor_lt_two_pow (n:=64) h (Nat.lt_of_le_of_lt Nat.and_le_left h)
theorem and_lt {a b:Nat} (h:a < big):a &&& b < big:=Nat.lt_of_le_of_lt Nat.and_le_left h
theorem ext_bits {a b:Nat} (ha:a < big) (hb:b < big) (h:∀ k,k < 64→a.testBit k=b.testBit k):a=b:=by
  apply Nat.eq_of_testBit_eq;intro k
  by_cases hk:k < 64
  . exact h k hk
  . have e:big≤2 ^ k:=Nat.pow_le_pow_right (n:=2) (by omega) (show 64≤k by omega)
    rw [Nat.testBit_lt_two_pow (Nat.lt_of_lt_of_le ha e),Nat.testBit_lt_two_pow (Nat.lt_of_lt_of_le hb e)]
theorem all_bits {k:Nat} (hk:k < 64):(allN 64).testBit k=true:=by
  unfold allN;rw [Nat.testBit_two_pow_sub_one]; simpa using hk
def gN (l:List Nat) (i:Nat):Nat:=l[i]?.getD 0
theorem qUz {l:List Nat} {i x:Nat} (h:l[i]?=some x):gN l i=x:=by simp [gN,h]
theorem qIj {l:List Nat} {i j x:Nat} (hi:i < l.length):gN (l.set i x) j=if j=i then x else gN l j:=by
  unfold gN;rw [List.getElem?_set]
  by_cases h:i=j
  . subst h; simp [hi]
  . rw [if_neg h,if_neg (fun e=>h e.symm)]

structure Prob where
  succs:List (List Int)
  gen:List Nat
  kill:List Nat
  start:Nat
  must:Bool
  back:Bool
def qEz (s:List (List Int)):List (List Int):=s.map fun l=>l.filter fun x:Int=>decide (0≤x∧x < (s.length:Int))
namespace Prob
def n (p:Prob):Nat:=p.succs.length
def froms (p:Prob):List (List Int):=if p.back then qEz p.succs else qPg p.succs
def tos (p:Prob):List (List Int):=if p.back then qPg p.succs else qEz p.succs
def edge (p:Prob) (i:Nat):Bool:=if p.back then decide ((p.n:Int)∈qEd p.succs i) else decide (i=0)
def all (p:Prob):Nat:=if p.must then allN 64 else 0
def meet (p:Prob) (a b:Nat):Nat:=if p.must then a &&& b else a ||| b
def thru (p:Prob) (i x:Nat):Nat:=andN x (gN p.kill i) ||| gN p.gen i
def marked (p:Prob) (x k:Nat):Bool:=x.testBit k != p.must
def genM (p:Prob) (i k:Nat):Bool:=if p.must then !(gN p.gen i).testBit k && (gN p.kill i).testBit k else (gN p.gen i).testBit k
def passM (p:Prob) (i k:Nat):Bool:=if p.must then !(gN p.gen i).testBit k else !(gN p.kill i).testBit k
def xv0 (p:Prob) (i:Nat):Nat:=if p.edge i then p.meet p.all p.start else p.all
def xvT (p:Prob) (out:List Nat) (i t:Nat):Nat:=((qEd p.froms i).take t).foldl (fun x k=>p.meet x (gN out k.toNat)) (p.xv0 i)
def xv (p:Prob) (out:List Nat) (i:Nat):Nat:=p.xvT out i (qEd p.froms i).length
structure Ok (p:Prob):Prop where
  gen:∀ i,gN p.gen i < big
  kill:∀ i,gN p.kill i < big
  start:p.start < big
  few:p.n≤64
  short:∀ l∈p.succs,l.length < lim
end Prob
inductive Mk (p:Prob) (k:Nat):Bool→Nat→Prop
  | start {i:Nat} (hi:i < p.n) (he:p.edge i=true) (hs:p.marked p.start k=true):Mk p k false i
  | flow {i j:Nat} (hi:i < p.n) (hj:(j:Int)∈qEd p.froms i) (h:Mk p k true j):Mk p k false i
  | gen {i:Nat} (hi:i < p.n) (hc:p.genM i k=true):Mk p k true i
  | pass {i:Nat} (h:Mk p k false i) (hp:p.passM i k=true):Mk p k true i
theorem Mk.lt {p:Prob} {k:Nat} {b:Bool} {i:Nat} (h:Mk p k b i):i < p.n:=by
  induction h<;>assumption
structure Solved (p:Prob) (inn out:List Nat):Prop where
  ilen:inn.length=p.n
  olen:out.length=p.n
  ilt:∀ i,gN inn i < big
  olt:∀ i,gN out i < big
  ahead:∀ i k,i < p.n→k < 64→(p.marked (gN inn i) k=true↔Mk p k false i)
  behind:∀ i k,i < p.n→k < 64→(p.marked (gN out i) k=true↔Mk p k true i)

section
variable {p : Prob} {inn out : List Nat} {q : List Nat} {w : List Bool}
theorem nexts_inside {s:List (List Int)} {i:Nat}:qEd (qEz s) i=(qEd s i).filter fun x:Int=>decide (0≤x∧x < (s.length:Int)):=by
  unfold qEd qEz;rw [List.getElem?_map];cases s[i]?<;>rfl
theorem qIy (s:List (List Int)):(qEz s).length=s.length:=by simp [qEz]
theorem qHi {s:List (List Int)} {i:Nat} (hi:i < s.length):qEd (qPg s) i=qFq s s.length i:=qHn (preds_at hi)
theorem qIx {s:List (List Int)} {i:Nat} {x:Int}:x∈qEd (qEz s) i↔∃ j:Nat,x=j∧j < s.length∧(j:Int)∈qEd s i:=by
  rw [nexts_inside,List.mem_filter,decide_eq_true_eq];constructor
  . rintro ⟨h1,h2,h3⟩
    exact ⟨x.toNat,by omega,by omega,by rw [show (x.toNat:Int)=x by omega]; exact h1⟩
  . rintro ⟨j,rfl,h2,h3⟩; exact ⟨h3,by omega,by omega⟩
theorem qMc {i:Nat} {x:Int} (hi:i < p.n) (h:x∈qEd p.froms i):∃ j:Nat,x=j∧j < p.n:=by
  unfold Prob.froms at h
  split at h
  . obtain ⟨j,h1,h2,_⟩:=qIx.1 h; exact ⟨j,h1,h2⟩
  . rw [qHi hi] at h
    obtain ⟨j,h1,h2,_⟩:=qJe.1 h; exact ⟨j,h1,h2⟩
theorem to_mem {i:Nat} {x:Int} (hi:i < p.n) (h:x∈qEd p.tos i):∃ j:Nat,x=j∧j < p.n:=by
  unfold Prob.tos at h
  split at h
  . rw [qHi hi] at h
    obtain ⟨j,h1,h2,_⟩:=qJe.1 h; exact ⟨j,h1,h2⟩
  . obtain ⟨j,h1,h2,_⟩:=qIx.1 h; exact ⟨j,h1,h2⟩
theorem from_to {i j:Nat} (hi:i < p.n) (hj:j < p.n):(i:Int)∈qEd p.froms j↔(j:Int)∈qEd p.tos i:=by
  unfold Prob.froms Prob.tos
  split
  . rw [qHi hi,qJe,qIx]
    constructor
    . rintro ⟨a,h1,h2,h3⟩; exact ⟨j,rfl,hj,by rwa [show (i:Int)=a by omega]⟩
    . rintro ⟨a,h1,h2,h3⟩; exact ⟨i,rfl,hi,by rwa [show j=a by omega]⟩
  . rw [qHi hj,qJe,qIx]
    constructor
    . rintro ⟨a,h1,h2,h3⟩; exact ⟨j,rfl,hj,by rwa [show i=a by omega]⟩
    . rintro ⟨a,h1,h2,h3⟩; exact ⟨i,rfl,hi,by rwa [show (j:Int)=a by omega]⟩
theorem all_lt':p.all < big:=by unfold Prob.all; split<;>decide
theorem meet_lt {a b:Nat} (ha:a < big) (hb:b < big):p.meet a b < big:=by
  unfold Prob.meet; split
  . exact and_lt ha
  . exact qUo ha hb
theorem thru_lt (ok:p.Ok) {i x:Nat} (hx:x < big):p.thru i x < big:=qUo (qSw hx) (ok.gen i)
theorem qRt {k:Nat} (hk:k < 64):p.marked p.all k=false:=by
  unfold Prob.marked Prob.all;cases hm:p.must
  . simp
  . simp [all_bits hk]
theorem mk_meet {a b k:Nat}:p.marked (p.meet a b) k=(p.marked a k || p.marked b k):=by
  unfold Prob.marked Prob.meet;cases hm:p.must
  . simp [Nat.testBit_or]
  . simp [Nat.testBit_and]
theorem qQj {i x k:Nat}:p.marked (p.thru i x) k=(p.genM i k || (p.passM i k && p.marked x k)):=by
  unfold Prob.marked Prob.thru Prob.genM Prob.passM;rw [Nat.testBit_or,andN_bit];cases hm:p.must<;>cases (gN p.gen i).testBit k<;>cases (gN p.kill i).testBit k<;>cases x.testBit k<;>rfl
theorem mk_ext {a b:Nat} (ha:a < big) (hb:b < big) (h:∀ k,k < 64→p.marked a k=p.marked b k):a=b:=by
  refine ext_bits ha hb fun k hk=>?_
  have:=h k hk;unfold Prob.marked at this;cases hm:p.must<;>rw [hm] at this<;>cases h1:a.testBit k<;>cases h2:b.testBit k<;>simp_all
theorem xv0_lt (ok:p.Ok) {i:Nat}:p.xv0 i < big:=by
  unfold Prob.xv0; split
  . exact meet_lt all_lt' ok.start
  . exact all_lt'
theorem qPn (ok:p.Ok) (ho:∀ i,gN out i < big) {i t:Nat}:p.xvT out i t < big:=by
  unfold Prob.xvT
  generalize (qEd p.froms i).take t=l
  have:∀ (l:List Int) (x:Nat),x < big→l.foldl (fun x k=>p.meet x (gN out k.toNat)) x < big:=by
    intro l
    induction l with
    | nil=>intro x h; exact h
    | cons a l ih=>intro x h; exact ih _ (meet_lt h (ho _))
  exact this l _ (xv0_lt ok)
theorem xvT_succ {i t:Nat} {j:Int} (h:(qEd p.froms i)[t]?=some j):p.xvT out i (t+1)=p.meet (p.xvT out i t) (gN out j.toNat):=by
  obtain ⟨h1,h2⟩:=List.getElem?_eq_some_iff.1 h;unfold Prob.xvT;rw [← List.take_append_getElem h1,List.foldl_append,h2]; rfl
theorem mk_xv0 {i k:Nat} (hk:k < 64):p.marked (p.xv0 i) k=(p.edge i && p.marked p.start k):=by
  unfold Prob.xv0
  split
  . rename_i h; rw [mk_meet,qRt hk,h]; simp
  . rename_i h; rw [qRt hk]; simp [h]
theorem mk_fold {k:Nat}:∀ (l:List Int) (x:Nat),p.marked (l.foldl (fun x j=>p.meet x (gN out j.toNat)) x) k=true↔p.marked x k=true∨∃ j∈l,p.marked (gN out j.toNat) k=true
  | [],x=>by simp
  | a :: l,x=>by
    rw [List.foldl_cons,mk_fold l,mk_meet];simp only [Bool.or_eq_true,List.mem_cons,exists_eq_or_imp,or_assoc]
theorem qQi {i k:Nat} (hk:k < 64):p.marked (p.xv out i) k=true↔(p.edge i=true∧p.marked p.start k=true)∨∃ j∈qEd p.froms i,p.marked (gN out j.toNat) k=true:=by
  unfold Prob.xv Prob.xvT;rw [List.take_length,mk_fold,mk_xv0 hk,Bool.and_eq_true]

structure FInv (p:Prob) (inn out:List Nat) (q:List Nat) (w:List Bool):Prop where
  ilen:inn.length=p.n
  olen:out.length=p.n
  wlen:w.length=p.n
  ilt:∀ i,gN inn i < big
  olt:∀ i,gN out i < big
  nodup:q.Nodup
  qw:∀ i,i∈q↔w[i]?=some true
  sndI:∀ i k,i < p.n→k < 64→p.marked (gN inn i) k=true→Mk p k false i
  sndO:∀ i k,i < p.n→k < 64→p.marked (gN out i) k=true→Mk p k true i
  ok:∀ i,i < p.n→i ∉ q→gN inn i=p.xv out i∧gN out i=p.thru i (p.xv out i)
  mono:∀ i k,i < p.n→k < 64→p.marked (gN out i) k=true→p.marked (p.thru i (p.xv out i)) k=true
structure FOne (p:Prob) (inn out:List Nat) (q:List Nat) (w:List Bool) (a:Nat):Prop where
  ilen:inn.length=p.n
  olen:out.length=p.n
  wlen:w.length=p.n
  ilt:∀ i,gN inn i < big
  olt:∀ i,gN out i < big
  nodup:q.Nodup
  qw:∀ i,i∈q↔w[i]?=some true
  sndI:∀ i k,i < p.n→k < 64→p.marked (gN inn i) k=true→Mk p k false i
  sndO:∀ i k,i < p.n→k < 64→p.marked (gN out i) k=true→Mk p k true i
  ok:∀ i,i < p.n→i ∉ q→i≠a→gN inn i=p.xv out i∧gN out i=p.thru i (p.xv out i)
  mono:∀ i k,i < p.n→k < 64→p.marked (gN out i) k=true→p.marked (p.thru i (p.xv out i)) k=true

theorem FInv.qlt (v:FInv p inn out q w) {i:Nat} (h:i∈q):i < p.n:=by
  have:=(List.getElem?_eq_some_iff.1 ((v.qw i).1 h)).1
  rwa [v.wlen] at this
theorem qMa:∀ {n:Nat} {q:List Nat},q.Nodup→(∀ i∈q,i < n)→q.length≤n
  | 0,q,_,hl=>by
    cases q with
    | nil=>simp
    | cons a q=>exact absurd (hl a (by simp)) (by omega)
  | n+1,q,h,hl=>by
    by_cases hn:n∈q
    . have h1:=qMa (n:=n) (h.erase n) fun i hi=>by
        have:=(List.Nodup.mem_erase_iff h).1 hi;have:=hl i this.2;omega
      rw [List.length_erase_of_mem hn] at h1; omega
    . have h1:=qMa (n:=n) h fun i hi=>by
        have:=hl i hi;have:i≠n:=fun e=>hn (e ▸ hi)
        omega
      omega
theorem FInv.pop {a:Nat} (v:FInv p inn out (a :: q) w):FOne p inn out q (w.set a false) a:=by
  have ha:=v.qlt (i:=a) (by simp)
  have haq:a ∉ q:=(List.nodup_cons.1 v.nodup).1;refine ⟨v.ilen,v.olen,by simp [v.wlen],v.ilt,v.olt,(List.nodup_cons.1 v.nodup).2,?_,v.sndI,v.sndO,fun i h1 h2 h3=>v.ok i h1 (by simp [h2,h3]),v.mono⟩
  intro i;rw [List.getElem?_set]
  by_cases e:a=i
  . subst e
    simp [haq,v.wlen,ha]
  . rw [if_neg e,← v.qw i]
    have e':¬ i=a:=fun h=>e h.symm
    simp [e']
def qUn (t:Nat×List Nat×List Bool) (l:List Int):List Nat×List Bool:=l.foldl (fun s x=>if s.2[x.toNat]?=some true then s else (s.1++[x.toNat],s.2.set x.toNat true)) t.2
def qEl (q:List Nat) (w:List Bool) (l:List Int):List Nat×List Bool:=qUn (0,q,w) l
theorem qMo:qEl q w []=(q,w):=rfl
theorem pushes_snoc {l:List Int} {x:Int}:qEl q w (l++[x])=if (qEl q w l).2[x.toNat]?=some true then qEl q w l else ((qEl q w l).1++[x.toNat],(qEl q w l).2.set x.toNat true):=by
  unfold qEl qUn;rw [List.foldl_append]; rfl
structure PInvW (n:Nat) (q:List Nat) (w:List Bool):Prop where
  wlen:w.length=n
  nodup:q.Nodup
  qw:∀ i,i∈q↔w[i]?=some true
theorem PInvW.qlen {n:Nat} (v:PInvW n q w):q.length≤n:=qMa v.nodup fun i hi=>by
  have:=(List.getElem?_eq_some_iff.1 ((v.qw i).1 hi)).1
  rwa [v.wlen] at this
theorem pushes_inv {n:Nat} (v:PInvW n q w) (l:List Int) (hl:∀ x∈l,x.toNat < n):PInvW n (qEl q w l).1 (qEl q w l).2∧(∀ i,i∈(qEl q w l).1↔i∈q∨∃ x∈l,i=x.toNat):=by
  obtain ⟨m,hm⟩:∃ m,m=l.length:=⟨_,rfl⟩
  induction m generalizing l with
  | zero =>
    obtain rfl:l=[]:=List.length_eq_zero_iff.1 hm.symm;exact ⟨v,fun i=>by simp [qMo]⟩
  | succ m ih =>
    obtain ⟨l',x,rfl⟩:∃ l' x,l=l'++[x]:=by
      refine ⟨l.dropLast,l.getLast (by intro e; rw [e] at hm; simp at hm),(List.dropLast_concat_getLast _).symm⟩
    have hx:=hl x (by simp)
    obtain ⟨i1,i2⟩:=ih l' (fun y hy=>hl y (by simp [hy])) (by simp at hm; omega)
    rw [pushes_snoc]
    split
    . rename_i h
      refine ⟨i1,fun i=>?_⟩
      rw [i2];have hxq:=(i1.qw x.toNat).2 h;rw [i2] at hxq;constructor
      . rintro (h | ⟨y,h1,h2⟩)
        . exact .inl h
        . exact .inr ⟨y,by simp [h1],h2⟩
      . rintro (h | ⟨y,h1,h2⟩)
        . exact .inl h
        . rcases List.mem_append.1 h1 with h1 | h1
          . exact .inr ⟨y,h1,h2⟩
          . rw [List.mem_singleton.1 h1] at h2; rw [h2]; exact hxq
    . rename_i h
      have hxq:x.toNat ∉ (qEl q w l').1:=fun e=>h ((i1.qw _).1 e)
      refine ⟨⟨by simp [i1.wlen],?_,fun i=>?_⟩,fun i=>?_⟩
      . rw [List.nodup_append]
        exact ⟨i1.nodup,by simp,fun a ha b hb=>by rw [List.mem_singleton.1 hb]; exact fun e=>hxq (e ▸ ha)⟩
      . simp only [List.mem_append,List.mem_singleton,List.getElem?_set]
        by_cases e:x.toNat=i
        . rw [if_pos e,if_pos (by rw [i1.wlen]; exact hx)]; simp [e]
        . rw [if_neg e,← i1.qw i]
          have e':¬ i=x.toNat:=fun h=>e h.symm
          simp [e']
      . simp only [List.mem_append,List.mem_singleton,i2]
        constructor
        . rintro ((h | ⟨y,h1,h2⟩) | h)
          . exact .inl h
          . exact .inr ⟨y,by simp [h1],h2⟩
          . exact .inr ⟨x,by simp,h⟩
        . rintro (h | ⟨y,h1 | h1,h2⟩)
          . exact .inl (.inl h)
          . exact .inl (.inr ⟨y,h1,h2⟩)
          . rw [h1] at h2; exact .inr h2
theorem nexts_to_lt {a:Nat} (ha:a < p.n):∀ x∈qEd p.tos a,x.toNat < p.n:=fun x hx=>by
  obtain ⟨j,rfl,hj⟩:=to_mem ha hx
  simpa using hj
def wt (p:Prob) (x:Nat):Nat:=if p.must then x else big - 1 - x
def wts (p:Prob) (out:List Nat):Nat:=(out.map (wt p)).sum
theorem wt_lt {x y:Nat} (hx:x < big) (hy:y < big) (h:∀ k,k < 64→p.marked x k=true→p.marked y k=true) (hne:y≠x):wt p y < wt p x:=by
  have hle:∀ {a b:Nat},a < big→b < big→(∀ k,k < 64→a.testBit k=true→b.testBit k=true)→a≤b:=by
    intro a b ha hb h;refine le_of_bits fun k hk=>?_
    by_cases hk6:k < 64
    . exact h k hk6 hk
    . have e:big≤2 ^ k:=Nat.pow_le_pow_right (n:=2) (by omega) (show 64≤k by omega)
      rw [Nat.testBit_lt_two_pow (Nat.lt_of_lt_of_le ha e)] at hk; cases hk
  unfold wt;cases hm:p.must
  . have:x≤y:=hle hx hy fun k hk e=>by have:=h k hk; simp [Prob.marked,hm] at this; exact this e
    simp only [Bool.false_eq_true,if_false]; omega
  . have:y≤x:=hle hy hx fun k hk e=>by
      have:=h k hk; simp only [Prob.marked,hm] at this;cases hxk:x.testBit k with
      | true=>rfl
      | false=>rw [hxk,e] at this; simp at this
    simp only [if_true]; omega
theorem wts_set {a x y:Nat} (ha:out[a]?=some x) (h:wt p y < wt p x):wts p (out.set a y) < wts p out:=by
  have:=sum_set (wt p) out a x y ha;unfold wts; omega
theorem FOne.same {a:Nat} (v:FOne p inn out q w a) (ha:a < p.n) (ok:p.Ok) (he:p.thru a (p.xv out a)=gN out a):FInv p (inn.set a (p.xv out a)) out q w:=by
  have hx:p.xv out a < big:=qPn ok v.olt;have hin:a < inn.length:=by rw [v.ilen]; exact ha
  refine ⟨by simp [v.ilen],v.olen,v.wlen,fun i=>?_,v.olt,v.nodup,v.qw,fun i k hi hk h=>?_,v.sndO,fun i h1 h2=>?_,v.mono⟩
  . rw [qIj hin]; split
    . exact hx
    . exact v.ilt i
  . rw [qIj hin] at h
    split at h
    . rename_i e; subst e
      rcases (qQi hk).1 h with ⟨h1,h2⟩ | ⟨j,h1,h2⟩
      . exact .start hi h1 h2
      . obtain ⟨j,rfl,hj⟩:=qMc hi h1
        exact .flow hi h1 (v.sndO j k hj hk (by simpa using h2))
    . exact v.sndI i k hi hk h
  . rw [qIj hin]
    split
    . rename_i e; subst e; exact ⟨rfl,he.symm⟩
    . rename_i e; exact v.ok i h1 h2 e
theorem FOne.new {a:Nat} (v:FOne p inn out q w a) (ha:a < p.n) (ok:p.Ok) :
    FInv p (inn.set a (p.xv out a)) (out.set a (p.thru a (p.xv out a))) (qEl q w (qEd p.tos a)).1 (qEl q w (qEd p.tos a)).2:=by
  have hx:p.xv out a < big:=qPn ok v.olt;have hy:=thru_lt ok (i:=a) hx;have hin:a < inn.length:=by rw [v.ilen]; exact ha
  have hon:a < out.length:=by rw [v.olen]; exact ha
  obtain ⟨P,hPm⟩:=pushes_inv (n:=p.n) ⟨v.wlen,v.nodup,v.qw⟩ (qEd p.tos a) (nexts_to_lt ha);obtain ⟨y,hyd⟩:∃ y,y=p.thru a (p.xv out a):=⟨_,rfl⟩;have hmo:∀ j k,j < p.n→k < 64→p.marked (gN out j) k=true→p.marked (gN (out.set a y) j) k=true:=by
    intro j k hj hk h;rw [qIj hon]
    split
    . rename_i e; subst e; rw [hyd]; exact v.mono _ k hj hk h
    . exact h
  have hxm:∀ i k,i < p.n→k < 64→p.marked (p.xv out i) k=true→p.marked (p.xv (out.set a y) i) k=true:=by
    intro i k hi hk h;rcases (qQi hk).1 h with h | ⟨j,h1,h2⟩
    . exact (qQi hk).2 (.inl h)
    . obtain ⟨j,rfl,hj⟩:=qMc hi h1
      exact (qQi hk).2 (.inr ⟨j,h1,by simpa using hmo j k hj hk (by simpa using h2)⟩)
  have hyb:∀ i,gN (out.set a y) i < big:=fun i=>by
    rw [qIj hon]; split
    . rw [hyd]; exact hy
    . exact v.olt i
  have hsnd:∀ k,k < 64→p.marked (p.xv out a) k=true→Mk p k false a:=by
    intro k hk h;rcases (qQi hk).1 h with ⟨h1,h2⟩ | ⟨j,h1,h2⟩
    . exact .start ha h1 h2
    . obtain ⟨j,rfl,hj⟩:=qMc ha h1
      exact .flow ha h1 (v.sndO j k hj hk (by simpa using h2))
  have hxs:∀ i,i < p.n→i ∉ (qEl q w (qEd p.tos a)).1→p.xv (out.set a y) i=p.xv out i:=by
    intro i hi hq;refine mk_ext (p:=p) (qPn ok hyb) (qPn ok v.olt) fun k hk=>?_
    have hna:∀ j:Nat,(j:Int)∈qEd p.froms i→j≠a:=by
      rintro j h1 rfl;exact hq ((hPm i).2 (.inr ⟨(i:Int),(from_to ha hi).1 h1,by simp⟩))
    rw [Bool.eq_iff_iff,qQi hk,qQi hk];refine or_congr Iff.rfl ⟨?_,?_⟩ <;>
    . rintro ⟨j,h1,h2⟩
      obtain ⟨j,rfl,hj⟩:=qMc hi h1;refine ⟨j,h1,?_⟩;have:=hna j h1;simp only [Int.toNat_natCast,qIj hon,if_neg this] at h2 ⊢;exact h2
  rw [← hyd];refine ⟨by simp [v.ilen],by simp [v.olen],P.wlen,fun i=>?_,hyb,P.nodup,P.qw,fun i k hi hk h=>?_,fun i k hi hk h=>?_,fun i h1 h2=>?_,fun i k hi hk h=>?_⟩
  . rw [qIj hin]; split
    . exact hx
    . exact v.ilt i
  . rw [qIj hin] at h
    split at h
    . rename_i e; subst e; exact hsnd k hk h
    . exact v.sndI i k hi hk h
  . rw [qIj hon] at h
    split at h
    . rename_i e; subst e
      rw [hyd,qQj,Bool.or_eq_true,Bool.and_eq_true] at h;rcases h with h | ⟨h1,h2⟩
      . exact .gen hi h
      . exact .pass (hsnd k hk h2) h1
    . exact v.sndO i k hi hk h
  . rw [hxs i h1 h2,qIj hin,qIj hon]
    split
    . rename_i e; subst e; exact ⟨rfl,hyd⟩
    . rename_i e; exact v.ok i h1 (fun h=>h2 ((hPm i).2 (.inl h))) e
  . have key:p.marked (p.thru i (p.xv out i)) k=true:=by
      rw [qIj hon] at h
      split at h
      . rename_i e; subst e; rw [← hyd]; exact h
      . exact v.mono i k hi hk h
    rw [qQj,Bool.or_eq_true,Bool.and_eq_true] at key ⊢;rcases key with h | ⟨h1,h2⟩
    . exact .inl h
    . exact .inr ⟨h1,hxm i k hi hk h2⟩
theorem FInv.init (ok:p.Ok):FInv p (List.replicate p.n p.all) (List.replicate p.n p.all) (List.range p.n) (List.replicate p.n true):=by
  have hg:∀ i,i < p.n→gN (List.replicate p.n p.all) i=p.all:=fun i hi=>by simp [gN,List.getElem?_replicate,hi]
  have hlt:∀ i,gN (List.replicate p.n p.all) i < big:=fun i=>by
    by_cases hi:i < p.n
    . rw [hg i hi]; exact all_lt'
    . simp [gN,List.getElem?_replicate,hi]
  refine ⟨by simp,by simp,by simp,hlt,hlt,List.nodup_range,fun i=>?_,fun i k hi hk h=>?_,fun i k hi hk h=>?_,fun i h1 h2=>?_,fun i k hi hk h=>?_⟩
  . rw [List.mem_range,List.getElem?_replicate]
    split
    . simp [*]
    . simp [*]
  . rw [hg i hi,qRt hk] at h; cases h
  . rw [hg i hi,qRt hk] at h; cases h
  . exact absurd (List.mem_range.2 h1) h2
  . rw [hg i hi,qRt hk] at h; cases h
theorem FInv.end (ok:p.Ok) (v:FInv p inn out [] w):Solved p inn out:=by
  have key:∀ k,k < 64→∀ b i,Mk p k b i→p.marked (gN (if b then out else inn) i) k=true:=by
    intro k hk b i h
    induction h with
    | start hi he hs =>
      simp only [Bool.false_eq_true,if_false];rw [(v.ok _ hi (by simp)).1]
      exact (qQi hk).2 (.inl ⟨he,hs⟩)
    | flow hi hj h ih =>
      simp only [Bool.false_eq_true,if_false,if_true] at ih ⊢;rw [(v.ok _ hi (by simp)).1]
      exact (qQi hk).2 (.inr ⟨_,hj,by simpa using ih⟩)
    | gen hi hc =>
      simp only [if_true];rw [(v.ok _ hi (by simp)).2,qQj,hc]; rfl
    | pass h hp ih =>
      simp only [Bool.false_eq_true,if_false,if_true] at ih ⊢;rw [(v.ok _ h.lt (by simp)).2,qQj,hp,← (v.ok _ h.lt (by simp)).1,ih]; simp
  exact ⟨v.ilen,v.olen,v.ilt,v.olt,fun i k hi hk=>⟨v.sndI i k hi hk,fun h=>by simpa using key k hk _ _ h⟩,fun i k hi hk=>⟨v.sndO i k hi hk,fun h=>by simpa using key k hk _ _ h⟩⟩
end
end Pm

/- The pure machine: rows of a function's own that grow and are cut, by their places behind the heap that it found.
   No condition: plain lemmas. -/
namespace Pm
set_option linter.unusedSimpArgs false
set_option linter.unusedVariables false
open Go Am

def rowO (o:Option Ob) (ver:Nat):Option Row:=match o with | some (.row r)=>if r.ver=ver then some r else none | _=>none
section
variable {h : Heap} {rs : List Ob} {cs vs : List Value} {e off n j ver len : Nat} {v : Value} {α : Type} {f : α → Value} {l : List α}
theorem qLs:(h++rs).row? (h.length+j) ver=rowO rs[j]? ver:=by
  simp only [Heap.row?,rowO,List.getElem?_append_right (Nat.le_add_right h.length j),Nat.add_sub_cancel_left]
  rfl
theorem row_at0:(h++rs).row? h.length ver=rowO rs[0]? ver:=qLs (j:=0)
theorem qSh:rowO (some (bx cs e)) 0=some ⟨cs,e,0,true⟩:=rfl
theorem qLt:rowO (some (bxQ cs ver)) ver=some ⟨cs,1,ver,true⟩:=by simp [rowO,bxQ]
theorem cell_at:(h++rs).cell? (h.length+j) off ver=(rowO rs[j]? ver).bind fun r=>r.cells[off]?:=by
  rw [Heap.cell?,qLs];cases rowO rs[j]? ver<;>rfl
theorem cells_at:(h++rs).cells? (h.length+j) off ver n=(rowO rs[j]? ver).bind fun r=>if off+n≤r.cells.length then some ((r.cells.drop off).take n) else none:=by
  rw [Heap.cells?,qLs];cases rowO rs[j]? ver<;>rfl
theorem store_at {r:Row} (hr:rowO rs[j]? ver=some r) (hv:cellsOf v=some vs) (hw:r.rw=true) (hn:vs.length=n) (ho:off+n≤r.cells.length) :
    qCm (h++rs) n (.pointer (some ⟨h.length+j,off,some ver⟩)) v=some (h++rs.set j (.row { r with cells:=setAll r.cells off vs })):=by
  simp only [qCm,qLs,hr,hv,hw,hn,ho,and_self,if_true];rw [List.set_append_right _ _ (Nat.le_add_right _ _),Nat.add_sub_cancel_left]
theorem storeQ_at {g:α→Value} {x:α} {m:List α} (hj:rs[j]?=some (bxQ (m.map g) ver)) (hv:v=g x) (hc:cellsOf (g x)=some [g x]) (ho:off < m.length) :
    qCm (h++rs) 1 (.pointer (some ⟨h.length+j,off,some ver⟩)) v=some (h++rs.set j (bxQ ((m.set off x).map g) ver)):=by
  rw [store_at (n:=1) (r:=⟨m.map g,1,ver,true⟩) (vs:=[g x]) (by rw [hj]; exact qLt) (by rw [hv]; exact hc) rfl rfl (by simp; omega)]
  simp [bxQ,List.map_set]
theorem qUe {r:Row} {lo hi:Option Value} {a b:Nat} (hr:rowO rs[j]? ver=some r) (he:r.esz=e) (hlo:loV lo=some a) (hhi:hiV len hi=some b) (hab:a≤b) :
    cutV (h++rs) e (.slice (some ⟨h.length+j,off,none⟩) len ver) lo hi=some (.slice (some ⟨h.length+j,off+a * e,none⟩) (b - a) ver):=by
  simp only [cutV,qLs,hr,hlo,hhi,he,hab,and_self,if_true]
theorem push_at {r:Row} {new:List Value} (hr:rowO rs[j]? ver=some r) (hv:qDu (h++rs) e v=some (n,new)) (hw:r.rw=true) (he:r.esz=e) (ho:off+len * e≤r.cells.length) (hl:len+n≤lim) :
    pApp (h++rs) e (.slice (some ⟨h.length+j,off,none⟩) len ver) v=some (.slice (some ⟨h.length+j,0,none⟩) (len+n) (ver+1),h++rs.set j (.row ⟨(r.cells.drop off).take (len * e)++new,e,ver+1,true⟩)):=by
  simp only [pApp,hv,qLj,qLs,hr,hw,he,ho,hl,and_self,if_true];rw [List.set_append_right _ _ (Nat.le_add_right _ _),Nat.add_sub_cancel_left]
theorem pushQ_at {new:List Value} {q:List Value} {pre:List Value} (hj:rs[j]?=some (bxQ (pre++q) ver)) (hv:qDu (h++rs) 1 v=some (n,new)) (hp:off=pre.length) (hq:len=q.length) (hl:len+n≤lim) :
    pApp (h++rs) 1 (.slice (some ⟨h.length+j,off,none⟩) len ver) v=some (.slice (some ⟨h.length+j,0,none⟩) (len+n) (ver+1),h++rs.set j (bxQ (q++new) (ver+1))):=by
  rw [push_at (r:=⟨pre++q,1,ver,true⟩) (by rw [hj]; exact qLt) hv rfl rfl (by simp [hp,hq]) hl]
  simp [bxQ,hp,hq]
theorem pElems_box {m:Nat} (hj:rs[m]?=some (bx cs e)) (hl:cs.length=n * e):qDu (h++rs) e (.slice (some ⟨h.length+m,0,none⟩) n 0)=some (n,cs):=by
  rw [qIv,cells_at,hj,qSh];simp [← hl]
theorem frz_at {r:Row} (hr:rowO rs[j]? ver=some r) (hl:off+n * r.esz≤r.cells.length) (hc:(seg r.cells off (n * r.esz)).all qCk=true) :
    frzV (h++rs) e (.slice (some ⟨h.length+j,off,none⟩) n ver)=some (lst r.esz n (seg r.cells off (n * r.esz)),h++rs.set j (.row { r with rw:=false })):=by
  simp only [frzV,frzC,qLs,hr];rw [if_pos ⟨hl,hc⟩,List.set_append_right _ _ (Nat.le_add_right _ _),Nat.add_sub_cancel_left]
theorem pushN {new:List Value} (hv:qDu h e v=some (n,new)) (hn:0 < n) (hl:n≤lim):pApp h e nilS v=some (.slice (some ⟨h.length,0,none⟩) n 0,h++[bx new e]):=by
  simp only [pApp,hv,qLj,if_neg (show ¬ n=0 by omega),if_pos hl]; rfl
theorem storeB_L {x:α} (hc:cellsOf (f x)=some [f x]):qKz (some (bxL f l)) off 1 [f x]=if off < l.length then some (bxL f (l.set off x)) else none:=by
  unfold bxL;rw [qAd];simp only [List.length_singleton,true_and,List.length_map]
  split
  . rename_i h1
    rw [if_pos (by omega)]
    simp [List.map_set]
  . rw [if_neg (by omega)]
theorem storeB_U {x:Nat} {l:List Nat}:qKz (some (bxL vU l)) off 1 [.int .u64 x]=if off < l.length then some (bxL vU (l.set off x)) else none:=storeB_L (f:=vU) rfl
theorem bx_repU:bx (rep n [.int .u64 0]) 1=bxL vU (List.replicate n 0):=by
  have:∀ n,rep n [.int .u64 0]=(List.replicate n 0).map vU:=by
    intro n
    induction n with
    | zero=>rfl
    | succ n ih=>simp [rep,ih,List.replicate_succ]
  rw [this]; rfl
end
end Pm
