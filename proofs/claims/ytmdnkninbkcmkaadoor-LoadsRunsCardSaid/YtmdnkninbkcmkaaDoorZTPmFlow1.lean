/- Graphs: all that is told of any code is what the document says.
   No condition: plain lemmas. -/
import Derived.KernelRfl
import Derived.Test.YtmdnkninbkcmkaaDoorZTPmMake2
import Derived.Test.YtmdnkninbkcmkaaDoorZTPmSuccs
import Derived.Test.YtmdnkninbkcmkaaDoorZTPmCfg3
import Derived.Test.YtmdnkninbkcmkaaDoorZTPmVal7
import Derived.Test.YtmdnkninbkcmkaaDoorZTPm5
import Derived.Test.YtmdnkninbkcmkaaDoorProg
import Derived.Test.YtmdnkninbkcmkaaDoorZTPmCfgC
namespace Pm
set_option linter.unusedSimpArgs false
set_option linter.unusedVariables false
open Go Am
open Go.Proofs.Tryd (prog)

theorem sum_succs (code:List Ins):((succs code).map List.length).sum≤2 * code.length:=by
  have h:∀ (l:List (List Int)),(∀ x∈l,x.length≤2)→(l.map List.length).sum≤2 * l.length:=by
    intro l
    induction l with
    | nil=>intro _; simp
    | cons a l ih =>
      intro h;have h1:=h a (by simp)
      have h2:=ih fun x hx=>h x (by simp [hx])
      simp only [List.map_cons,List.sum_cons,List.length_cons]; omega
  have:=h (succs code) fun x hx=>by
    obtain ⟨i,hi⟩:=List.mem_iff_getElem?.1 hx;rw [qMc] at hi;obtain ⟨y,_,rfl⟩:=Option.map_eq_some_iff.1 hi;exact nextsOf_len i y
  rw [qCv] at this; exact this
theorem succs_short (code:List Ins):∀ l∈succs code,l.length < lim:=by
  intro l hl;obtain ⟨i,hi⟩:=List.mem_iff_getElem?.1 hl;rw [qMc] at hi;obtain ⟨y,_,rfl⟩:=Option.map_eq_some_iff.1 hi;have:=nextsOf_len i y;simp [lim]; omega

def Choices (l:List (List Nat)):Prop:=qXp l∧∀ c∈l,qYl c
theorem Make_ok {l:List (List Nat)} (hl:Choices l) {h:Heap} {K:Value→Heap→Prop} (hk:K (.agg (qCt (qGc l)).toArray) h):qBn prog 5 [vL (vL v8) l] h K :=
  Make_call hl.1 (fun c hc=>(hl.2 c hc).1) (fun c hc=>(hl.2 c hc).2) hk
end Pm

/- What holds where, in plain lists and numbers: the work list comes to the least marks.
   No condition: plain lemmas. -/

namespace Pm
set_option linter.unusedSimpArgs false
set_option linter.unusedVariables false
open Go Am

def andN (a b:Nat):Nat:=a ^^^ (a &&& b)
theorem qUr (a b k:Nat):(andN a b).testBit k=(a.testBit k && !b.testBit k):=by
  unfold andN;rw [Nat.testBit_xor,Nat.testBit_and];cases a.testBit k<;>cases b.testBit k<;>rfl
theorem qUq {a b:Nat} (h:a < big):andN a b < big:=Nat.xor_lt_two_pow (n:=64) h (Nat.lt_of_le_of_lt Nat.and_le_left h)
theorem qXd {a b:Nat} (h:a < big):a &&& b < big:=Nat.lt_of_le_of_lt Nat.and_le_left h
theorem ext_bits {a b:Nat} (ha:a < big) (hb:b < big) (h:∀ k,k < 64→a.testBit k=b.testBit k):a=b:=by
  apply Nat.eq_of_testBit_eq;intro k
  by_cases hk:k < 64
  . exact h k hk
  . have e:big≤2 ^ k:=Nat.pow_le_pow_right (n:=2) (by omega) (show 64≤k by omega)
    rw [Nat.testBit_lt_two_pow (Nat.lt_of_lt_of_le ha e),Nat.testBit_lt_two_pow (Nat.lt_of_lt_of_le hb e)]
theorem all_bits {k:Nat} (hk:k < 64):(allN 64).testBit k=true:=by
  unfold allN;rw [Nat.testBit_two_pow_sub_one]; simpa using hk
def gN (l:List Nat) (i:Nat):Nat:=l[i]?.getD 0
theorem qZa {l:List Nat} {i x:Nat} (h:l[i]?=some x):gN l i=x:=by simp [gN,h]
theorem qJk {l:List Nat} {i j x:Nat} (hi:i < l.length):gN (l.set i x) j=if j=i then x else gN l j:=by
  unfold gN;rw [List.getElem?_set]
  by_cases h:i=j
  . subst h; simp [hi]
  . rw [if_neg h,if_neg (fun e=>h e.symm)]

structure Prob where
  succs:List (List Int)
  gen:List Nat
  kill:List Nat
  start:Nat
  must:Bool
  back:Bool
def qFc (s:List (List Int)):List (List Int):=s.map fun l=>l.filter fun x:Int=>decide (0≤x∧x < (s.length:Int))
namespace Prob
def n (p:Prob):Nat:=p.succs.length
def froms (p:Prob):List (List Int):=if p.back then qFc p.succs else qSc p.succs
def tos (p:Prob):List (List Int):=if p.back then qSc p.succs else qFc p.succs
def edge (p:Prob) (i:Nat):Bool:=if p.back then decide ((p.n:Int)∈qEk p.succs i) else decide (i=0)
def all (p:Prob):Nat:=if p.must then allN 64 else 0
def meet (p:Prob) (a b:Nat):Nat:=if p.must then a &&& b else a ||| b
def thru (p:Prob) (i x:Nat):Nat:=andN x (gN p.kill i) ||| gN p.gen i
def marked (p:Prob) (x k:Nat):Bool:=x.testBit k != p.must
def genM (p:Prob) (i k:Nat):Bool:=if p.must then !(gN p.gen i).testBit k && (gN p.kill i).testBit k else (gN p.gen i).testBit k
def passM (p:Prob) (i k:Nat):Bool:=if p.must then !(gN p.gen i).testBit k else !(gN p.kill i).testBit k
def xv0 (p:Prob) (i:Nat):Nat:=if p.edge i then p.meet p.all p.start else p.all
def xvT (p:Prob) (out:List Nat) (i t:Nat):Nat:=((qEk p.froms i).take t).foldl (fun x k=>p.meet x (gN out k.toNat)) (p.xv0 i)
def xv (p:Prob) (out:List Nat) (i:Nat):Nat:=p.xvT out i (qEk p.froms i).length
structure Ok (p:Prob):Prop where
  gen:∀ i,gN p.gen i < big
  kill:∀ i,gN p.kill i < big
  start:p.start < big
  few:p.n≤64
  short:∀ l∈p.succs,l.length < lim
end Prob
inductive Mk (p:Prob) (k:Nat):Bool→Nat→Prop
  | start {i:Nat} (hi:i < p.n) (he:p.edge i=true) (hs:p.marked p.start k=true):Mk p k false i
  | flow {i j:Nat} (hi:i < p.n) (hj:(j:Int)∈qEk p.froms i) (h:Mk p k true j):Mk p k false i
  | gen {i:Nat} (hi:i < p.n) (hc:p.genM i k=true):Mk p k true i
  | pass {i:Nat} (h:Mk p k false i) (hp:p.passM i k=true):Mk p k true i
theorem Mk.lt {p:Prob} {k:Nat} {b:Bool} {i:Nat} (h:Mk p k b i):i < p.n:=by
  induction h<;>assumption
structure Solved (p:Prob) (inn out:List Nat):Prop where
  ilen:inn.length=p.n
  olen:out.length=p.n
  ilt:∀ i,gN inn i < big
  olt:∀ i,gN out i < big
  ahead:∀ i k,i < p.n→k < 64→(p.marked (gN inn i) k=true↔Mk p k false i)
  behind:∀ i k,i < p.n→k < 64→(p.marked (gN out i) k=true↔Mk p k true i)

section
variable {p : Prob} {inn out : List Nat} {q : List Nat} {w : List Bool}
theorem nexts_inside {s:List (List Int)} {i:Nat}:qEk (qFc s) i=(qEk s i).filter fun x:Int=>decide (0≤x∧x < (s.length:Int)):=by
  unfold qEk qFc;rw [List.getElem?_map];cases s[i]?<;>rfl
theorem qJu (s:List (List Int)):(qFc s).length=s.length:=by simp [qFc]
theorem qHy {s:List (List Int)} {i:Nat} (hi:i < s.length):qEk (qSc s) i=qGe s s.length i:=qIc (preds_at hi)
theorem qIs {s:List (List Int)} {i:Nat} {x:Int}:x∈qEk (qFc s) i↔∃ j:Nat,x=j∧j < s.length∧(j:Int)∈qEk s i:=by
  rw [nexts_inside,List.mem_filter,decide_eq_true_eq];constructor
  . rintro ⟨h1,h2,h3⟩
    exact ⟨x.toNat,by omega,by omega,by rw [show (x.toNat:Int)=x by omega]; exact h1⟩
  . rintro ⟨j,rfl,h2,h3⟩; exact ⟨h3,by omega,by omega⟩
theorem qOe {i:Nat} {x:Int} (hi:i < p.n) (h:x∈qEk p.froms i):∃ j:Nat,x=j∧j < p.n:=by
  unfold Prob.froms at h
  split at h
  . obtain ⟨j,h1,h2,_⟩:=qIs.1 h; exact ⟨j,h1,h2⟩
  . rw [qHy hi] at h
    obtain ⟨j,h1,h2,_⟩:=qKc.1 h; exact ⟨j,h1,h2⟩
theorem to_mem {i:Nat} {x:Int} (hi:i < p.n) (h:x∈qEk p.tos i):∃ j:Nat,x=j∧j < p.n:=by
  unfold Prob.tos at h
  split at h
  . rw [qHy hi] at h
    obtain ⟨j,h1,h2,_⟩:=qKc.1 h; exact ⟨j,h1,h2⟩
  . obtain ⟨j,h1,h2,_⟩:=qIs.1 h; exact ⟨j,h1,h2⟩
theorem qWa {i j:Nat} (hi:i < p.n) (hj:j < p.n):(i:Int)∈qEk p.froms j↔(j:Int)∈qEk p.tos i:=by
  unfold Prob.froms Prob.tos
  split
  . rw [qHy hi,qKc,qIs]
    constructor
    . rintro ⟨a,h1,h2,h3⟩; exact ⟨j,rfl,hj,by rwa [show (i:Int)=a by omega]⟩
    . rintro ⟨a,h1,h2,h3⟩; exact ⟨i,rfl,hi,by rwa [show j=a by omega]⟩
  . rw [qHy hj,qKc,qIs]
    constructor
    . rintro ⟨a,h1,h2,h3⟩; exact ⟨j,rfl,hj,by rwa [show i=a by omega]⟩
    . rintro ⟨a,h1,h2,h3⟩; exact ⟨i,rfl,hi,by rwa [show (j:Int)=a by omega]⟩
theorem all_lt':p.all < big:=by unfold Prob.all; split<;>decide
theorem meet_lt {a b:Nat} (ha:a < big) (hb:b < big):p.meet a b < big:=by
  unfold Prob.meet; split
  . exact qXd ha
  . exact qVs ha hb
theorem thru_lt (ok:p.Ok) {i x:Nat} (hx:x < big):p.thru i x < big:=qVs (qUq hx) (ok.gen i)
theorem qUz {k:Nat} (hk:k < 64):p.marked p.all k=false:=by
  unfold Prob.marked Prob.all;cases hm:p.must
  . simp
  . simp [all_bits hk]
theorem mk_meet {a b k:Nat}:p.marked (p.meet a b) k=(p.marked a k || p.marked b k):=by
  unfold Prob.marked Prob.meet;cases hm:p.must
  . simp [Nat.testBit_or]
  . simp [Nat.testBit_and]
theorem qTg {i x k:Nat}:p.marked (p.thru i x) k=(p.genM i k || (p.passM i k && p.marked x k)):=by
  unfold Prob.marked Prob.thru Prob.genM Prob.passM;rw [Nat.testBit_or,qUr];cases hm:p.must<;>cases (gN p.gen i).testBit k<;>cases (gN p.kill i).testBit k<;>cases x.testBit k<;>rfl
theorem mk_ext {a b:Nat} (ha:a < big) (hb:b < big) (h:∀ k,k < 64→p.marked a k=p.marked b k):a=b:=by
  refine ext_bits ha hb fun k hk=>?_
  have:=h k hk;unfold Prob.marked at this;cases hm:p.must<;>rw [hm] at this<;>cases h1:a.testBit k<;>cases h2:b.testBit k<;>simp_all
theorem xv0_lt (ok:p.Ok) {i:Nat}:p.xv0 i < big:=by
  unfold Prob.xv0; split
  . exact meet_lt all_lt' ok.start
  . exact all_lt'
theorem qSm (ok:p.Ok) (ho:∀ i,gN out i < big) {i t:Nat}:p.xvT out i t < big:=by
  unfold Prob.xvT
  generalize (qEk p.froms i).take t=l
  have:∀ (l:List Int) (x:Nat),x < big→l.foldl (fun x k=>p.meet x (gN out k.toNat)) x < big:=by
    intro l
    induction l with
    | nil=>intro x h; exact h
    | cons a l ih=>intro x h; exact ih _ (meet_lt h (ho _))
  exact this l _ (xv0_lt ok)
theorem xvT_succ {i t:Nat} {j:Int} (h:(qEk p.froms i)[t]?=some j):p.xvT out i (t+1)=p.meet (p.xvT out i t) (gN out j.toNat):=by
  obtain ⟨h1,h2⟩:=List.getElem?_eq_some_iff.1 h;unfold Prob.xvT;rw [← List.take_append_getElem h1,List.foldl_append,h2]; rfl
theorem mk_xv0 {i k:Nat} (hk:k < 64):p.marked (p.xv0 i) k=(p.edge i && p.marked p.start k):=by
  unfold Prob.xv0
  split
  . rename_i h; rw [mk_meet,qUz hk,h]; simp
  . rename_i h; rw [qUz hk]; simp [h]
theorem mk_fold {k:Nat}:∀ (l:List Int) (x:Nat),p.marked (l.foldl (fun x j=>p.meet x (gN out j.toNat)) x) k=true↔p.marked x k=true∨∃ j∈l,p.marked (gN out j.toNat) k=true
  | [],x=>by simp
  | a :: l,x=>by
    rw [List.foldl_cons,mk_fold l,mk_meet];simp only [Bool.or_eq_true,List.mem_cons,exists_eq_or_imp,or_assoc]
theorem qTf {i k:Nat} (hk:k < 64):p.marked (p.xv out i) k=true↔(p.edge i=true∧p.marked p.start k=true)∨∃ j∈qEk p.froms i,p.marked (gN out j.toNat) k=true:=by
  unfold Prob.xv Prob.xvT;rw [List.take_length,mk_fold,mk_xv0 hk,Bool.and_eq_true]

structure FInv (p:Prob) (inn out:List Nat) (q:List Nat) (w:List Bool):Prop where
  ilen:inn.length=p.n
  olen:out.length=p.n
  wlen:w.length=p.n
  ilt:∀ i,gN inn i < big
  olt:∀ i,gN out i < big
  nodup:q.Nodup
  qw:∀ i,i∈q↔w[i]?=some true
  sndI:∀ i k,i < p.n→k < 64→p.marked (gN inn i) k=true→Mk p k false i
  sndO:∀ i k,i < p.n→k < 64→p.marked (gN out i) k=true→Mk p k true i
  ok:∀ i,i < p.n→i ∉ q→gN inn i=p.xv out i∧gN out i=p.thru i (p.xv out i)
  mono:∀ i k,i < p.n→k < 64→p.marked (gN out i) k=true→p.marked (p.thru i (p.xv out i)) k=true
structure FOne (p:Prob) (inn out:List Nat) (q:List Nat) (w:List Bool) (a:Nat):Prop where
  ilen:inn.length=p.n
  olen:out.length=p.n
  wlen:w.length=p.n
  ilt:∀ i,gN inn i < big
  olt:∀ i,gN out i < big
  nodup:q.Nodup
  qw:∀ i,i∈q↔w[i]?=some true
  sndI:∀ i k,i < p.n→k < 64→p.marked (gN inn i) k=true→Mk p k false i
  sndO:∀ i k,i < p.n→k < 64→p.marked (gN out i) k=true→Mk p k true i
  ok:∀ i,i < p.n→i ∉ q→i≠a→gN inn i=p.xv out i∧gN out i=p.thru i (p.xv out i)
  mono:∀ i k,i < p.n→k < 64→p.marked (gN out i) k=true→p.marked (p.thru i (p.xv out i)) k=true

theorem FInv.qlt (v:FInv p inn out q w) {i:Nat} (h:i∈q):i < p.n:=by
  have:=(List.getElem?_eq_some_iff.1 ((v.qw i).1 h)).1
  rwa [v.wlen] at this
theorem qOc:∀ {n:Nat} {q:List Nat},q.Nodup→(∀ i∈q,i < n)→q.length≤n
  | 0,q,_,hl=>by
    cases q with
    | nil=>simp
    | cons a q=>exact absurd (hl a (by simp)) (by omega)
  | n+1,q,h,hl=>by
    by_cases hn:n∈q
    . have h1:=qOc (n:=n) (h.erase n) fun i hi=>by
        have:=(List.Nodup.mem_erase_iff h).1 hi;have:=hl i this.2;omega
      rw [List.length_erase_of_mem hn] at h1; omega
    . have h1:=qOc (n:=n) h fun i hi=>by
        have:=hl i hi;have:i≠n:=fun e=>hn (e ▸ hi)
        omega
      omega
theorem FInv.pop {a:Nat} (v:FInv p inn out (a :: q) w):FOne p inn out q (w.set a false) a:=by
  have ha:=v.qlt (i:=a) (by simp)
  have haq:a ∉ q:=(List.nodup_cons.1 v.nodup).1;refine ⟨v.ilen,v.olen,by simp [v.wlen],v.ilt,v.olt,(List.nodup_cons.1 v.nodup).2,?_,v.sndI,v.sndO,fun i h1 h2 h3=>v.ok i h1 (by simp [h2,h3]),v.mono⟩
  intro i;rw [List.getElem?_set]
  by_cases e:a=i
  . subst e
    simp [haq,v.wlen,ha]
  . rw [if_neg e,← v.qw i]
    have e':¬ i=a:=fun h=>e h.symm
    simp [e']
def qYp (t:Nat×List Nat×List Bool) (l:List Int):List Nat×List Bool:=l.foldl (fun s x=>if s.2[x.toNat]?=some true then s else (s.1++[x.toNat],s.2.set x.toNat true)) t.2
def qEq (q:List Nat) (w:List Bool) (l:List Int):List Nat×List Bool:=qYp (0,q,w) l
theorem qOw:qEq q w []=(q,w):=rfl
theorem pushes_snoc {l:List Int} {x:Int}:qEq q w (l++[x])=if (qEq q w l).2[x.toNat]?=some true then qEq q w l else ((qEq q w l).1++[x.toNat],(qEq q w l).2.set x.toNat true):=by
  unfold qEq qYp;rw [List.foldl_append]; rfl
structure PInvW (n:Nat) (q:List Nat) (w:List Bool):Prop where
  wlen:w.length=n
  nodup:q.Nodup
  qw:∀ i,i∈q↔w[i]?=some true
theorem PInvW.qlen {n:Nat} (v:PInvW n q w):q.length≤n:=qOc v.nodup fun i hi=>by
  have:=(List.getElem?_eq_some_iff.1 ((v.qw i).1 hi)).1
  rwa [v.wlen] at this
theorem pushes_inv {n:Nat} (v:PInvW n q w) (l:List Int) (hl:∀ x∈l,x.toNat < n):PInvW n (qEq q w l).1 (qEq q w l).2∧(∀ i,i∈(qEq q w l).1↔i∈q∨∃ x∈l,i=x.toNat):=by
  obtain ⟨m,hm⟩:∃ m,m=l.length:=⟨_,rfl⟩
  induction m generalizing l with
  | zero =>
    obtain rfl:l=[]:=List.length_eq_zero_iff.1 hm.symm;exact ⟨v,fun i=>by simp [qOw]⟩
  | succ m ih =>
    obtain ⟨l',x,rfl⟩:∃ l' x,l=l'++[x]:=by
      refine ⟨l.dropLast,l.getLast (by intro e; rw [e] at hm; simp at hm),(List.dropLast_concat_getLast _).symm⟩
    have hx:=hl x (by simp)
    obtain ⟨i1,i2⟩:=ih l' (fun y hy=>hl y (by simp [hy])) (by simp at hm; omega)
    rw [pushes_snoc]
    split
    . rename_i h
      refine ⟨i1,fun i=>?_⟩
      rw [i2];have hxq:=(i1.qw x.toNat).2 h;rw [i2] at hxq;constructor
      . rintro (h | ⟨y,h1,h2⟩)
        . exact .inl h
        . exact .inr ⟨y,by simp [h1],h2⟩
      . rintro (h | ⟨y,h1,h2⟩)
        . exact .inl h
        . rcases List.mem_append.1 h1 with h1 | h1
          . exact .inr ⟨y,h1,h2⟩
          . rw [List.mem_singleton.1 h1] at h2; rw [h2]; exact hxq
    . rename_i h
      have hxq:x.toNat ∉ (qEq q w l').1:=fun e=>h ((i1.qw _).1 e)
      refine ⟨⟨by simp [i1.wlen],?_,fun i=>?_⟩,fun i=>?_⟩
      . rw [List.nodup_append]
        exact ⟨i1.nodup,by simp,fun a ha b hb=>by rw [List.mem_singleton.1 hb]; exact fun e=>hxq (e ▸ ha)⟩
      . simp only [List.mem_append,List.mem_singleton,List.getElem?_set]
        by_cases e:x.toNat=i
        . rw [if_pos e,if_pos (by rw [i1.wlen]; exact hx)]; simp [e]
        . rw [if_neg e,← i1.qw i]
          have e':¬ i=x.toNat:=fun h=>e h.symm
          simp [e']
      . simp only [List.mem_append,List.mem_singleton,i2]
        constructor
        . rintro ((h | ⟨y,h1,h2⟩) | h)
          . exact .inl h
          . exact .inr ⟨y,by simp [h1],h2⟩
          . exact .inr ⟨x,by simp,h⟩
        . rintro (h | ⟨y,h1 | h1,h2⟩)
          . exact .inl (.inl h)
          . exact .inl (.inr ⟨y,h1,h2⟩)
          . rw [h1] at h2; exact .inr h2
theorem nexts_to_lt {a:Nat} (ha:a < p.n):∀ x∈qEk p.tos a,x.toNat < p.n:=fun x hx=>by
  obtain ⟨j,rfl,hj⟩:=to_mem ha hx
  simpa using hj
def wt (p:Prob) (x:Nat):Nat:=if p.must then x else big - 1 - x
def wts (p:Prob) (out:List Nat):Nat:=(out.map (wt p)).sum
theorem wt_lt {x y:Nat} (hx:x < big) (hy:y < big) (h:∀ k,k < 64→p.marked x k=true→p.marked y k=true) (hne:y≠x):wt p y < wt p x:=by
  have hle:∀ {a b:Nat},a < big→b < big→(∀ k,k < 64→a.testBit k=true→b.testBit k=true)→a≤b:=by
    intro a b ha hb h;refine le_of_bits fun k hk=>?_
    by_cases hk6:k < 64
    . exact h k hk6 hk
    . have e:big≤2 ^ k:=Nat.pow_le_pow_right (n:=2) (by omega) (show 64≤k by omega)
      rw [Nat.testBit_lt_two_pow (Nat.lt_of_lt_of_le ha e)] at hk; cases hk
  unfold wt;cases hm:p.must
  . have:x≤y:=hle hx hy fun k hk e=>by have:=h k hk; simp [Prob.marked,hm] at this; exact this e
    simp only [Bool.false_eq_true,if_false]; omega
  . have:y≤x:=hle hy hx fun k hk e=>by
      have:=h k hk; simp only [Prob.marked,hm] at this;cases hxk:x.testBit k with
      | true=>rfl
      | false=>rw [hxk,e] at this; simp at this
    simp only [if_true]; omega
theorem wts_set {a x y:Nat} (ha:out[a]?=some x) (h:wt p y < wt p x):wts p (out.set a y) < wts p out:=by
  have:=sum_set (wt p) out a x y ha;unfold wts; omega
theorem FOne.same {a:Nat} (v:FOne p inn out q w a) (ha:a < p.n) (ok:p.Ok) (he:p.thru a (p.xv out a)=gN out a):FInv p (inn.set a (p.xv out a)) out q w:=by
  have hx:p.xv out a < big:=qSm ok v.olt;have hin:a < inn.length:=by rw [v.ilen]; exact ha
  refine ⟨by simp [v.ilen],v.olen,v.wlen,fun i=>?_,v.olt,v.nodup,v.qw,fun i k hi hk h=>?_,v.sndO,fun i h1 h2=>?_,v.mono⟩
  . rw [qJk hin]; split
    . exact hx
    . exact v.ilt i
  . rw [qJk hin] at h
    split at h
    . rename_i e; subst e
      rcases (qTf hk).1 h with ⟨h1,h2⟩ | ⟨j,h1,h2⟩
      . exact .start hi h1 h2
      . obtain ⟨j,rfl,hj⟩:=qOe hi h1
        exact .flow hi h1 (v.sndO j k hj hk (by simpa using h2))
    . exact v.sndI i k hi hk h
  . rw [qJk hin]
    split
    . rename_i e; subst e; exact ⟨rfl,he.symm⟩
    . rename_i e; exact v.ok i h1 h2 e
theorem FOne.new {a:Nat} (v:FOne p inn out q w a) (ha:a < p.n) (ok:p.Ok) :
    FInv p (inn.set a (p.xv out a)) (out.set a (p.thru a (p.xv out a))) (qEq q w (qEk p.tos a)).1 (qEq q w (qEk p.tos a)).2:=by
  have hx:p.xv out a < big:=qSm ok v.olt;have hy:=thru_lt ok (i:=a) hx;have hin:a < inn.length:=by rw [v.ilen]; exact ha
  have hon:a < out.length:=by rw [v.olen]; exact ha
  obtain ⟨P,hPm⟩:=pushes_inv (n:=p.n) ⟨v.wlen,v.nodup,v.qw⟩ (qEk p.tos a) (nexts_to_lt ha);obtain ⟨y,hyd⟩:∃ y,y=p.thru a (p.xv out a):=⟨_,rfl⟩;have hmo:∀ j k,j < p.n→k < 64→p.marked (gN out j) k=true→p.marked (gN (out.set a y) j) k=true:=by
    intro j k hj hk h;rw [qJk hon]
    split
    . rename_i e; subst e; rw [hyd]; exact v.mono _ k hj hk h
    . exact h
  have hxm:∀ i k,i < p.n→k < 64→p.marked (p.xv out i) k=true→p.marked (p.xv (out.set a y) i) k=true:=by
    intro i k hi hk h;rcases (qTf hk).1 h with h | ⟨j,h1,h2⟩
    . exact (qTf hk).2 (.inl h)
    . obtain ⟨j,rfl,hj⟩:=qOe hi h1
      exact (qTf hk).2 (.inr ⟨j,h1,by simpa using hmo j k hj hk (by simpa using h2)⟩)
  have hyb:∀ i,gN (out.set a y) i < big:=fun i=>by
    rw [qJk hon]; split
    . rw [hyd]; exact hy
    . exact v.olt i
  have hsnd:∀ k,k < 64→p.marked (p.xv out a) k=true→Mk p k false a:=by
    intro k hk h;rcases (qTf hk).1 h with ⟨h1,h2⟩ | ⟨j,h1,h2⟩
    . exact .start ha h1 h2
    . obtain ⟨j,rfl,hj⟩:=qOe ha h1
      exact .flow ha h1 (v.sndO j k hj hk (by simpa using h2))
  have hxs:∀ i,i < p.n→i ∉ (qEq q w (qEk p.tos a)).1→p.xv (out.set a y) i=p.xv out i:=by
    intro i hi hq;refine mk_ext (p:=p) (qSm ok hyb) (qSm ok v.olt) fun k hk=>?_
    have hna:∀ j:Nat,(j:Int)∈qEk p.froms i→j≠a:=by
      rintro j h1 rfl;exact hq ((hPm i).2 (.inr ⟨(i:Int),(qWa ha hi).1 h1,by simp⟩))
    rw [Bool.eq_iff_iff,qTf hk,qTf hk];refine or_congr Iff.rfl ⟨?_,?_⟩ <;>
    . rintro ⟨j,h1,h2⟩
      obtain ⟨j,rfl,hj⟩:=qOe hi h1;refine ⟨j,h1,?_⟩;have:=hna j h1;simp only [Int.toNat_natCast,qJk hon,if_neg this] at h2 ⊢;exact h2
  rw [← hyd];refine ⟨by simp [v.ilen],by simp [v.olen],P.wlen,fun i=>?_,hyb,P.nodup,P.qw,fun i k hi hk h=>?_,fun i k hi hk h=>?_,fun i h1 h2=>?_,fun i k hi hk h=>?_⟩
  . rw [qJk hin]; split
    . exact hx
    . exact v.ilt i
  . rw [qJk hin] at h
    split at h
    . rename_i e; subst e; exact hsnd k hk h
    . exact v.sndI i k hi hk h
  . rw [qJk hon] at h
    split at h
    . rename_i e; subst e
      rw [hyd,qTg,Bool.or_eq_true,Bool.and_eq_true] at h;rcases h with h | ⟨h1,h2⟩
      . exact .gen hi h
      . exact .pass (hsnd k hk h2) h1
    . exact v.sndO i k hi hk h
  . rw [hxs i h1 h2,qJk hin,qJk hon]
    split
    . rename_i e; subst e; exact ⟨rfl,hyd⟩
    . rename_i e; exact v.ok i h1 (fun h=>h2 ((hPm i).2 (.inl h))) e
  . have key:p.marked (p.thru i (p.xv out i)) k=true:=by
      rw [qJk hon] at h
      split at h
      . rename_i e; subst e; rw [← hyd]; exact h
      . exact v.mono i k hi hk h
    rw [qTg,Bool.or_eq_true,Bool.and_eq_true] at key ⊢;rcases key with h | ⟨h1,h2⟩
    . exact .inl h
    . exact .inr ⟨h1,hxm i k hi hk h2⟩
theorem FInv.init (ok:p.Ok):FInv p (List.replicate p.n p.all) (List.replicate p.n p.all) (List.range p.n) (List.replicate p.n true):=by
  have hg:∀ i,i < p.n→gN (List.replicate p.n p.all) i=p.all:=fun i hi=>by simp [gN,List.getElem?_replicate,hi]
  have hlt:∀ i,gN (List.replicate p.n p.all) i < big:=fun i=>by
    by_cases hi:i < p.n
    . rw [hg i hi]; exact all_lt'
    . simp [gN,List.getElem?_replicate,hi]
  refine ⟨by simp,by simp,by simp,hlt,hlt,List.nodup_range,fun i=>?_,fun i k hi hk h=>?_,fun i k hi hk h=>?_,fun i h1 h2=>?_,fun i k hi hk h=>?_⟩
  . rw [List.mem_range,List.getElem?_replicate]
    split
    . simp [*]
    . simp [*]
  . rw [hg i hi,qUz hk] at h; cases h
  . rw [hg i hi,qUz hk] at h; cases h
  . exact absurd (List.mem_range.2 h1) h2
  . rw [hg i hi,qUz hk] at h; cases h
theorem FInv.end (ok:p.Ok) (v:FInv p inn out [] w):Solved p inn out:=by
  have key:∀ k,k < 64→∀ b i,Mk p k b i→p.marked (gN (if b then out else inn) i) k=true:=by
    intro k hk b i h
    induction h with
    | start hi he hs =>
      simp only [Bool.false_eq_true,if_false];rw [(v.ok _ hi (by simp)).1]
      exact (qTf hk).2 (.inl ⟨he,hs⟩)
    | flow hi hj h ih =>
      simp only [Bool.false_eq_true,if_false,if_true] at ih ⊢;rw [(v.ok _ hi (by simp)).1]
      exact (qTf hk).2 (.inr ⟨_,hj,by simpa using ih⟩)
    | gen hi hc =>
      simp only [if_true];rw [(v.ok _ hi (by simp)).2,qTg,hc]; rfl
    | pass h hp ih =>
      simp only [Bool.false_eq_true,if_false,if_true] at ih ⊢;rw [(v.ok _ h.lt (by simp)).2,qTg,hp,← (v.ok _ h.lt (by simp)).1,ih]; simp
  exact ⟨v.ilen,v.olen,v.ilt,v.olt,fun i k hi hk=>⟨v.sndI i k hi hk,fun h=>by simpa using key k hk _ _ h⟩,fun i k hi hk=>⟨v.sndO i k hi hk,fun h=>by simpa using key k hk _ _ h⟩⟩
end
end Pm

/- The pure machine: rows of a function's own that grow and are cut, by their places behind the heap that it found.
   No condition: plain lemmas. -/
namespace Pm
set_option linter.unusedSimpArgs false
set_option linter.unusedVariables false
open Go Am

def rowO (o:Option Ob) (ver:Nat):Option Row:=match o with | some (.row r)=>if r.ver=ver then some r else none | _=>none
section
variable {h : Heap} {rs : List Ob} {cs vs : List Value} {e off n j ver len : Nat} {v : Value} {α : Type} {f : α → Value} {l : List α}
theorem qNv:(h++rs).row? (h.length+j) ver=rowO rs[j]? ver:=by
  simp only [Heap.row?,rowO,List.getElem?_append_right (Nat.le_add_right h.length j),Nat.add_sub_cancel_left]
  rfl
theorem row_at0:(h++rs).row? h.length ver=rowO rs[0]? ver:=qNv (j:=0)
theorem qVo:rowO (some (bx cs e)) 0=some ⟨cs,e,0,true⟩:=rfl
theorem rowO_L:rowO (some (bxL f l)) 0=some ⟨l.map f,1,0,true⟩:=rfl
theorem qNw:rowO (some (bxQ cs ver)) ver=some ⟨cs,1,ver,true⟩:=by simp [rowO,bxQ]
theorem cell_at:(h++rs).cell? (h.length+j) off ver=(rowO rs[j]? ver).bind fun r=>r.cells[off]?:=by
  rw [Heap.cell?,qNv];cases rowO rs[j]? ver<;>rfl
theorem cells_at:(h++rs).cells? (h.length+j) off ver n=(rowO rs[j]? ver).bind fun r=>if off+n≤r.cells.length then some ((r.cells.drop off).take n) else none:=by
  rw [Heap.cells?,qNv];cases rowO rs[j]? ver<;>rfl
theorem store_at {r:Row} (hr:rowO rs[j]? ver=some r) (hv:cellsOf v=some vs) (hw:r.rw=true) (hn:vs.length=n) (ho:off+n≤r.cells.length) :
    qBz (h++rs) n (.pointer (some ⟨h.length+j,off,some ver⟩)) v=some (h++rs.set j (.row { r with cells:=setAll r.cells off vs })):=by
  simp only [qBz,qNv,hr,hv,hw,hn,ho,and_self,if_true];rw [List.set_append_right _ _ (Nat.le_add_right _ _),Nat.add_sub_cancel_left]
theorem storeQ_at {g:α→Value} {x:α} {m:List α} (hj:rs[j]?=some (bxQ (m.map g) ver)) (hv:v=g x) (hc:cellsOf (g x)=some [g x]) (ho:off < m.length) :
    qBz (h++rs) 1 (.pointer (some ⟨h.length+j,off,some ver⟩)) v=some (h++rs.set j (bxQ ((m.set off x).map g) ver)):=by
  rw [store_at (n:=1) (r:=⟨m.map g,1,ver,true⟩) (vs:=[g x]) (by rw [hj]; exact qNw) (by rw [hv]; exact hc) rfl rfl (by simp; omega)]
  simp [bxQ,List.map_set]
theorem qYd {r:Row} {lo hi:Option Value} {a b:Nat} (hr:rowO rs[j]? ver=some r) (he:r.esz=e) (hlo:loV lo=some a) (hhi:hiV len hi=some b) (hab:a≤b) :
    cutV (h++rs) e (.slice (some ⟨h.length+j,off,none⟩) len ver) lo hi=some (.slice (some ⟨h.length+j,off+a * e,none⟩) (b - a) ver):=by
  simp only [cutV,qNv,hr,hlo,hhi,he,hab,and_self,if_true]
theorem qVq {r:Row} {new:List Value} (hr:rowO rs[j]? ver=some r) (hv:qDt (h++rs) e v=some (n,new)) (hw:r.rw=true) (he:r.esz=e) (ho:off+len * e≤r.cells.length) (hl:len+n≤lim) :
    pApp (h++rs) e (.slice (some ⟨h.length+j,off,none⟩) len ver) v=some (.slice (some ⟨h.length+j,0,none⟩) (len+n) (ver+1),h++rs.set j (.row ⟨(r.cells.drop off).take (len * e)++new,e,ver+1,true⟩)):=by
  simp only [pApp,hv,qLm,qNv,hr,hw,he,ho,hl,and_self,if_true];rw [List.set_append_right _ _ (Nat.le_add_right _ _),Nat.add_sub_cancel_left]
theorem pushQ_at {new:List Value} {q:List Value} {pre:List Value} (hj:rs[j]?=some (bxQ (pre++q) ver)) (hv:qDt (h++rs) 1 v=some (n,new)) (hp:off=pre.length) (hq:len=q.length) (hl:len+n≤lim) :
    pApp (h++rs) 1 (.slice (some ⟨h.length+j,off,none⟩) len ver) v=some (.slice (some ⟨h.length+j,0,none⟩) (len+n) (ver+1),h++rs.set j (bxQ (q++new) (ver+1))):=by
  rw [qVq (r:=⟨pre++q,1,ver,true⟩) (by rw [hj]; exact qNw) hv rfl rfl (by simp [hp,hq]) hl]
  simp [bxQ,hp,hq]
theorem qPa {m:Nat} (hj:rs[m]?=some (bx cs e)) (hl:cs.length=n * e):qDt (h++rs) e (.slice (some ⟨h.length+m,0,none⟩) n 0)=some (n,cs):=by
  rw [qJs,cells_at,hj,qVo];simp [← hl]
theorem pApp_esz {H H':Heap} {s x w:Value} (hp:pApp H e s x=some (w,H')) {id:Nat} {r:Row} (hr:H'[id]?=some (.row r)):r.esz=e∨H[id]?=some (.row r):=by
  unfold pApp at hp
  split at hp
  . rename_i n new _
    unfold qLm at hp
    split at hp
    . split at hp
      . cases hp; exact .inr hr
      . split at hp
        . cases hp
          by_cases hi:id < H.length
          . rw [show Am.newRow H new e=H++[.row ⟨new,e,0,true⟩] from rfl,List.getElem?_append_left hi] at hr
            exact .inr hr
          . rw [show Am.newRow H new e=H++[.row ⟨new,e,0,true⟩] from rfl,List.getElem?_append_right (by omega)] at hr
            have:id - H.length=0:=by
              have:=(List.getElem?_eq_some_iff.1 hr).1;simp at this; omega
            rw [this] at hr;simp at hr;subst hr; exact .inl rfl
        . cases hp
    . split at hp
      . split at hp
        . cases hp
          rw [List.getElem?_set] at hr
          split at hr
          . split at hr
            . cases hr; exact .inl rfl
            . cases hr
          . exact .inr hr
        . cases hp
      . cases hp
    . cases hp
  . cases hp
theorem qWw {r:Row} (hr:rowO rs[j]? ver=some r) (hl:off+n * r.esz≤r.cells.length) (hc:(seg r.cells off (n * r.esz)).all qCo=true) :
    frzV (h++rs) e (.slice (some ⟨h.length+j,off,none⟩) n ver)=some (lst r.esz n (seg r.cells off (n * r.esz)),h++rs.set j (.row { r with rw:=false })):=by
  simp only [frzV,frzC,qNv,hr];rw [if_pos ⟨hl,hc⟩,List.set_append_right _ _ (Nat.le_add_right _ _),Nat.add_sub_cancel_left]
theorem frz_one {L:List Ob} {r:Int} {k:Nat} (hL:L[k]?=some (bx [vI r] 1)):frzV (h++L) 1 (.slice (some ⟨h.length+k,0,none⟩) 1 0)=some (vL vI [r],h++L.set k (.row ⟨[vI r],1,0,false⟩)) :=
  qWw (r:=⟨[vI r],1,0,true⟩) (by rw [hL]; rfl) (by simp) rfl
theorem pushN {new:List Value} (hv:qDt h e v=some (n,new)) (hn:0 < n) (hl:n≤lim):pApp h e nilS v=some (.slice (some ⟨h.length,0,none⟩) n 0,h++[bx new e]):=by
  simp only [pApp,hv,qLm,if_neg (show ¬ n=0 by omega),if_pos hl]; rfl
theorem storeB_L {x:α} (hc:cellsOf (f x)=some [f x]):qLh (some (bxL f l)) off 1 [f x]=if off < l.length then some (bxL f (l.set off x)) else none:=by
  unfold bxL;rw [qAd];simp only [List.length_singleton,true_and,List.length_map]
  split
  . rename_i h1
    rw [if_pos (by omega)]
    simp [List.map_set]
  . rw [if_neg (by omega)]
theorem storeB_U {x:Nat} {l:List Nat}:qLh (some (bxL vU l)) off 1 [.int .u64 x]=if off < l.length then some (bxL vU (l.set off x)) else none:=storeB_L (f:=vU) rfl
theorem storeB_I {x:Int} {l:List Int}:qLh (some (bxL vI l)) off 1 [.int .i64 x]=if off < l.length then some (bxL vI (l.set off x)) else none:=storeB_L (f:=vI) rfl
theorem bx_repU:bx (rep n [.int .u64 0]) 1=bxL vU (List.replicate n 0):=by
  have:∀ n,rep n [.int .u64 0]=(List.replicate n 0).map vU:=by
    intro n
    induction n with
    | zero=>rfl
    | succ n ih=>simp [rep,ih,List.replicate_succ]
  rw [this]; rfl
theorem bx_repI:bx (rep n [.int .i64 0]) 1=bxL vI (List.replicate n 0):=by
  have:∀ n,rep n [.int .i64 0]=(List.replicate n 0).map vI:=by
    intro n
    induction n with
    | zero=>rfl
    | succ n ih=>simp [rep,ih,List.replicate_succ]
  rw [this]; rfl
end
end Pm

/- What holds where: the small functions, walked.
   No condition: plain lemmas. -/

namespace Pm
set_option linter.unusedSimpArgs false
set_option linter.unusedVariables false
open Go Am
open Go.Proofs.Tryd (prog)

theorem bits_andNot {a b:Nat} (ha:a < big) (hb:b < big):bits .u64 .andNot (a:Int) (b:Int)=((andN a b:Nat):Int):=by
  have e:(BitVec.ofInt 64 (a:Int) &&& ~~~ BitVec.ofInt 64 (b:Int)).toNat=andN a b:=by
    rw [BitVec.ofInt_natCast,BitVec.ofInt_natCast];apply Nat.eq_of_testBit_eq;intro k;rw [qUr,BitVec.testBit_toNat,BitVec.getLsbD_and,BitVec.getLsbD_not,BitVec.getLsbD_ofNat,BitVec.getLsbD_ofNat]
    by_cases hk:k < 64
    . simp [hk]
    . have e:big≤2 ^ k:=Nat.pow_le_pow_right (n:=2) (by omega) (show 64≤k by omega)
      rw [Nat.testBit_lt_two_pow (Nat.lt_of_lt_of_le ha e)];simp [hk]
  show IntKind.u64.wrap ((BitVec.ofInt 64 (a:Int) &&& ~~~ BitVec.ofInt 64 (b:Int)).toNat:Int)=_;rw [e,qLg,Nat.mod_eq_of_lt (qUq ha)]

section
variable {h : Heap} {K : Value → Heap → Prop}
theorem fAt_call {l:List Nat} {i:Nat} (hk:K (vU (gN l i)) h):qBn prog 69 [vL vU l,vI i] h K:=by
  refine Pure.go (Pure.one (p:=vU (gN l i)) rfl fun h=>?_) hk
  refine call_fAt (by simp) ?_
  by_cases hi:l.length≤i
  . have e:gN l i=0:=by simp [gN,List.getElem?_eq_none hi]
    simp [qAl,qAo,qAm,qAi,qAf,qAe,qAb,qAc,qAa,qAj,qAg,qAd,qAu,qAv,resV,retV,qAn,qAh,qAs,qAr,qAq,qAp,qYt,hi,e]
  . obtain ⟨x,hx⟩:∃ x,l[i]?=some x:=⟨_,List.getElem?_eq_getElem (by omega)⟩
    have e:gN l i=x:=qZa hx;simp [qAl,qAo,qAm,qAi,qAf,qAe,qAb,qAc,qAa,qAj,qAg,qAd,qAu,qAv,resV,retV,qAn,qAh,qAs,qAr,qAq,qAp,qYt,hi,e,hx]
theorem Idx1_pure {l:List Int} {x:Int} (hl:l.length≤lim):∃ r:Int,(0≤r↔x∈l)∧Pure prog 99 [vL vI l,vI x] (vI r):=by
  refine ⟨match l.idxOf? x with | some i=>i | none=>-1,?_,?_⟩
  . cases hi:l.idxOf? x with
    | none=>simp [List.idxOf?_eq_none_iff.1 hi]
    | some i =>
      have:x∈l:=by
        rcases Classical.em (x∈l) with h | h
        . exact h
        . rw [List.idxOf?_eq_none_iff.2 h] at hi; cases hi
      simp [this]
  . refine Pure.one rfl fun h=>?_
    refine call_Idx1 (by simp) ?_
    simp [qAl,qAo,qAm,qAi,qAf,qAe,qAb,qAc,qAa,qAj,qAg,qAd,qAu,qAv,resV,retV,qAn,qAh,qAs,qAr,qAq,qAp,qYf];refine qEc (σ:=Nat) (fun k=>[(0,vL vI l),(1,vI x),(7,vI l.length),(8,vI k)]) (fun _=>h) (fun k=>k≤l.length∧∀ j y,j < k→l[j]?=some y→y≠x) (fun k=>l.length - k) 0 (by simp) rfl ⟨by omega,by omega⟩ ?_
    rintro k fr ⟨hk,hne⟩
    by_cases hlt:k < l.length
    . obtain ⟨k1,hk1,wk⟩:=qBm (show k < lim by omega)
      obtain ⟨y,hy⟩:∃ y,l[k]?=some y:=⟨_,List.getElem?_eq_getElem hlt⟩;have hkf:(k:Int) < l.length:=by omega
      by_cases hyx:x=y
      . have e:l.idxOf? x=some k:=by
          rw [List.idxOf?,List.findIdx?_eq_some_iff_getElem];refine ⟨hlt,by have:=(List.getElem?_eq_some_iff.1 hy).2; simp [this,hyx],fun j hj=>?_⟩
          have:=hne j (l[j]'(by omega)) hj (List.getElem?_eq_getElem _)
          simpa using this
        simp [qAl,qAo,qAm,qAi,qAf,qAe,qAb,qAc,qAa,qAj,qAg,qAd,qAu,qAv,resV,retV,qAn,qAh,qAs,qAr,qAq,qAp,hkf,hy,hyx];rw [← hyx,e]
      . simp [qAl,qAo,qAm,qAi,qAf,qAe,qAb,qAc,qAa,qAj,qAg,qAd,qAu,qAv,resV,retV,qAn,qAh,qAs,qAr,qAq,qAp,hkf,hy,hyx,wk]
        refine .go k1 (by omega) (by simp) rfl ⟨by omega,fun j y' hj hy'=>?_⟩
        by_cases hjk:j=k
        . subst hjk; rw [hy] at hy'; cases hy'; exact fun e=>hyx e.symm
        . exact hne j y' (by omega) hy'
    . have e:l.idxOf? x=none:=by
        rw [List.idxOf?_eq_none_iff];intro hm;obtain ⟨j,hj⟩:=List.mem_iff_getElem?.1 hm;exact hne j x (by have:=(List.getElem?_eq_some_iff.1 hj).1; omega) hj rfl
      have hkf:¬ (k:Int) < l.length:=by omega
      simp [qAl,qAo,qAm,qAi,qAf,qAe,qAb,qAc,qAa,qAj,qAg,qAd,qAu,qAv,resV,retV,qAn,qAh,qAs,qAr,qAq,qAp,hkf];rw [e]
theorem Cont1_call {l:List Int} {x:Int} (hl:l.length≤lim) (hk:K (vB (decide (x∈l))) h):qBn prog 90 [vL vI l,vI x] h K:=by
  refine Pure.go (Pure.one (p:=vB (decide (x∈l))) rfl fun h=>?_) hk
  refine call_Cont1 (by simp) ?_
  obtain ⟨r,hr,hp⟩:=Idx1_pure (x:=x) hl;simp [qAl,qAo,qAm,qAi,qAf,qAe,qAb,qAc,qAa,qAj,qAg,qAd,qAu,qAv,resV,retV,qAn,qAh,qAs,qAr,qAq,qAp,qWk];refine hp.go ?_;simp [qAl,qAo,qAm,qAi,qAf,qAe,qAb,qAc,qAa,qAj,qAg,qAd,qAu,qAv,resV,retV,qAn,qAh,qAs,qAr,qAq,qAp,callK_def];exact hr
end
end Pm
/- What holds where: rows of numbers, copied, and with some left out.
   No condition: plain lemmas. -/
namespace Pm
set_option linter.unusedSimpArgs false
set_option linter.unusedVariables false
open Go Am
open Go.Proofs.Tryd (prog)

def Rd (h:Heap) (s:Value) (l:List Int):Prop:=pLen s=some (vI l.length)∧∀ (i:Nat) (x:Int),l[i]?=some x→∃ a,qJi 1 s (vI i)=some a∧pLd h a=some (vI x)
section
variable {h : Heap} {K : Value → Heap → Prop}
theorem Clone1_call {l:List Int} (hl:l.length≤lim) (k0:l=[]→K nilS h) (k1:K (.slice (some ⟨h.length,0,none⟩) l.length 1) (h++[bxQ (l.map vI) 1])):qBn prog 65 [vL vI l] h K:=by
  refine call_Clone1 (by simp) ?_
  simp [qAl,qAo,qAm,qAi,qAf,qAe,qAb,qAc,qAa,qAj,qAg,qAd,qAu,qAv,resV,retV,qAn,qAh,qAs,qAr,qAq,qAp,qUp];refine pOps_nilT (by simp) fun b hb=>?_
  cases b with
  | true =>
    have e:l=[]:=by simpa using hb
    subst e;simp [qAl,qAo,qAm,qAi,qAf,qAe,qAb,qAc,qAa,qAj,qAg,qAd,qAu,qAv,resV,retV,qAn,qAh,qAs,qAr,qAq,qAp];exact k0 rfl
  | false =>
    simp [qAl,qAo,qAm,qAi,qAf,qAe,qAb,qAc,qAa,qAj,qAg,qAd,qAu,qAv,resV,retV,qAn,qAh,qAs,qAr,qAq,qAp];rw [show (h:Heap).length=h.length+0 from rfl,qVq (r:=⟨[],1,0,true⟩) (n:=l.length) (new:=l.map vI) rfl (by simp) rfl rfl (by simp) (by omega)]
    simp [qAl,qAo,qAm,qAi,qAf,qAe,qAb,qAc,qAa,qAj,qAg,qAd,qAu,qAv,resV,retV,qAn,qAh,qAs,qAr,qAq,qAp]
    simpa [bxQ] using k1
def fstI (g:Int→Bool) (l:List Int):Int:=match l.findIdx? g with | some i=>i | none=>-1
theorem IdxF1_call {F:FuncId} {cap s:Value} {g:Int→Bool} {l:List Int} (hc:qEd prog F=true) (hl:l.length≤lim) (hs:Rd h s l) (hf:∀ (x:Int) (K:Value→Heap→Prop),K (vB (g x)) h→qBn prog F [vI x,cap] h K) (hk:K (vI (fstI g l)) h) :
    qBn prog 89 [s,.func (.func F) #[] #[cap]] h K:=by
  refine call_IdxF1 (by simp) ?_
  simp [qAl,qAo,qAm,qAi,qAf,qAe,qAb,qAc,qAa,qAj,qAg,qAd,qAu,qAv,resV,retV,qAn,qAh,qAs,qAr,qAq,qAp,qUm,hs.1];refine qEc (σ:=Nat) (fun k=>[(0,s),(1,.func (.func F) #[] #[cap]),(7,vI l.length),(8,vI k)]) (fun _=>h) (fun k=>k≤l.length∧∀ j y,j < k→l[j]?=some y→g y=false) (fun k=>l.length - k) 0 (by simp) rfl ⟨by omega,by omega⟩ ?_
  rintro k fr ⟨hk1,hne⟩
  by_cases hlt:k < l.length
  . obtain ⟨k1,hk1,wk⟩:=qBm (show k < lim by omega)
    obtain ⟨y,hy⟩:∃ y,l[k]?=some y:=⟨_,List.getElem?_eq_getElem hlt⟩;have hkf:(k:Int) < l.length:=by omega
    obtain ⟨a,ha1,ha2⟩:=hs.2 k y hy;simp [qAl,qAo,qAm,qAi,qAf,qAe,qAb,qAc,qAa,qAj,qAg,qAd,qAu,qAv,resV,retV,qAn,qAh,qAs,qAr,qAq,qAp,hkf,ha1,ha2];rw [pOps_callv (f:=F) (first:=#[]) (caps:=#[cap]) (by simp) hc]
    simp [qAl,qAo,qAm,qAi,qAf,qAe,qAb,qAc,qAa,qAj,qAg,qAd,qAu,qAv,resV,retV,qAn,qAh,qAs,qAr,qAq,qAp];refine hf y _ ?_;cases hg:g y with
    | true =>
      have e:l.findIdx? g=some k:=by
        rw [List.findIdx?_eq_some_iff_getElem];refine ⟨hlt,by rw [(List.getElem?_eq_some_iff.1 hy).2]; exact hg,fun j hj=>?_⟩
        rw [hne j (l[j]'(by omega)) hj (List.getElem?_eq_getElem _)]; simp
      simp [qAl,qAo,qAm,qAi,qAf,qAe,qAb,qAc,qAa,qAj,qAg,qAd,qAu,qAv,resV,retV,qAn,qAh,qAs,qAr,qAq,qAp,callK_def]
      simpa [fstI,e] using hk
    | false =>
      simp [qAl,qAo,qAm,qAi,qAf,qAe,qAb,qAc,qAa,qAj,qAg,qAd,qAu,qAv,resV,retV,qAn,qAh,qAs,qAr,qAq,qAp,callK_def,wk];refine .go k1 (by omega) (by simp) rfl ⟨by omega,fun j y' hj hy'=>?_⟩
      by_cases hjk:j=k
      . subst hjk; rw [hy] at hy'; cases hy'; exact hg
      . exact hne j y' (by omega) hy'
  . have e:l.findIdx? g=none:=by
      rw [List.findIdx?_eq_none_iff];intro x hm;obtain ⟨j,hj⟩:=List.mem_iff_getElem?.1 hm;exact hne j x (by have:=(List.getElem?_eq_some_iff.1 hj).1; omega) hj
    have hkf:¬ (k:Int) < l.length:=by omega
    simp [qAl,qAo,qAm,qAi,qAf,qAe,qAb,qAc,qAa,qAj,qAg,qAd,qAu,qAv,resV,retV,qAn,qAh,qAs,qAr,qAq,qAp,hkf]
    simpa [fstI,e] using hk
end
end Pm
/- What holds where: a row of numbers, with some left out.
   No condition: plain lemmas. -/
namespace Pm
set_option linter.unusedSimpArgs false
set_option linter.unusedVariables false
open Go Am
open Go.Proofs.Tryd (prog)

theorem rep_map {α:Type} {f:α→Value} (x:α):∀ n:Nat,rep n [f x]=(List.replicate n x).map f
  | 0=>rfl
  | n+1=>by simp [rep,rep_map x n,List.replicate_succ]
theorem set_same {α:Type} {l:List α} {j:Nat} {a:α} (h:l[j]?=some a):l.set j a=l:=by
  apply List.ext_getElem?;intro k;rw [List.getElem?_set]
  split
  . rename_i e; subst e
    rw [if_pos (List.getElem?_eq_some_iff.1 h).1,h]
  . rfl
structure Left (g:Int→Bool) (l l':List Int) (i j:Nat):Prop where
  ij:i≤j
  jn:j≤l.length
  len:l'.length=l.length
  tk:l'.take i=(l.take j).filter fun x=>!g x
  dr:∀ k,j≤k→l'[k]?=l[k]?
section
variable {h : Heap} {K : Value → Heap → Prop} {g : Int → Bool} {l l' : List Int} {i j : Nat}
theorem Left.start {k:Nat} (hk:l.findIdx? g=some k):Left g l l k (k+1):=by
  obtain ⟨h1,h2,h3⟩:=List.findIdx?_eq_some_iff_getElem.1 hk;refine ⟨by omega,by omega,rfl,?_,fun _ _=>rfl⟩
  rw [← List.take_append_getElem h1,List.filter_append];have e1:(l.take k).filter (fun x=>!g x)=l.take k:=by
    rw [List.filter_eq_self];intro x hx;obtain ⟨a,ha,hb⟩:=List.mem_take_iff_getElem.1 hx;have:=h3 a (by omega)
    rw [hb] at this
    simpa using this
  rw [e1];simp [h2]
theorem Left.skip (v:Left g l l' i j) {x:Int} (hx:l[j]?=some x) (hg:g x=true):Left g l l' i (j+1):=by
  obtain ⟨h1,h2⟩:=List.getElem?_eq_some_iff.1 hx;refine ⟨by have:=v.ij; omega,by omega,v.len,?_,fun k hk=>v.dr k (by omega)⟩
  rw [v.tk,← List.take_append_getElem h1,List.filter_append,h2];simp [hg]
theorem Left.keep (v:Left g l l' i j) {x:Int} (hx:l[j]?=some x) (hg:g x=false):Left g l (l'.set i x) (i+1) (j+1):=by
  obtain ⟨h1,h2⟩:=List.getElem?_eq_some_iff.1 hx;have hij:=v.ij;have hl:=v.len;refine ⟨by omega,by omega,by simp [hl],?_,fun k hk=>?_⟩
  . rw [← List.take_append_getElem h1,List.filter_append,h2,← v.tk,← List.take_append_getElem (by simp; omega),List.take_set,List.getElem_set_self]
    rw [List.set_eq_of_length_le (by simp; omega)]
    simp [hg]
  . rw [List.getElem?_set,if_neg (by omega)]; exact v.dr k (by omega)
theorem Left.le (v:Left g l l' i j):i≤l.length:=Nat.le_trans v.ij v.jn
theorem rd_row {L:List Ob} {j ver:Nat} (hj:L[j]?=some (bxQ (l.map vI) ver)):Rd (h++L) (.slice (some ⟨h.length+j,0,none⟩) l.length ver) l:=by
  refine ⟨rfl,fun i x hx=>⟨.pointer (some ⟨h.length+j,i,some ver⟩),?_,?_⟩⟩
  . have:=(List.getElem?_eq_some_iff.1 hx).1
    simp [qJi,qEs,qJv,this]
  . simp [pLd,qFb,ldV,cell_at,hj,qNw,hx]
set_option maxHeartbeats 1000000 in
theorem DelF1_call {L:List Ob} {ver:Nat} {F:FuncId} {cap:Value} (hc:qEd prog F=true) (hl:l.length < lim) (hj:L[j]?=some (bxQ (l.map vI) ver))
    (hf:∀ (l':List Int) (x:Int) (K:Value→Heap→Prop),K (vB (g x)) (h++L.set j (bxQ (l'.map vI) ver))→qBn prog F [vI x,cap] (h++L.set j (bxQ (l'.map vI) ver)) K)
    (hk:∀ l':List Int,l'.length=l.length→l'.take (l.filter fun x=>!g x).length=(l.filter fun x=>!g x)→K (.slice (some ⟨h.length+j,0,none⟩) (l.filter fun x=>!g x).length ver) (h++L.set j (bxQ (l'.map vI) ver))) :
    qBn prog 64 [.slice (some ⟨h.length+j,0,none⟩) l.length ver,.func (.func F) #[] #[cap]] (h++L) K:=by
  refine call_DelF1 (by simp) ?_
  simp [qAl,qAo,qAm,qAi,qAf,qAe,qAb,qAc,qAa,qAj,qAg,qAd,qAu,qAv,resV,retV,qAn,qAh,qAs,qAr,qAq,qAp,qUn];have hLj:L.set j (bxQ (l.map vI) ver)=L:=set_same hj;have hjl:j < L.length:=(List.getElem?_eq_some_iff.1 hj).1;refine IdxF1_call hc (by omega) (rd_row hj) (fun x K hK=>by have:=hf l x K; rw [hLj] at this; exact this hK) ?_
  cases hi:l.findIdx? g with
  | none =>
    have e:(l.filter fun x=>!g x)=l:=by
      rw [List.filter_eq_self];intro x hx;simp [List.findIdx?_eq_none_iff.1 hi x hx]
    have:=hk l rfl (by rw [e]; simp)
    rw [hLj,e] at this;simp [qAl,qAo,qAm,qAi,qAf,qAe,qAb,qAc,qAa,qAj,qAg,qAd,qAu,qAv,resV,retV,qAn,qAh,qAs,qAr,qAq,qAp,callK_def,fstI,hi];exact this
  | some k =>
    have hst:=Left.start hi;have hkl:k < l.length:=by have:=hst.jn; omega
    obtain ⟨k1,hk1,wk⟩:=qBm (show k < lim by omega)
    have hn1:¬ (k:Int)=-1:=by omega
    rw [← hk1] at hst;simp [qAl,qAo,qAm,qAi,qAf,qAe,qAb,qAc,qAa,qAj,qAg,qAd,qAu,qAv,resV,retV,qAn,qAh,qAs,qAr,qAq,qAp,callK_def,fstI,hi,hn1,wk];refine qEc (σ:=Nat×Nat×List Int) (fun x=>[(0,.slice (some ⟨h.length+j,0,none⟩) l.length ver),(1,.func (.func F) #[] #[cap]),(5,vI x.1),(6,vI x.2.1)]) (fun x=>h++L.set j (bxQ (x.2.2.map vI) ver)) (fun x=>Left g l x.2.2 x.1 x.2.1) (fun x=>l.length - x.2.1) (k,k1,l) (by simp) (by simp [hLj]) hst ?_
    rintro ⟨a,b,l'⟩ fr v;simp only at v ⊢;have hl':=v.len;have hab:=v.ij;have hbn:=v.jn;have hgj:(L.set j (bxQ (l'.map vI) ver))[j]?=some (bxQ (l'.map vI) ver):=by simp [hjl]
    by_cases hb:b < l.length
    . obtain ⟨b1,hb1,wb⟩:=qBm (show b < lim by omega)
      obtain ⟨a1,ha1,wa⟩:=qBm (show a < lim by omega)
      obtain ⟨x,hx⟩:∃ x,l[b]?=some x:=⟨_,List.getElem?_eq_getElem hb⟩;have hbf:(b:Int) < l.length:=by omega
      have hx':l'[b]?=some x:=by rw [v.dr b (Nat.le_refl _),hx]
      have hal:a < l.length:=by omega
      obtain ⟨pa,hp1,hp2⟩:=(rd_row (h:=h) hgj).2 b x hx';rw [hl'] at hp1;simp [qAl,qAo,qAm,qAi,qAf,qAe,qAb,qAc,qAa,qAj,qAg,qAd,qAu,qAv,resV,retV,qAn,qAh,qAs,qAr,qAq,qAp,hbf,hp1,hp2];rw [pOps_callv (f:=F) (first:=#[]) (caps:=#[cap]) (by simp) hc]
      simp [qAl,qAo,qAm,qAi,qAf,qAe,qAb,qAc,qAa,qAj,qAg,qAd,qAu,qAv,resV,retV,qAn,qAh,qAs,qAr,qAq,qAp];refine hf l' x _ ?_;cases hg:g x with
      | true =>
        simp [qAl,qAo,qAm,qAi,qAf,qAe,qAb,qAc,qAa,qAj,qAg,qAd,qAu,qAv,resV,retV,qAn,qAh,qAs,qAr,qAq,qAp,callK_def,wb];exact .go (a,b1,l') (by simp only []; omega) (by simp) rfl (by rw [hb1]; exact v.skip hx hg)
      | false =>
        have haf:(a:Int) < l.length:=by omega
        simp [qAl,qAo,qAm,qAi,qAf,qAe,qAb,qAc,qAa,qAj,qAg,qAd,qAu,qAv,resV,retV,qAn,qAh,qAs,qAr,qAq,qAp,callK_def,wb,wa,qJi,qEs,qJv,hal];rw [eK_optK,storeQ_at (g:=vI) (x:=x) hgj rfl rfl (by omega)]
        simp [qAl,qAo,qAm,qAi,qAf,qAe,qAb,qAc,qAa,qAj,qAg,qAd,qAu,qAv,resV,retV,qAn,qAh,qAs,qAr,qAq,qAp,wa,wb];exact .go (a1,b1,l'.set a x) (by simp only []; omega) (by simp) (by simp [List.map_set]) (by rw [hb1,ha1]; exact v.keep hx hg)
    . have hbl:b=l.length:=by omega
      subst hbl;have htk:=v.tk;rw [List.take_length] at htk;have hal:a≤l.length:=v.le;have hla:(l.filter fun x=>!g x).length=a:=by rw [← htk,List.length_take]; omega
      have e1:((l':List Int).take a++List.replicate (l.length - a) 0).length=l.length:=by simp; omega
      have hfin:=hk (l'.take a++List.replicate (l.length - a) 0) e1 (by rw [hla,List.take_left' (by simp; omega)]; exact htk)
      rw [hla] at hfin;have hcut:=qYd (ver:=ver) (h:=h) (rs:=L.set j (bxQ (l'.map vI) ver)) (j:=j) (off:=0) (len:=l.length) (e:=1) (lo:=some (.int .i64 (a:Int))) (hi:=none) (a:=a) (b:=l.length) (r:=⟨l'.map vI,1,ver,true⟩) (by rw [hgj]; exact qNw) rfl (by simp) (by simp) hal
      have hcut2:=qYd (ver:=ver) (h:=h) (rs:=L.set j (bxQ ((l'.take a++List.replicate (l.length - a) 0).map vI) ver)) (j:=j) (off:=0) (len:=l.length) (e:=1) (lo:=none) (hi:=some (.int .i64 (a:Int))) (a:=0) (b:=a) (r:=⟨(l'.take a++List.replicate (l.length - a) 0).map vI,1,ver,true⟩) (by simp [hjl,qNw]) rfl (by simp) (by simp; omega) (by omega)
      have hclr:qLu (h++L.set j (bxQ (l'.map vI) ver)) [.int .i64 0] (.slice (some ⟨h.length+j,a,none⟩) (l.length - a) ver)=some (h++L.set j (bxQ ((l'.take a++List.replicate (l.length - a) 0).map vI) ver)):=by
        simp only [qLu,qNv,hgj,qNw]
        by_cases h0:l.length - a=0
        . rw [if_pos h0,h0,List.take_of_length_le (by omega)]; simp
        . rw [if_neg h0]
          simp only [List.length_map,List.length_singleton,Nat.mul_one,true_and];rw [if_pos (by omega),List.set_append_right _ _ (Nat.le_add_right _ _),Nat.add_sub_cancel_left,List.set_set,rep_map (f:=vI) 0,qFv _ _ _ (by simp; omega),over]
          simp only [List.length_map,List.length_replicate];rw [List.drop_eq_nil_of_le (by simp; omega)]
          simp [bxQ]
      obtain ⟨z,hz⟩:∃ z,z=l'.take a++List.replicate (l.length - a) 0:=⟨_,rfl⟩;rw [← hz] at hclr hcut2 hfin;simp [qAl,qAo,qAm,qAi,qAf,qAe,qAb,qAc,qAa,qAj,qAg,qAd,qAu,qAv,resV,retV,qAn,qAh,qAs,qAr,qAq,qAp,qOb,hcut,hclr,hcut2];exact hfin
end
end Pm
/- What holds where: next places that are places.
   No condition: plain lemmas. -/
namespace Pm
set_option linter.unusedSimpArgs false
set_option linter.unusedVariables false
open Go Am
open Go.Proofs.Tryd (prog)

theorem cell_old {h L:Heap} {b off ver:Nat} (hb:b < h.length):(h++L).cell? b off ver=h.cell? b off ver:=by
  simp only [Heap.cell?,Heap.row?,List.getElem?_append_left hb]
theorem cell_keep {h h':Heap} {b off ver:Nat} (hb:h'[b]?=h[b]?):h'.cell? b off ver=h.cell? b off ver:=by
  simp only [Heap.cell?,Heap.row?,hb]
theorem AccL.more {α:Type} {f:α→Value} {b b':Nat} {h:Heap} {v:Value} {l:List α} (ha:AccL f b' h v l) (hb:b≤b'):AccL f b h v l:=by
  rcases ha with h1 | ⟨id,ver,h1,h2,h3,h4⟩
  . exact Or.inl h1
  . exact Or.inr ⟨id,ver,h1,Nat.le_trans hb h2,h3,h4⟩
theorem frz_Q {α:Type} {f:α→Value} {h:Heap} {L:List Ob} {j ver m e:Nat} {l:List α} (hc:∀ x,qCo (f x)=true) (hj:L[j]?=some (bxQ (l.map f) ver)) (hm:m≤l.length) :
    frzV (h++L) e (.slice (some ⟨h.length+j,0,none⟩) m ver)=some (vL f (l.take m),h++L.set j (.row ⟨l.map f,1,ver,false⟩)):=by
  simp only [frzV,frzC,qNv,hj,qNw,seg,List.drop_zero,Nat.mul_one,Nat.zero_add];rw [if_pos ⟨by simpa using hm,by rw [← List.map_take]; exact qIt hc _⟩,List.set_append_right _ _ (Nat.le_add_right _ _),Nat.add_sub_cancel_left]
  simp [vL,List.map_take,Nat.min_eq_left hm]
section
variable {h : Heap} {K : Value → Heap → Prop}
theorem DelF1_nil {F:FuncId} {cap:Value} (hc:qEd prog F=true) (hk:K nilS h):qBn prog 64 [nilS,.func (.func F) #[] #[cap]] h K:=by
  have hr:=IdxF1_call (h:=h) (g:=fun _=>false) (l:=[]) (s:=nilS) (cap:=cap) (K:=fun v h'=>v=vI (-1)∧h'=h) hc (by simp) ⟨rfl,fun i x hx=>by simp at hx⟩
  refine call_DelF1 (by simp) ?_
  simp [qAl,qAo,qAm,qAi,qAf,qAe,qAb,qAc,qAa,qAj,qAg,qAd,qAu,qAv,resV,retV,qAn,qAh,qAs,qAr,qAq,qAp,qUn];refine call_IdxF1 (by simp) ?_
  simp [qAl,qAo,qAm,qAi,qAf,qAe,qAb,qAc,qAa,qAj,qAg,qAd,qAu,qAv,resV,retV,qAn,qAh,qAs,qAr,qAq,qAp,qUm];refine qXy 1 ?_;rw [qHv];simp [qAl,qAo,qAm,qAi,qAf,qAe,qAb,qAc,qAa,qAj,qAg,qAd,qAu,qAv,resV,retV,qAn,qAh,qAs,qAr,qAq,qAp,callK_def];exact hk
theorem fInside1_call {s:List (List Int)} {x:Int} {b:Nat} (hb:h.cell? b 0 0=some (vL (vL vI) s)) (hk:K (vB (decide (x < 0∨(s.length:Int)≤x))) h):qBn prog 66 [vI x,.pointer (some ⟨b,0,some 0⟩)] h K:=by
  refine call_fInside1 (by simp) ?_
  by_cases h0:x < 0
  . have e:decide (x < 0∨(s.length:Int)≤x)=true:=by simp [h0]
    rw [e] at hk;simp [qKa,qAu,qAv,resV,retV,h0,hk]
  . by_cases h1:(s.length:Int)≤x
    . have e:decide (x < 0∨(s.length:Int)≤x)=true:=by simp [h1]
      rw [e] at hk;simp [qKa,qAu,qAv,resV,retV,h0,hk,pLd,qFb,ldV,hb,h1]
    . have e:decide (x < 0∨(s.length:Int)≤x)=false:=by simp [h0]; omega
      rw [e] at hk;have h1':x < s.length:=by omega
      simp [qKa,qAu,qAv,resV,retV,h0,hk,pLd,qFb,ldV,hb,h1,h1']
set_option maxHeartbeats 1000000 in
theorem inside_call {s:List (List Int)} (hl:s.length < lim) (hs:∀ l∈s,l.length < lim) (hk:K (vL (vL vI) (qFc s)) h):qBn prog 50 [vL (vL vI) s] h K:=by
  refine Pure.go (Pure.list (fun x=>rfl) fun h=>?_) hk
  refine call_fInside (by simp) ?_
  have hcb:qEd prog 66=true:=by kernel_rfl
  simp [qRq,pLd,qFb,ldV];obtain ⟨h0,hh0⟩:∃ h0,h0=Am.newRow h [vL (vL vI) s] 1:=⟨_,rfl⟩;have hh1:h0.length=h.length+1:=by rw [hh0]; simp [Am.newRow]
  have hbx:h0.cell? h.length 0 0=some (vL (vL vI) s):=by rw [hh0]; simp [Am.newRow,Heap.cell?,Heap.row?]
  rw [← hh0];simp [hbx];refine qEc (σ:=Nat×Value×Heap) (fun x=>[(1,.pointer (some ⟨h.length,0,some 0⟩)),(3,x.2.1),(6,vL (vL vI) s),(7,vI s.length),(8,vI x.1)]) (fun x=>x.2.2)
    (fun x=>x.1≤s.length∧AccL (vL vI) (h.length+1) x.2.2 x.2.1 ((qFc s).take x.1)∧qCr (h.length+1) h0 x.2.2) (fun x=>s.length - x.1) (0,nilS,h0) (by simp) rfl ⟨by simp,by simpa using AccL.nil,.refl _ _⟩ ?_
  rintro ⟨k,v,hp⟩ fr ⟨hk,ha,kp⟩;simp only at hk ha kp ⊢;have hpl:h.length+1≤hp.length:=by have:=kp.1; omega
  have hbp:hp.cell? h.length 0 0=some (vL (vL vI) s):=by rw [cell_keep (kp.2 h.length (by omega))]; exact hbx
  by_cases hlt:k < s.length
  . obtain ⟨k1,hk1,wk⟩:=qBm (show k < lim by omega)
    obtain ⟨l,hll⟩:∃ l,s[k]?=some l:=⟨_,List.getElem?_eq_getElem hlt⟩;have hkf:(k:Int) < s.length:=by omega
    have hln:=hs l (List.mem_of_getElem? hll);obtain ⟨l1,hl1⟩:∃ l1,l1=l.filter fun x:Int=>decide (0≤x∧x < (s.length:Int)):=⟨_,rfl⟩
    have htk:(qFc s).take k1=(qFc s).take k++[l1]:=by
      have hkl:k < (qFc s).length:=by rw [qJu]; exact hlt
      have h1:(qFc s)[k]?=some l1:=by unfold qFc; rw [List.getElem?_map,hll,hl1]; rfl
      have h2:=(List.getElem?_eq_some_iff.1 h1).2;rw [hk1,← List.take_append_getElem hkl,h2]
    have hnew:((qFc s).take k).length < lim:=by simp [qJu]; omega
    simp [hkf,hll];refine Clone1_call (by omega) (fun e=>?_) ?_
    . subst e
      have e1:l1=[]:=by rw [hl1]; rfl
      simp [callK_def];refine DelF1_nil hcb ?_;simp [callK_def];refine ha.pushK (f:=vL vI) (by omega) hnew (x:=([]:List Int)) (by simp) fun v' h' a1 a2 _ _=>?_
      simp [wk];exact .go (k1,v',h') (by simp only []; omega) (by simp) rfl ⟨by simp only []; omega,by simp only [htk,e1]; exact a1,kp.trans a2⟩
    . simp [callK_def]
      have hlen:(hp++[bxQ (l.map vI) 1]).length=hp.length+1:=by simp
      have hbL:∀ L,(hp++L).cell? h.length 0 0=some (vL (vL vI) s):=fun L=>by rw [cell_old (by omega)]; exact hbp
      refine DelF1_call (h:=hp) (L:=[bxQ (l.map vI) 1]) (j:=0) (g:=fun x=>decide (x < 0∨(s.length:Int)≤x)) hcb hln rfl (fun l' x K hK=>fInside1_call (hbL _) hK) fun l' e1 e2=>?_
      have e3:(l.filter fun x=>!decide (x < 0∨(s.length:Int)≤x))=l1:=by
        rw [hl1];refine List.filter_congr fun x _=>?_
        by_cases h1:x < 0<;>by_cases h2:(s.length:Int)≤x<;>simp [h1,h2]<;>omega
      rw [e3] at e2 ⊢;have hml:l1.length≤l'.length:=by rw [e1,hl1]; exact List.length_filter_le _ _
      simp [callK_def];have hfz:=frz_Q (h:=hp) (L:=[bxQ (l'.map vI) 1]) (f:=vI) (j:=0) (ver:=1) (m:=l1.length) (e:=1) (l:=l') (fun _=>rfl) rfl hml
      rw [e2] at hfz;simp at hfz;simp [hfz];refine (AccL.ext ha (qCr.app)).pushK (by simp; omega) hnew (x:=l1) (by simp) fun v' h' a1 a2 _ _=>?_
      simp [wk];have kq:qCr (h.length+1) hp (hp++[Ob.row ⟨l'.map vI,1,1,false⟩]):=⟨by simp,fun i hi=>List.getElem?_append_left (by omega)⟩
      exact .go (k1,v',h') (by simp only []; omega) (by simp) rfl ⟨by simp only []; omega,by simp only [htk]; exact a1,kp.trans (kq.trans a2)⟩
  . have hkn:k=s.length:=by omega
    subst hkn;rw [List.take_of_length_le (by rw [qJu]; exact Nat.le_refl _)] at ha
    simp [qAu,qAv,resV,retV];refine ⟨⟨by omega,fun i hi=>?_⟩,ha.more (by omega)⟩
    rw [kp.2 i (by omega),hh0]
    exact List.getElem?_append_left hi
end
end Pm
/- What holds where: the solver's small methods.
   No condition: plain lemmas. -/
namespace Pm
set_option linter.unusedSimpArgs false
set_option linter.unusedVariables false
open Go Am
open Go.Proofs.Tryd (prog)

abbrev ptr (b:Nat):Value:=.pointer (some ⟨b,0,some 0⟩)
theorem cell_lock {h:Heap} {b off ver:Nat}:(lockAll h).cell? b off ver=h.cell? b off ver:=by
  simp only [Heap.cell?,Heap.row?,qMm];cases h[b]? with
  | none=>rfl
  | some o=>cases o with
    | row r=>by_cases hr:r.ver=ver<;>simp [hr]
    | _=>rfl
section
variable {h : Heap} {K : Value → Heap → Prop} {p : Prob} {b : Nat}
theorem fAll_call (h4:h.cell? b 4 0=some (vB p.must)) (hk:K (vU p.all) h):qBn prog 52 [ptr b] h K:=by
  refine call_fAll (by simp) ?_
  cases hm:p.must with
  | true =>
    rw [hm] at h4;simp [qXa,h4];refine qUu (n:=64) (by omega) ?_
    simp [callK_def,qAu,qAv,resV,retV]
    simpa [Prob.all,hm] using hk
  | false =>
    rw [hm] at h4;simp [qXa,h4,qAu,qAv,resV,retV]
    simpa [Prob.all,hm,vU] using hk
theorem fAll_still (h4:h.cell? b 4 0=some (vB p.must)) (hk:K (vU p.all) h):qFn prog 52 [ptr b] h K :=
  qFn.lock (fAll_call (by rw [cell_lock]; exact h4) ⟨rfl,hk⟩)
theorem fMeet_call {x y:Nat} (hx:x < big) (hy:y < big) (h4:h.cell? b 4 0=some (vB p.must)) (hk:K (vU (p.meet x y)) h):qBn prog 68 [ptr b,vU x,vU y] h K:=by
  refine call_fMeet (by simp) ?_
  have e1:=qOl hx hy;have e2:=qRt hx hy;cases hm:p.must with
  | true =>
    rw [hm] at h4;simp [qUe,h4,qAu,qAv,resV,retV,e1]
    simpa [Prob.meet,hm] using hk
  | false =>
    rw [hm] at h4;simp [qUe,h4,qAu,qAv,resV,retV,e2]
    simpa [Prob.meet,hm] using hk
theorem fEdge_call {i:Nat} (ok:p.Ok) (hi:i < p.n) (h5:h.cell? b 5 0=some (vB p.back)) (h0:h.cell? b 0 0=some (vL (vL vI) p.succs)) (hk:K (vB (p.edge i)) h):qBn prog 67 [ptr b,vI i] h K:=by
  refine call_fEdge (by simp) ?_
  cases hm:p.back with
  | true =>
    rw [hm] at h5;obtain ⟨l,hl⟩:∃ l,p.succs[i]?=some l:=⟨_,List.getElem?_eq_getElem hi⟩;have hs:=ok.short l (List.mem_of_getElem? hl);simp [qUf,h5,h0,hl];refine Cont1_call (l:=l) (by omega) ?_
    simp [callK_def,qAu,qAv,resV,retV];have e:p.edge i=decide ((p.succs.length:Int)∈l):=by simp [Prob.edge,hm,Prob.n,qIc hl]
    rw [← e]; exact hk
  | false =>
    rw [hm] at h5;have e:p.edge i=decide (i=0):=by simp [Prob.edge,hm]
    simp [qUf,h5,h0,qAu,qAv,resV,retV];rw [e] at hk; simpa using hk
end

/-! ### The solver's rows -/
def svC (b:Nat) (p:Prob) (qv:Value):List Value :=
  [vL (vL vI) p.succs,vL vU p.gen,vL vU p.kill,vU p.start,vB p.must,vB p.back,vL (vL vI) p.froms,vL (vL vI) p.tos,.slice (some ⟨b+1,0,none⟩) p.n 0,.slice (some ⟨b+2,0,none⟩) p.n 0,qv,.slice (some ⟨b+3,0,none⟩) p.n 0]
def svL (b:Nat) (p:Prob) (a:Ob) (inn out:List Nat) (w:List Bool) (qv:Value) (rest:List Ob):List Ob :=
  a :: bxL vU inn :: bxL vU out :: bxL vB w :: bx (svC b p qv) 12 :: rest
inductive QV (b:Nat) (rest:List Ob):Value→List Nat→Prop
  | nil:QV b rest nilS []
  | row {k ver:Nat} {pre:List Value} {q:List Nat} (hk:rest[k]?=some (bxQ (pre++q.map fun i:Nat=>vI i) ver)):QV b rest (.slice (some ⟨b+(k+5),pre.length,none⟩) q.length ver) q
section
variable {h : Heap} {K : Value → Heap → Prop} {p : Prob} {a : Ob} {inn out q : List Nat} {w : List Bool} {qv : Value} {rest : List Ob}
theorem qEh {off:Nat}:(h++svL h.length p a inn out w qv rest).cell? (h.length+4) off 0=(svC h.length p qv)[off]?:=by
  rw [qAi]; simp [svL,qAj]
theorem qIr {L:List Ob} {m n:Nat} {cs:List Value} (hj:L[m]?=some (bx cs 1)) (hl:cs.length=n):qDt (h++L) 1 (.slice (some ⟨h.length+m,0,none⟩) n 0)=some (n,cs):=by
  rw [qJs,cells_at,hj,qVo];simp [hl,List.take_of_length_le]
theorem QV.more (v:QV h.length rest qv q) (L:List Ob):QV h.length (rest++L) qv q:=by
  cases v with
  | nil=>exact .nil
  | row hk=>exact .row (by rw [List.getElem?_append_left (List.getElem?_eq_some_iff.1 hk).1]; exact hk)
set_option maxHeartbeats 1000000 in
theorem fPush_call {i:Nat} (hi:i < p.n) (hw:w.length=p.n) (hq:q.length < lim) (hqv:QV h.length rest qv q)
    (hk:∀ qv' rest',QV h.length rest' qv' (qEq q w [(i:Int)]).1→K (.tuple #[]) (h++svL h.length p a inn out (qEq q w [(i:Int)]).2 qv' rest')) :
    qBn prog 53 [ptr (h.length+4),vI i] (h++svL h.length p a inn out w qv rest) K:=by
  refine call_fPush (by simp) ?_
  obtain ⟨x,hx⟩:∃ x,w[i]?=some x:=⟨_,List.getElem?_eq_getElem (by omega)⟩
  have hin:(i:Int) < p.n:=by omega
  have hgx:w[i]'(by omega)=x:=(List.getElem?_eq_some_iff.1 hx).2
  cases x with
  | true =>
    have e:qEq q w [(i:Int)]=(q,w):=by simp [qEq,qYp,hx]
    rw [e] at hk;simp [qAl,qAo,qAm,qAi,qAf,qAe,qAb,qAc,qAa,qAj,qAg,qAd,qAu,qAv,resV,retV,qAn,qAh,qAs,qAr,qAq,qAp,qUd,svL,svC,hi,qHl,hx];exact hk qv rest hqv
  | false =>
    have e:qEq q w [(i:Int)]=(q++[i],w.set i true):=by simp [qEq,qYp,hx]
    rw [e] at hk;simp [qAl,qAo,qAm,qAi,qAf,qAe,qAb,qAc,qAa,qAj,qAg,qAd,qAu,qAv,resV,retV,qAn,qAh,qAs,qAr,qAq,qAp,qUd,svL,svC,hi,qHl,hx,storeB_bxB,hw,hgx];cases hqv with
    | nil =>
      rw [eK_optK,pushN (n:=1) (new:=[vI (i:Int)]) (qIr (m:=rest.length+1+1+1+1+1) (cs:=[vI (i:Int)]) (by simp) rfl) (by omega) (by simp [lim])]
      have key:=hk (.slice (some ⟨h.length+(rest.length+1+5),([]:List Value).length,none⟩) ([i]:List Nat).length 0) (rest++[bx [vI (i:Int)] 1]++[bxQ ([]++[i].map fun i:Nat=>vI i) 0]) (QV.row (by simp))
      simp [qAl,qAo,qAm,qAi,qAf,qAe,qAb,qAc,qAa,qAj,qAg,qAd,qAu,qAv,resV,retV,qAn,qAh,qAs,qAr,qAq,qAp,Nat.add_assoc]
      simpa [svL,svC,bx,bxQ,Nat.add_assoc] using key
    | @row k ver pre q hkk =>
      have hkl:=(List.getElem?_eq_some_iff.1 hkk).1;rw [eK_optK,pushQ_at (j:=k+5) (n:=1) (new:=[vI (i:Int)]) (pre:=pre) (q:=q.map fun i:Nat=>vI i) (ver:=ver) (by simp [List.getElem?_append_left hkl,hkk]) (qIr (m:=rest.length+1+1+1+1+1) (cs:=[vI (i:Int)]) (by simp) rfl) rfl (by simp) (by omega)]
      have key:=hk (.slice (some ⟨h.length+(k+5),([]:List Value).length,none⟩) (q++[i]).length (ver+1)) ((rest++[bx [vI (i:Int)] 1]).set k (bxQ ([]++(q++[i]).map fun i:Nat=>vI i) (ver+1))) (QV.row (by rw [List.getElem?_set_self (by simp; omega)]))
      simp [qAl,qAo,qAm,qAi,qAf,qAe,qAb,qAc,qAa,qAj,qAg,qAd,qAu,qAv,resV,retV,qAn,qAh,qAs,qAr,qAq,qAp]
      simpa [svL,svC] using key
end
end Pm
/- What holds where: a place is looked at.
   No condition: plain lemmas. -/
namespace Pm
set_option linter.unusedSimpArgs false
set_option linter.unusedVariables false
open Go Am
open Go.Proofs.Tryd (prog)

section
variable {h : Heap} {K : Value → Heap → Prop} {p : Prob} {a : Ob} {inn out q : List Nat} {w : List Bool} {qv : Value} {rest : List Ob}
theorem cell_in {off:Nat}:(h++svL h.length p a inn out w qv rest).cell? (h.length+1) off 0=(inn[off]?).map vU:=by
  rw [qAi]; simp [svL,qHl]
theorem qFl {off:Nat}:(h++svL h.length p a inn out w qv rest).cell? (h.length+2) off 0=(out[off]?).map vU:=by
  rw [qAi]; simp [svL,qHl]
theorem qJy {off:Nat}:(h++svL h.length p a inn out w qv rest).cell? (h.length+3) off 0=(w[off]?).map vB:=by
  rw [qAi]; simp [svL,qHl]
theorem qFi {off x:Nat}:qBz (h++svL h.length p a inn out w qv rest) 1 (.pointer (some ⟨h.length+1,off,some 0⟩)) (.int .u64 x)=if off < inn.length then some (h++svL h.length p a (inn.set off x) out w qv rest) else none:=by
  rw [qAc]; simp [svL,storeB_U]
theorem qEw {off x:Nat}:qBz (h++svL h.length p a inn out w qv rest) 1 (.pointer (some ⟨h.length+2,off,some 0⟩)) (.int .u64 x)=if off < out.length then some (h++svL h.length p a inn (out.set off x) w qv rest) else none:=by
  rw [qAc]; simp [svL,storeB_U]
theorem qHt {off:Nat} {x:Bool}:qBz (h++svL h.length p a inn out w qv rest) 1 (.pointer (some ⟨h.length+3,off,some 0⟩)) (.bool x)=if off < w.length then some (h++svL h.length p a inn out (w.set off x) qv rest) else none:=by
  rw [qAc]; simp [svL,storeB_bxB]
theorem froms_at {i:Nat} (hi:i < p.n):p.froms[i]?=some (qEk p.froms i):=by
  have hl:i < p.froms.length:=by
    unfold Prob.froms; split
    . rw [qJu]; exact hi
    . rw [qQu]; exact hi
  simp [qEk,List.getElem?_eq_getElem hl]
theorem tos_at {i:Nat} (hi:i < p.n):p.tos[i]?=some (qEk p.tos i):=by
  have hl:i < p.tos.length:=by
    unfold Prob.tos; split
    . rw [qQu]; exact hi
    . rw [qJu]; exact hi
  simp [qEk,List.getElem?_eq_getElem hl]
theorem xv_len (ok:p.Ok) {i:Nat} (hi:i < p.n) (l:List Int) (hl:l=qEk p.froms i∨l=qEk p.tos i):l.length < lim:=by
  have hb:∀ j,(qGe p.succs p.succs.length j).length < lim:=fun j=>by
    have:=qRv p.succs p.succs.length j;have:=ok.few;unfold Prob.n at this;simp [lim]; omega
  have hs:(qEk (qFc p.succs) i).length < lim:=by
    rw [nexts_inside];obtain ⟨l,hl⟩:∃ l,p.succs[i]?=some l:=⟨_,List.getElem?_eq_getElem hi⟩;rw [qIc hl];exact Nat.lt_of_le_of_lt (List.length_filter_le _ _) (ok.short l (List.mem_of_getElem? hl))
  rcases hl with rfl | rfl
  . unfold Prob.froms; split
    . exact hs
    . rw [qHy hi]; exact hb i
  . unfold Prob.tos; split
    . rw [qHy hi]; exact hb i
    . exact hs
theorem qZb {l:List Nat} {i:Nat} (hi:i < l.length):l[i]?=some (gN l i):=by simp [gN,List.getElem?_eq_getElem hi]
theorem pushes_take {l:List Int} {j:Nat} {x:Int} (hx:l[j]?=some x):qEq q w (l.take (j+1))=qEq (qEq q w (l.take j)).1 (qEq q w (l.take j)).2 [x]:=by
  obtain ⟨h1,h2⟩:=List.getElem?_eq_some_iff.1 hx;rw [← List.take_append_getElem h1,h2,pushes_snoc,show ∀ (q:List Nat) (w:List Bool),qEq q w [x]=if w[x.toNat]?=some true then (q,w) else (q++[x.toNat],w.set x.toNat true) from fun _ _=>rfl]

set_option maxHeartbeats 2000000 in
theorem fLook_call {i:Nat} (ok:p.Ok) (v:FOne p inn out q w i) (hi:i < p.n) (hqv:QV h.length rest qv q)
    (hk:∀ inn' out' q' w' qv' rest',FInv p inn' out' q' w'→QV h.length rest' qv' q'→(out'=out∧q'=q∨wts p out' < wts p out)→K (.tuple #[]) (h++svL h.length p a inn' out' w' qv' rest')) :
    qBn prog 54 [ptr (h.length+4),vI i] (h++svL h.length p a inn out w qv rest) K:=by
  refine call_fLook (by simp) ?_
  have hc:∀ (inn out:List Nat) (w:List Bool) (qv:Value) (rest:List Ob) (off:Nat),(h++svL h.length p a inn out w qv rest).cell? (h.length+4) off 0=(svC h.length p qv)[off]?:=fun _ _ _ _ _ _=>qEh
  have hin:i < inn.length:=by rw [v.ilen]; exact hi
  have hon:i < out.length:=by rw [v.olen]; exact hi
  have hif:(i:Int) < p.n:=by omega
  obtain ⟨l,hl⟩:∃ l,l=qEk p.froms i:=⟨_,rfl⟩;have hfa:=froms_at hi;rw [← hl] at hfa;have hll:l.length < lim:=xv_len ok hi l (.inl hl);obtain ⟨l2,hl2⟩:∃ l,l=qEk p.tos i:=⟨_,rfl⟩;have hta:=tos_at hi;rw [← hl2] at hta;have hll2:l2.length < lim:=xv_len ok hi l2 (.inr hl2);simp [qAu,qAv,resV,retV,qAh,qAs,qAr,qAq,qAp,qWf];refine fAll_call (p:=p) (by rw [qEh]; rfl) ?_
  simp [qAu,qAv,resV,retV,qAh,qAs,qAr,qAq,qAp,callK_def];refine fEdge_call ok hi (by rw [qEh]; rfl) (by rw [qEh]; rfl) ?_
  obtain ⟨x0,hx0⟩:∃ x,x=p.xv0 i:=⟨_,rfl⟩;simp [-qAx,qAu,qAv,resV,retV,qAh,qAs,qAr,qAq,qAp,callK_def];refine cK_join [(0,ptr (h.length+4)),(1,vI i),(4,vU (p.xv0 i))] (h++svL h.length p a inn out w qv rest) (fun e=>?_) (fun e=>?_) fun fr=>?_
  . simp [qAu,qAv,resV,retV,qAh,qAs,qAr,qAq,qAp,qEh,cell_in,qFl,qJy,qFi,qEw,qHt,svC]
    refine fMeet_call (p:=p) all_lt' ok.start (by rw [qEh]; rfl) ?_
    simp [qAu,qAv,resV,retV,qAh,qAs,qAr,qAq,qAp,callK_def];simp [Prob.xv0,e]
  . simp [qAu,qAv,resV,retV,qAh,qAs,qAr,qAq,qAp]
    simp [Prob.xv0,e]
  rw [qAx];simp [-qAx,qAu,qAv,resV,retV,qAh,qAs,qAr,qAq,qAp,qEh,cell_in,qFl,qJy,qFi,qEw,qHt,svC,hfa];refine qEc (σ:=Nat) (fun t=>[(0,ptr (h.length+4)),(1,vI i),(4,vU (p.xvT out i t)),(29,vL vI l),(30,vI l.length),(31,vI t)]) (fun _=>h++svL h.length p a inn out w qv rest) (fun t=>t≤l.length) (fun t=>l.length - t) 0 (by simp [Prob.xvT]) rfl (by simp) ?_
  . intro t fr ht
    by_cases hlt:t < l.length
    . obtain ⟨t1,ht1,wt⟩:=qBm (show t < lim by omega)
      obtain ⟨x,hx⟩:∃ x,l[t]?=some x:=⟨_,List.getElem?_eq_getElem hlt⟩;have htf:(t:Int) < l.length:=by omega
      obtain ⟨x,rfl,hxn⟩:=qOe hi (by rw [← hl]; exact List.mem_of_getElem? hx)
      have hxf:(x:Int) < p.n:=by omega
      have hox:=qZb (l:=out) (i:=x) (by rw [v.olen]; exact hxn)
      have hsu:=xvT_succ (out:=out) (p:=p) (i:=i) (t:=t) (j:=(x:Int)) (by rw [← hl]; exact hx)
      rw [← ht1] at hsu;simp [qAu,qAv,resV,retV,qAh,qAs,qAr,qAq,qAp,htf,hx,qEh,cell_in,qFl,qJy,qFi,qEw,qHt,svC,hxn,hox];refine fMeet_call (p:=p) (qSm ok v.olt) (v.olt x) (by rw [qEh]; rfl) ?_
      simp [qAu,qAv,resV,retV,qAh,qAs,qAr,qAq,qAp,callK_def,wt];exact .go t1 (by omega) (by simp [hsu]) rfl (by omega)
    . have htf:¬ (t:Int) < l.length:=by omega
      have htl:t=l.length:=by omega
      obtain ⟨x,hx⟩:∃ x,x=p.xv out i:=⟨_,rfl⟩;have hxT:p.xvT out i t=x:=by rw [htl,hl,hx]; rfl
      have hxb:x < big:=by rw [hx]; exact qSm ok v.olt
      have hoi:=qZb hon;have ha1:=bits_andNot hxb (ok.kill i);have ha2:=qRt (qUq hxb (b:=gN p.kill i)) (ok.gen i);simp [qAu,qAv,resV,retV,qAh,qAs,qAr,qAq,qAp,htf,qEh,cell_in,qFl,qJy,qFi,qEw,qHt,svC,hi,hin,hxT];refine qEj (by simp [qEh,svC]) (qFn.lock (fAt_call ⟨rfl,?_⟩))
      simp [qAu,qAv,resV,retV,qAh,qAs,qAr,qAq,qAp,ha1];refine fAt_call ?_;obtain ⟨y,hy⟩:∃ y,y=p.thru i x:=⟨_,rfl⟩;have hy':andN x (gN p.kill i) ||| gN p.gen i=y:=by rw [hy]; rfl
      have ha3:bits .u64 .or ((andN x (gN p.kill i):Nat):Int) ((gN p.gen i:Nat):Int)=(y:Int):=by rw [ha2,hy']
      have hgo:out[i]'hon=gN out i:=(List.getElem?_eq_some_iff.1 hoi).2
      by_cases hyo:y=gN out i
      . simp [qAu,qAv,resV,retV,qAh,qAs,qAr,qAq,qAp,callK_def,ha3,qEh,cell_in,qFl,qJy,qFi,qEw,qHt,svC,hi,hoi,hyo,hgo]
        have:=v.same hi ok (by rw [← hx,← hy]; exact hyo)
        rw [← hx] at this;exact hk _ _ _ _ _ _ this hqv (.inl ⟨rfl,rfl⟩)
      . have hyo':¬ (y:Int)=(gN out i:Int):=by omega
        simp [qAu,qAv,resV,retV,qAh,qAs,qAr,qAq,qAp,callK_def,ha3,qEh,cell_in,qFl,qJy,qFi,qEw,qHt,svC,hi,hoi,hyo',hon,hta,hgo];have hnew:=v.new hi ok;rw [← hx,← hy,← hl2] at hnew;have hwt:wts p (out.set i y) < wts p out:=by
          refine wts_set hoi (wt_lt (v.olt i) (by rw [hy]; exact thru_lt ok hxb) (fun k hk1 hk2=>?_) hyo)
          rw [hy,hx]; exact v.mono i k hi hk1 hk2
        refine qEc (σ:=Nat×Value×List Ob) (fun x=>[(0,ptr (h.length+4)),(92,vL vI l2),(93,vI l2.length),(94,vI x.1)]) (fun z=>h++svL h.length p a (inn.set i x) (out.set i y) (qEq q w (l2.take z.1)).2 z.2.1 z.2.2) (fun z=>z.1≤l2.length∧QV h.length z.2.2 z.2.1 (qEq q w (l2.take z.1)).1) (fun z=>l2.length - z.1) (0,qv,rest) (by simp) (by simp [qOw]) ⟨by simp,by simpa [qOw] using hqv⟩ ?_
        rintro ⟨t,qv1,rest1⟩ fr ⟨ht,hqv1⟩;simp only at ht hqv1 ⊢
        by_cases hlt:t < l2.length
        . obtain ⟨t1,ht1,wt⟩:=qBm (show t < lim by omega)
          obtain ⟨z,hz⟩:∃ z,l2[t]?=some z:=⟨_,List.getElem?_eq_getElem hlt⟩;have htf:(t:Int) < l2.length:=by omega
          have hpt:=pushes_take (q:=q) (w:=w) hz;rw [← ht1] at hpt;obtain ⟨z,rfl,hzn⟩:=to_mem hi (by rw [← hl2]; exact List.mem_of_getElem? hz)
          obtain ⟨P1,P2⟩:=pushes_inv (n:=p.n) ⟨v.wlen,v.nodup,v.qw⟩ (l2.take t) (fun x hx=>nexts_to_lt hi x (by rw [← hl2]; exact List.mem_of_mem_take hx))
          simp [qAu,qAv,resV,retV,qAh,qAs,qAr,qAq,qAp,htf,hz];refine fPush_call hzn P1.wlen (by have:=P1.qlen; have:=ok.few; simp [lim]; omega) hqv1 fun qv2 rest2 hq2=>?_
          simp [qAu,qAv,resV,retV,qAh,qAs,qAr,qAq,qAp,callK_def,wt];exact .go (t1,qv2,rest2) (by simp only []; omega) (by simp) (by simp only [hpt]) ⟨by simp only []; omega,by simp only [hpt]; exact hq2⟩
        . have htf:¬ (t:Int) < l2.length:=by omega
          rw [List.take_of_length_le (by omega)] at hqv1 ⊢
          simp [qAu,qAv,resV,retV,qAh,qAs,qAr,qAq,qAp,htf];exact hk _ _ _ _ _ _ hnew hqv1 (.inr hwt)
end
end Pm
/- What holds where: the problem is solved.
   No condition: plain lemmas. -/
namespace Pm
set_option linter.unusedSimpArgs false
set_option linter.unusedVariables false
open Go Am
open Go.Proofs.Tryd (prog)

def cP (p:Prob):List Value:=[vL (vL vI) p.succs,vL vU p.gen,vL vU p.kill,vU p.start,vB p.must,vB p.back]
def vP (p:Prob):Value:=.agg (cP p).toArray
def fill {α:Type} (k n:Nat) (x y:α):List α:=List.replicate k x++List.replicate (n - k) y
theorem fill_len {α:Type} {k n:Nat} {x y:α} (h:k≤n):(fill k n x y).length=n:=by simp [fill]; omega
theorem fill_zero {α:Type} {n:Nat} {x y:α}:fill 0 n x y=List.replicate n y:=by simp [fill]
theorem fill_all {α:Type} {n:Nat} {x y:α}:fill n n x y=List.replicate n x:=by simp [fill]
theorem fill_set {α:Type} {k n:Nat} {x y:α} (h:k < n):(fill k n x y).set k x=fill (k+1) n x y:=by
  unfold fill;rw [List.set_append_right _ _ (by simp),List.length_replicate,Nat.sub_self,show n - k=(n - (k+1))+1 by omega,List.replicate_succ,List.set_cons_zero,List.replicate_succ']
  simp
theorem fill_at {α:Type} {k n:Nat} {x y:α} (h:k < n):(fill k n x y)[k]?=some y:=by
  unfold fill;rw [List.getElem?_append_right (by simp),List.length_replicate,Nat.sub_self,List.getElem?_replicate,if_pos (by omega)]
theorem push_fill {k n:Nat} (h:k < n):qEq (List.range k) (fill k n true false) [(k:Int)]=(List.range (k+1),fill (k+1) n true false):=by
  show (if (fill k n true false)[((k:Int)).toNat]?=some true then (List.range k,fill k n true false) else (List.range k++[((k:Int)).toNat],(fill k n true false).set ((k:Int)).toNat true))=_
  rw [Int.toNat_natCast,fill_at h,if_neg (by simp),fill_set h,List.range_succ]
section
variable {h : Heap} {K : Value → Heap → Prop} {p : Prob} {a : Ob} {inn out q : List Nat} {w : List Bool} {qv : Value} {rest : List Ob}
theorem qNd {v:Value} (hv:cellsOf v=some [v]):qBz (h++svL h.length p a inn out w qv rest) 1 (.pointer (some ⟨h.length+4,10,some 0⟩)) v=some (h++svL h.length p a inn out w v rest):=by
  rw [qAc,hv]; simp [svL,qAd,svC]
theorem qSy {α:Type} {f:α→Value} {L:List Ob} {j n:Nat} {l:List α} (hj:L[j]?=some (bxL f l)) (hc:∀ x,qCo (f x)=true) (hn:n=l.length):Inl h.length (h++L) (.slice (some ⟨h.length+j,0,none⟩) n 0) (vL f l) :=
  AccL.inl (b:=h.length) (.inr ⟨_,0,by rw [hn],Nat.le_add_right _ _,by rw [List.getElem?_append_right (Nat.le_add_right _ _),Nat.add_sub_cancel_left,hj]; rfl,by simp⟩) hc
theorem cellsOf_vP:cellsOf (vP p)=some (cP p):=rfl
theorem agg_cP:Value.agg (cP p).toArray=vP p:=rfl
set_option maxHeartbeats 4000000 in
theorem fSolve_call (ok:p.Ok) (hk:∀ inn out,Solved p inn out→K (.tuple #[vL vU (if p.back then out else inn),vL vU (if p.back then inn else out)]) h):qBn prog 35 [vP p] h K:=by
  refine qBn.forget ?_;refine call_fSolve (by simp) ?_
  have hn:=ok.few;have hln:p.succs.length=p.n:=rfl;have hnl:p.n≤lim:=by simp [lim]; omega
  obtain ⟨n,hnn⟩:∃ n,n=p.n:=⟨_,rfl⟩;have hn64':¬ (64:Int) < p.n:=by omega
  obtain ⟨A,hA⟩:∃ A,A=Ob.row ⟨cP p,6,0,false⟩:=⟨_,rfl⟩;have hfz:frzV (h++[bx (cP p) 6]) 6 (.pointer (some ⟨h.length,0,some 0⟩))=some (fptr (cP p),h++[A]):=by
    simp only [frzV,frzC,row_at0];simp [qVo,cP,hA]
  have c0:(cP p)[0]?=some (vL (vL vI) p.succs):=rfl;have c5:(cP p)[5]?=some (vB p.back):=rfl;have cl:(cP p).length=6:=rfl;have g0:∀ hh,(cP p)[0]'hh=vL (vL vI) p.succs:=fun _=>rfl
  have g5:∀ hh,(cP p)[5]'hh=vB p.back:=fun _=>rfl
  have hsa:setAll [nilS,nilS,nilS,.int .u64 0,.bool false,.bool false,nilS,nilS,nilS,nilS,nilS,nilS] 0 (cP p)=[vL (vL vI) p.succs,vL vU p.gen,vL vU p.kill,vU p.start,vB p.must,vB p.back,nilS,nilS,nilS,nilS,nilS,nilS]:=rfl;have ct:(cP p).take 6=cP p:=rfl;simp [-qAx,qAl,qAo,qAm,qAi,qAf,qAe,qAb,qAc,qAa,qAj,qAg,qAd,qAu,qAv,resV,retV,qAn,qAh,qAs,qAr,qAq,qAp,qUc,cellsOf_vP,cl,hfz,g0,hln];rw [qAx];simp [-qAx,qAl,qAo,qAm,qAi,qAf,qAe,qAb,qAc,qAa,qAj,qAg,qAd,qAu,qAv,resV,retV,qAn,qAh,qAs,qAr,qAq,qAp,hn64',ct,agg_cP,make_box hnl,cellsOf_vP,cl,g0,hsa,bx_repU,bx_repB]
  refine pOps_froz (by simp; exact ⟨rfl,_,rfl,_,c0⟩) (inside_call (by unfold lim; omega) ok.short ?_)
  simp [-qAx,qAl,qAo,qAm,qAi,qAf,qAe,qAb,qAc,qAa,qAj,qAg,qAd,qAu,qAv,resV,retV,qAn,qAh,qAs,qAr,qAq,qAp,g0,cl];refine Preds_call (by unfold lim; omega) (fun l hl=>Nat.le_of_lt (ok.short l hl)) ?_
  simp [-qAx,qAl,qAo,qAm,qAi,qAf,qAe,qAb,qAc,qAa,qAj,qAg,qAd,qAu,qAv,resV,retV,qAn,qAh,qAs,qAr,qAq,qAp,callK_def];rw [qAx];simp [-qAx,qAl,qAo,qAm,qAi,qAf,qAe,qAb,qAc,qAa,qAj,qAg,qAd,qAu,qAv,resV,retV,qAn,qAh,qAs,qAr,qAq,qAp,g5,cl];have hsv:[A,bxL vU (List.replicate p.n 0),bxL vU (List.replicate p.n 0),bxL vB (List.replicate p.n false),bx [vL (vL vI) p.succs,vL vU p.gen,vL vU p.kill,vU p.start,vB p.must,vB p.back,vL (vL vI) p.froms,vL (vL vI) p.tos,.slice (some ⟨h.length+1,0,none⟩) p.n 0,.slice (some ⟨h.length+2,0,none⟩) p.n 0,nilS,.slice (some ⟨h.length+3,0,none⟩) p.n 0] 12] =
    svL h.length p A (fill 0 p.n p.all 0) (fill 0 p.n p.all 0) (fill 0 p.n true false) nilS []:=by rw [fill_zero,fill_zero]; rfl
  refine cK_join [(1,fptr (cP p)),(4,vI p.n),(5,ptr (h.length+4))] (h++svL h.length p A (fill 0 p.n p.all 0) (fill 0 p.n p.all 0) (fill 0 p.n true false) nilS []) (fun e=>?_) (fun e=>?_) fun fr=>?_
  . simp [qAl,qAo,qAm,qAi,qAf,qAe,qAb,qAc,qAa,qAj,qAg,qAd,qAu,qAv,resV,retV,qAn,qAh,qAs,qAr,qAq,qAp]
    rw [← hsv];simp [Prob.froms,Prob.tos,e]
  . simp [qAl,qAo,qAm,qAi,qAf,qAe,qAb,qAc,qAa,qAj,qAg,qAd,qAu,qAv,resV,retV,qAn,qAh,qAs,qAr,qAq,qAp]
    rw [← hsv];simp [Prob.froms,Prob.tos,e]
  rw [qAx];simp [-qAx,qAl,qAo,qAm,qAi,qAf,qAe,qAb,qAc,qAa,qAj,qAg,qAd,qAu,qAv,resV,retV,qAn,qAh,qAs,qAr,qAq,qAp];refine qEc (σ:=Nat×Value×List Ob) (fun x=>[(1,fptr (cP p)),(5,ptr (h.length+4)),(50,vI p.n),(51,vI x.1)]) (fun z=>h++svL h.length p A (fill z.1 p.n p.all 0) (fill z.1 p.n p.all 0) (fill z.1 p.n true false) z.2.1 z.2.2) (fun z=>z.1≤p.n∧QV h.length z.2.2 z.2.1 (List.range z.1)) (fun z=>p.n - z.1) (0,nilS,[]) (by simp) rfl ⟨by simp,.nil⟩ ?_
  rintro ⟨k,qv,rest⟩ fr ⟨hk0,hqv⟩;simp only at hk0 hqv ⊢
  by_cases hlt:k < p.n
  . obtain ⟨k1,hk1,wk⟩:=qBm (show k < lim by unfold lim; omega)
    have hkf:(k:Int) < p.n:=by omega
    simp [qAu,qAv,resV,retV,qAh,qAs,qAr,qAq,qAp,hkf,qEh,cell_in,qFl,qJy,qFi,qEw,qHt,qNd,svC];refine qEj (by simp [qEh,svC]) (fAll_still (p:=p) (by rw [qEh]; rfl) ?_)
    refine qEj (by simp [qEh,svC]) (fAll_still (p:=p) (by rw [qEh]; rfl) ?_)
    simp [qAu,qAv,resV,retV,qAh,qAs,qAr,qAq,qAp,hlt,qEh,cell_in,qFl,qJy,qFi,qEw,qHt,qNd,svC,fill_len hk0,fill_set hlt];refine fPush_call hlt (fill_len hk0) (by simp; unfold lim; omega) hqv fun qv' rest' hqv'=>?_
    rw [push_fill hlt] at hqv' ⊢;simp [qAu,qAv,resV,retV,qAh,qAs,qAr,qAq,qAp,callK_def,wk];exact .go (k1,qv',rest') (by simp only []; omega) (by simp) (by simp only [hk1]) ⟨by simp only []; omega,by simp only [hk1]; exact hqv'⟩
  . have hkf:¬ (k:Int) < p.n:=by omega
    obtain rfl:k=p.n:=by omega
    rw [fill_all,fill_all];simp [qAu,qAv,resV,retV,qAh,qAs,qAr,qAq,qAp,hkf];have hinit:=FInv.init ok;refine qEc (σ:=(List Nat×List Nat)×(List Nat×List Bool)×Value×List Ob) (fun x=>[(1,fptr (cP p)),(5,ptr (h.length+4))]) (fun z=>h++svL h.length p A z.1.1 z.1.2 z.2.1.2 z.2.2.1 z.2.2.2) (fun z=>FInv p z.1.1 z.1.2 z.2.1.1 z.2.1.2∧QV h.length z.2.2.2 z.2.2.1 z.2.1.1) (fun z=>(p.n+1) * wts p z.1.2+z.2.1.1.length) ((List.replicate p.n p.all,List.replicate p.n p.all),(List.range p.n,List.replicate p.n true),qv,rest) (by simp) rfl ⟨hinit,hqv⟩ ?_
    rintro ⟨⟨inn,out⟩,⟨q,w⟩,qv,rest⟩ fr ⟨v,hqv⟩;simp only at v hqv ⊢;have hcell:∀ (qv:Value) (k:Nat) (ver off:Nat),(h++svL h.length p A inn out w qv rest).cell? (h.length+(k+5)) off ver=(rowO rest[k]? ver).bind fun r=>r.cells[off]?:=fun qv k ver off=>by
      rw [cell_at]; simp [svL]
    cases hqv with
    | nil =>
      have hS:=v.end ok;have r1:∀ (qv:Value) (rest:List Ob),Inl h.length (h++svL h.length p A inn out w qv rest) (.slice (some ⟨h.length+1,0,none⟩) p.n 0) (vL vU inn):=fun _ _=>qSy (j:=1) rfl (fun _=>rfl) v.ilen.symm
      have r2:∀ (qv:Value) (rest:List Ob),Inl h.length (h++svL h.length p A inn out w qv rest) (.slice (some ⟨h.length+2,0,none⟩) p.n 0) (vL vU out):=fun _ _=>qSy (j:=2) rfl (fun _=>rfl) v.olen.symm
      have hfin:=hk inn out hS;cases hb:p.back with
      | true =>
        rw [hb] at c5 hfin;simp [qAu,qAv,resV,retV,qAh,qAs,qAr,qAq,qAp,qEh,cell_in,qFl,qJy,qFi,qEw,qHt,qNd,svC,c5];exact ⟨_,Inls.tup (xs:=[_,_]) (ys:=[_,_]) ⟨r2 _ _,r1 _ _,trivial⟩,by simpa using hfin⟩
      | false =>
        rw [hb] at c5 hfin;simp [qAu,qAv,resV,retV,qAh,qAs,qAr,qAq,qAp,qEh,cell_in,qFl,qJy,qFi,qEw,qHt,qNd,svC,c5];exact ⟨_,Inls.tup (xs:=[_,_]) (ys:=[_,_]) ⟨r1 _ _,r2 _ _,trivial⟩,by simpa using hfin⟩
    | @row k ver pre q hkk =>
      cases q with
      | nil =>
        have hS:=v.end ok;have r1:∀ (qv:Value) (rest:List Ob),Inl h.length (h++svL h.length p A inn out w qv rest) (.slice (some ⟨h.length+1,0,none⟩) p.n 0) (vL vU inn):=fun _ _=>qSy (j:=1) rfl (fun _=>rfl) v.ilen.symm
        have r2:∀ (qv:Value) (rest:List Ob),Inl h.length (h++svL h.length p A inn out w qv rest) (.slice (some ⟨h.length+2,0,none⟩) p.n 0) (vL vU out):=fun _ _=>qSy (j:=2) rfl (fun _=>rfl) v.olen.symm
        have hfin:=hk inn out hS;cases hb:p.back with
        | true =>
          rw [hb] at c5 hfin;simp [qAu,qAv,resV,retV,qAh,qAs,qAr,qAq,qAp,qEh,cell_in,qFl,qJy,qFi,qEw,qHt,qNd,svC,c5];exact ⟨_,Inls.tup (xs:=[_,_]) (ys:=[_,_]) ⟨r2 _ _,r1 _ _,trivial⟩,by simpa using hfin⟩
        | false =>
          rw [hb] at c5 hfin;simp [qAu,qAv,resV,retV,qAh,qAs,qAr,qAq,qAp,qEh,cell_in,qFl,qJy,qFi,qEw,qHt,qNd,svC,c5];exact ⟨_,Inls.tup (xs:=[_,_]) (ys:=[_,_]) ⟨r1 _ _,r2 _ _,trivial⟩,by simpa using hfin⟩
      | cons i q =>
        have hi:=v.qlt (i:=i) (by simp)
        have v1:=v.pop;have hiw:i < w.length:=by rw [v.wlen]; exact hi
        have hq0:(0:Int) < (q.length:Int)+1:=by omega
        have hcut:=qYd (h:=h) (rs:=svL h.length p A inn out w (.slice (some ⟨h.length+(k+5),pre.length,none⟩) (q.length+1) ver) rest) (j:=k+5) (ver:=ver) (off:=pre.length) (len:=q.length+1) (e:=1) (lo:=some (.int .i64 1)) (hi:=none) (a:=1) (b:=q.length+1) (r:=⟨pre++(i :: q).map fun i:Nat=>vI i,1,ver,true⟩) (by simp only [svL,List.getElem?_cons_succ,hkk]; exact qNw) rfl (by simp) (by simp) (by omega)
        have hkk':rest[k]?=some (bxQ ((pre++[vI (i:Int)])++q.map fun i:Nat=>vI i) ver):=by rw [hkk]; simp
        simp [qAu,qAv,resV,retV,qAh,qAs,qAr,qAq,qAp,qEh,cell_in,qFl,qJy,qFi,qEw,qHt,qNd,svC,hq0,hcell,hkk,qNw,qOb,hcut,hi,hiw];have hq1:QV h.length rest (.slice (some ⟨h.length+(k+5),pre.length+1,none⟩) q.length ver) q:=by
          have:=QV.row (b:=h.length) hkk'
          simpa using this
        refine fLook_call ok v1 hi hq1 fun inn' out' q' w' qv' rest' v' hqv' hm=>?_
        simp [qAu,qAv,resV,retV,qAh,qAs,qAr,qAq,qAp,callK_def];refine .go ((inn',out'),(q',w'),qv',rest') ?_ (by simp) rfl ⟨v',hqv'⟩
        have hq':q'.length≤p.n:=qOc v'.nodup fun i hi=>v'.qlt hi
        rcases hm with ⟨rfl,rfl⟩ | hm
        . simp
        . have:(p.n+1) * (wts p out'+1)≤(p.n+1) * wts p out:=Nat.mul_le_mul (Nat.le_refl _) hm
          rw [Nat.mul_add,Nat.mul_one] at this;simp only [List.length_cons]; omega
end
end Pm
