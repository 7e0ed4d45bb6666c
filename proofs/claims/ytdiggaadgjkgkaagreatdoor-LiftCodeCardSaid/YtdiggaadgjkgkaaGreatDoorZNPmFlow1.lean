/- Graphs: all that is told of any code is what the document says.
   No condition: plain lemmas. -/
import Derived.KernelRfl
import Derived.Test.YtdiggaadgjkgkaaGreatDoorZNPmMake2
import Derived.Test.YtdiggaadgjkgkaaGreatDoorZNPmSuccsR
import Derived.Test.YtdiggaadgjkgkaaGreatDoorZNPmLoop
import Derived.Test.YtdiggaadgjkgkaaGreatDoorZNPmVal7
import Derived.Test.YtdiggaadgjkgkaaGreatDoorZNPm5
import Derived.Test.YtdiggaadgjkgkaaGreatDoorProg
import Derived.Test.YtdiggaadgjkgkaaGreatDoorZNPmCfgC
namespace Pm
set_option linter.unusedSimpArgs false
set_option linter.unusedVariables false
open Go Am
open Go.Proofs.Tryz (prog)

theorem sum_succs (code:List Ins):((succs code).map List.length).sum≤2 * code.length:=by
  have h:∀ (l:List (List Int)),(∀ x∈l,x.length≤2)→(l.map List.length).sum≤2 * l.length:=by
    intro l
    induction l with
    | nil=>intro _; simp
    | cons a l ih =>
      intro h;have h1:=h a (by simp)
      have h2:=ih fun x hx=>h x (by simp [hx])
      simp only [List.map_cons,List.sum_cons,List.length_cons]; omega
  have:=h (succs code) fun x hx=>by
    obtain ⟨i,hi⟩:=List.mem_iff_getElem?.1 hx;rw [qIo] at hi;obtain ⟨y,_,rfl⟩:=Option.map_eq_some_iff.1 hi;exact nextsOf_len i y
  rw [qBt] at this; exact this
theorem succs_short (code:List Ins):∀ l∈succs code,l.length < lim:=by
  intro l hl;obtain ⟨i,hi⟩:=List.mem_iff_getElem?.1 hl;rw [qIo] at hi;obtain ⟨y,_,rfl⟩:=Option.map_eq_some_iff.1 hi;have:=nextsOf_len i y;simp [lim]; omega

def Choices (l:List (List Nat)):Prop:=qOc l∧∀ c∈l,qQr c
theorem Make_ok {l:List (List Nat)} (hl:Choices l) {h:Heap} {K:Value→Heap→Prop} (hk:K (.agg (qTu (qGv l)).toArray) h):qBl prog 6 [vL (vL v8) l] h K :=
  Make_call hl.1 (fun c hc=>(hl.2 c hc).1) (fun c hc=>(hl.2 c hc).2) hk
theorem threads_len (l:List (List Nat)):(qGv l).threads.length=nThr l:=by simp [qGv]
theorem threads_at {l:List (List Nat)} {i:Nat} {c:List Ins} (h:(qGv l).threads[i]?=some c):c=qNh l i∧c.length≤11:=by
  simp only [qGv,List.getElem?_map] at h;obtain ⟨j,hj,rfl⟩:=Option.map_eq_some_iff.1 h;have:=List.getElem?_eq_some_iff.1 hj;obtain ⟨_,e⟩:=this;simp at e;subst e;exact ⟨rfl,codeOf_len l _⟩

end Pm

/- The pure machine: rows of a function's own that grow and are cut, by their places behind the heap that it found.
   No condition: plain lemmas. -/
namespace Pm
set_option linter.unusedSimpArgs false
set_option linter.unusedVariables false
open Go Am

def rowO (o:Option Ob) (ver:Nat):Option Row:=match o with | some (.row r)=>if r.ver=ver then some r else none | _=>none
section
variable {h : Heap} {rs : List Ob} {cs vs : List Value} {e off n j ver len : Nat} {v : Value} {α : Type} {f : α → Value} {l : List α}
theorem qMm:(h++rs).row? (h.length+j) ver=rowO rs[j]? ver:=by
  simp only [Heap.row?,rowO,List.getElem?_append_right (Nat.le_add_right h.length j),Nat.add_sub_cancel_left]
  rfl
theorem qRe:rowO (some (bx cs e)) 0=some ⟨cs,e,0,true⟩:=rfl
theorem qQs:rowO (some (bxQ cs ver)) ver=some ⟨cs,1,ver,true⟩:=by simp [rowO,bxQ]
theorem cell_at:(h++rs).cell? (h.length+j) off ver=(rowO rs[j]? ver).bind fun r=>r.cells[off]?:=by
  rw [Heap.cell?,qMm];cases rowO rs[j]? ver<;>rfl
theorem qPm:(h++rs).cells? (h.length+j) off ver n=(rowO rs[j]? ver).bind fun r=>if off+n≤r.cells.length then some ((r.cells.drop off).take n) else none:=by
  rw [Heap.cells?,qMm];cases rowO rs[j]? ver<;>rfl
theorem store_at {r:Row} (hr:rowO rs[j]? ver=some r) (hv:cellsOf v=some vs) (hw:r.rw=true) (hn:vs.length=n) (ho:off+n≤r.cells.length) :
    qBu (h++rs) n (.pointer (some ⟨h.length+j,off,some ver⟩)) v=some (h++rs.set j (.row { r with cells:=setAll r.cells off vs })):=by
  simp only [qBu,qMm,hr,hv,hw,hn,ho,and_self,if_true];rw [List.set_append_right _ _ (Nat.le_add_right _ _),Nat.add_sub_cancel_left]
theorem storeQ_at {g:α→Value} {x:α} {m:List α} (hj:rs[j]?=some (bxQ (m.map g) ver)) (hv:v=g x) (hc:cellsOf (g x)=some [g x]) (ho:off < m.length) :
    qBu (h++rs) 1 (.pointer (some ⟨h.length+j,off,some ver⟩)) v=some (h++rs.set j (bxQ ((m.set off x).map g) ver)):=by
  rw [store_at (n:=1) (r:=⟨m.map g,1,ver,true⟩) (vs:=[g x]) (by rw [hj]; exact qQs) (by rw [hv]; exact hc) rfl rfl (by simp; omega)]
  simp [bxQ,List.map_set]
theorem cut_at {r:Row} {lo hi:Option Value} {a b:Nat} (hr:rowO rs[j]? ver=some r) (he:r.esz=e) (hlo:loV lo=some a) (hhi:hiV len hi=some b) (hab:a≤b) :
    cutV (h++rs) e (.slice (some ⟨h.length+j,off,none⟩) len ver) lo hi=some (.slice (some ⟨h.length+j,off+a * e,none⟩) (b - a) ver):=by
  simp only [cutV,qMm,hr,hlo,hhi,he,hab,and_self,if_true]
theorem push_at {r:Row} {new:List Value} (hr:rowO rs[j]? ver=some r) (hv:qCv (h++rs) e v=some (n,new)) (hw:r.rw=true) (he:r.esz=e) (ho:off+len * e≤r.cells.length) (hl:len+n≤lim) :
    pApp (h++rs) e (.slice (some ⟨h.length+j,off,none⟩) len ver) v=some (.slice (some ⟨h.length+j,0,none⟩) (len+n) (ver+1),h++rs.set j (.row ⟨(r.cells.drop off).take (len * e)++new,e,ver+1,true⟩)):=by
  simp only [pApp,hv,qJg,qMm,hr,hw,he,ho,hl,and_self,if_true];rw [List.set_append_right _ _ (Nat.le_add_right _ _),Nat.add_sub_cancel_left]
theorem frz_at {r:Row} (hr:rowO rs[j]? ver=some r) (hl:off+n * r.esz≤r.cells.length) (hc:(seg r.cells off (n * r.esz)).all qCf=true) :
    frzV (h++rs) e (.slice (some ⟨h.length+j,off,none⟩) n ver)=some (lst r.esz n (seg r.cells off (n * r.esz)),h++rs.set j (.row { r with rw:=false })):=by
  simp only [frzV,frzC,qMm,hr];rw [if_pos ⟨hl,hc⟩,List.set_append_right _ _ (Nat.le_add_right _ _),Nat.add_sub_cancel_left]
theorem frz_one {L:List Ob} {r:Int} {k:Nat} (hL:L[k]?=some (bx [vI r] 1)):frzV (h++L) 1 (.slice (some ⟨h.length+k,0,none⟩) 1 0)=some (vL vI [r],h++L.set k (.row ⟨[vI r],1,0,false⟩)) :=
  frz_at (r:=⟨[vI r],1,0,true⟩) (by rw [hL]; rfl) (by simp) rfl
theorem storeB_L {x:α} (hc:cellsOf (f x)=some [f x]):qJy (some (bxL f l)) off 1 [f x]=if off < l.length then some (bxL f (l.set off x)) else none:=by
  unfold bxL;rw [qAc];simp only [List.length_singleton,true_and,List.length_map]
  split
  . rename_i h1
    rw [if_pos (by omega)]
    simp [List.map_set]
  . rw [if_neg (by omega)]
theorem storeB_I {x:Int} {l:List Int}:qJy (some (bxL vI l)) off 1 [.int .i64 x]=if off < l.length then some (bxL vI (l.set off x)) else none:=storeB_L (f:=vI) rfl
theorem bx_repI:bx (rep n [.int .i64 0]) 1=bxL vI (List.replicate n 0):=by
  have:∀ n,rep n [.int .i64 0]=(List.replicate n 0).map vI:=by
    intro n
    induction n with
    | zero=>rfl
    | succ n ih=>simp [rep,ih,List.replicate_succ]
  rw [this]; rfl
end
end Pm

/- What holds where, in plain lists and numbers: the work list comes to the least marks.
   No condition: plain lemmas. -/

namespace Pm
set_option linter.unusedSimpArgs false
set_option linter.unusedVariables false
open Go Am

def andN (a b:Nat):Nat:=a ^^^ (a &&& b)
theorem andN_bit (a b k:Nat):(andN a b).testBit k=(a.testBit k && !b.testBit k):=by
  unfold andN;rw [Nat.testBit_xor,Nat.testBit_and];cases a.testBit k<;>cases b.testBit k<;>rfl
theorem andN_lt {a b:Nat} (h:a < big):andN a b < big:=Nat.xor_lt_two_pow (n:=64) h (Nat.lt_of_le_of_lt Nat.and_le_left h)
theorem and_lt {a b:Nat} (h:a < big):a &&& b < big:=Nat.lt_of_le_of_lt Nat.and_le_left h
theorem qPf {a b:Nat} (ha:a < big) (hb:b < big) (h:∀ k,k < 64→a.testBit k=b.testBit k):a=b:=by
  apply Nat.eq_of_testBit_eq;intro k
  by_cases hk:k < 64
  . exact h k hk
  . have e:big≤2 ^ k:=Nat.pow_le_pow_right (n:=2) (by omega) (show 64≤k by omega)
    rw [Nat.testBit_lt_two_pow (Nat.lt_of_lt_of_le ha e),Nat.testBit_lt_two_pow (Nat.lt_of_lt_of_le hb e)]
theorem all_bits {k:Nat} (hk:k < 64):(allN 64).testBit k=true:=by
  unfold allN;rw [Nat.testBit_two_pow_sub_one]; simpa using hk
def gN (l:List Nat) (i:Nat):Nat:=l[i]?.getD 0
theorem gN_of {l:List Nat} {i x:Nat} (h:l[i]?=some x):gN l i=x:=by simp [gN,h]
theorem qHr {l:List Nat} {i j x:Nat} (hi:i < l.length):gN (l.set i x) j=if j=i then x else gN l j:=by
  unfold gN;rw [List.getElem?_set]
  by_cases h:i=j
  . subst h; simp [hi]
  . rw [if_neg h,if_neg (fun e=>h e.symm)]

structure Prob where
  succs:List (List Int)
  gen:List Nat
  kill:List Nat
  start:Nat
  must:Bool
  back:Bool
def qNa (s:List (List Int)):List (List Int):=s.map fun l=>l.filter fun x:Int=>decide (0≤x∧x < (s.length:Int))
namespace Prob
def n (p:Prob):Nat:=p.succs.length
def froms (p:Prob):List (List Int):=if p.back then qNa p.succs else qFp p.succs
def tos (p:Prob):List (List Int):=if p.back then qFp p.succs else qNa p.succs
def edge (p:Prob) (i:Nat):Bool:=if p.back then decide ((p.n:Int)∈qDr p.succs i) else decide (i=0)
def all (p:Prob):Nat:=if p.must then allN 64 else 0
def meet (p:Prob) (a b:Nat):Nat:=if p.must then a &&& b else a ||| b
def thru (p:Prob) (i x:Nat):Nat:=andN x (gN p.kill i) ||| gN p.gen i
def marked (p:Prob) (x k:Nat):Bool:=x.testBit k != p.must
def genM (p:Prob) (i k:Nat):Bool:=if p.must then !(gN p.gen i).testBit k && (gN p.kill i).testBit k else (gN p.gen i).testBit k
def passM (p:Prob) (i k:Nat):Bool:=if p.must then !(gN p.gen i).testBit k else !(gN p.kill i).testBit k
def xv0 (p:Prob) (i:Nat):Nat:=if p.edge i then p.meet p.all p.start else p.all
def xvT (p:Prob) (out:List Nat) (i t:Nat):Nat:=((qDr p.froms i).take t).foldl (fun x k=>p.meet x (gN out k.toNat)) (p.xv0 i)
def xv (p:Prob) (out:List Nat) (i:Nat):Nat:=p.xvT out i (qDr p.froms i).length
structure Ok (p:Prob):Prop where
  gen:∀ i,gN p.gen i < big
  kill:∀ i,gN p.kill i < big
  start:p.start < big
  few:p.n≤64
  short:∀ l∈p.succs,l.length < lim
end Prob
inductive Mk (p:Prob) (k:Nat):Bool→Nat→Prop
  | start {i:Nat} (hi:i < p.n) (he:p.edge i=true) (hs:p.marked p.start k=true):Mk p k false i
  | flow {i j:Nat} (hi:i < p.n) (hj:(j:Int)∈qDr p.froms i) (h:Mk p k true j):Mk p k false i
  | gen {i:Nat} (hi:i < p.n) (hc:p.genM i k=true):Mk p k true i
  | pass {i:Nat} (h:Mk p k false i) (hp:p.passM i k=true):Mk p k true i
theorem Mk.lt {p:Prob} {k:Nat} {b:Bool} {i:Nat} (h:Mk p k b i):i < p.n:=by
  induction h<;>assumption
structure Solved (p:Prob) (inn out:List Nat):Prop where
  ilen:inn.length=p.n
  olen:out.length=p.n
  ilt:∀ i,gN inn i < big
  olt:∀ i,gN out i < big
  qGm:∀ i k,i < p.n→k < 64→(p.marked (gN inn i) k=true↔Mk p k false i)
  behind:∀ i k,i < p.n→k < 64→(p.marked (gN out i) k=true↔Mk p k true i)

section
variable {p : Prob} {inn out : List Nat} {q : List Nat} {w : List Bool}
theorem nexts_inside {s:List (List Int)} {i:Nat}:qDr (qNa s) i=(qDr s i).filter fun x:Int=>decide (0≤x∧x < (s.length:Int)):=by
  unfold qDr qNa;rw [List.getElem?_map];cases s[i]?<;>rfl
theorem qHk {s:List (List Int)} {i:Nat} (hi:i < s.length):qDr (qFp s) i=qDc s s.length i:=qEe (qJz hi)
theorem qIx {s:List (List Int)} {i:Nat} {x:Int}:x∈qDr (qNa s) i↔∃ j:Nat,x=j∧j < s.length∧(j:Int)∈qDr s i:=by
  rw [nexts_inside,List.mem_filter,decide_eq_true_eq];constructor
  . rintro ⟨h1,h2,h3⟩
    exact ⟨x.toNat,by omega,by omega,by rw [show (x.toNat:Int)=x by omega]; exact h1⟩
  . rintro ⟨j,rfl,h2,h3⟩; exact ⟨h3,by omega,by omega⟩
theorem qMc {i:Nat} {x:Int} (hi:i < p.n) (h:x∈qDr p.froms i):∃ j:Nat,x=j∧j < p.n:=by
  unfold Prob.froms at h
  split at h
  . obtain ⟨j,h1,h2,_⟩:=qIx.1 h; exact ⟨j,h1,h2⟩
  . rw [qHk hi] at h
    obtain ⟨j,h1,h2,_⟩:=qDw.1 h; exact ⟨j,h1,h2⟩
theorem to_mem {i:Nat} {x:Int} (hi:i < p.n) (h:x∈qDr p.tos i):∃ j:Nat,x=j∧j < p.n:=by
  unfold Prob.tos at h
  split at h
  . rw [qHk hi] at h
    obtain ⟨j,h1,h2,_⟩:=qDw.1 h; exact ⟨j,h1,h2⟩
  . obtain ⟨j,h1,h2,_⟩:=qIx.1 h; exact ⟨j,h1,h2⟩
theorem from_to {i j:Nat} (hi:i < p.n) (hj:j < p.n):(i:Int)∈qDr p.froms j↔(j:Int)∈qDr p.tos i:=by
  unfold Prob.froms Prob.tos
  split
  . rw [qHk hi,qDw,qIx]
    constructor
    . rintro ⟨a,h1,h2,h3⟩; exact ⟨j,rfl,hj,by rwa [show (i:Int)=a by omega]⟩
    . rintro ⟨a,h1,h2,h3⟩; exact ⟨i,rfl,hi,by rwa [show j=a by omega]⟩
  . rw [qHk hj,qDw,qIx]
    constructor
    . rintro ⟨a,h1,h2,h3⟩; exact ⟨j,rfl,hj,by rwa [show i=a by omega]⟩
    . rintro ⟨a,h1,h2,h3⟩; exact ⟨i,rfl,hi,by rwa [show (j:Int)=a by omega]⟩
theorem all_lt':p.all < big:=by unfold Prob.all; split<;>decide
theorem meet_lt {a b:Nat} (ha:a < big) (hb:b < big):p.meet a b < big:=by
  unfold Prob.meet; split
  . exact and_lt ha
  . exact qTv ha hb
theorem thru_lt (ok:p.Ok) {i x:Nat} (hx:x < big):p.thru i x < big:=qTv (andN_lt hx) (ok.gen i)
theorem qQu {k:Nat} (hk:k < 64):p.marked p.all k=false:=by
  unfold Prob.marked Prob.all;cases hm:p.must
  . simp
  . simp [all_bits hk]
theorem mk_meet {a b k:Nat}:p.marked (p.meet a b) k=(p.marked a k || p.marked b k):=by
  unfold Prob.marked Prob.meet;cases hm:p.must
  . simp [Nat.testBit_or]
  . simp [Nat.testBit_and]
theorem qOw {i x k:Nat}:p.marked (p.thru i x) k=(p.genM i k || (p.passM i k && p.marked x k)):=by
  unfold Prob.marked Prob.thru Prob.genM Prob.passM;rw [Nat.testBit_or,andN_bit];cases hm:p.must<;>cases (gN p.gen i).testBit k<;>cases (gN p.kill i).testBit k<;>cases x.testBit k<;>rfl
theorem mk_ext {a b:Nat} (ha:a < big) (hb:b < big) (h:∀ k,k < 64→p.marked a k=p.marked b k):a=b:=by
  refine qPf ha hb fun k hk=>?_
  have:=h k hk;unfold Prob.marked at this;cases hm:p.must<;>rw [hm] at this<;>cases h1:a.testBit k<;>cases h2:b.testBit k<;>simp_all
theorem xv0_lt (ok:p.Ok) {i:Nat}:p.xv0 i < big:=by
  unfold Prob.xv0; split
  . exact meet_lt all_lt' ok.start
  . exact all_lt'
theorem qRy (ok:p.Ok) (ho:∀ i,gN out i < big) {i t:Nat}:p.xvT out i t < big:=by
  unfold Prob.xvT
  generalize (qDr p.froms i).take t=l
  have:∀ (l:List Int) (x:Nat),x < big→l.foldl (fun x k=>p.meet x (gN out k.toNat)) x < big:=by
    intro l
    induction l with
    | nil=>intro x h; exact h
    | cons a l ih=>intro x h; exact ih _ (meet_lt h (ho _))
  exact this l _ (xv0_lt ok)
theorem mk_xv0 {i k:Nat} (hk:k < 64):p.marked (p.xv0 i) k=(p.edge i && p.marked p.start k):=by
  unfold Prob.xv0
  split
  . rename_i h; rw [mk_meet,qQu hk,h]; simp
  . rename_i h; rw [qQu hk]; simp [h]
theorem mk_fold {k:Nat}:∀ (l:List Int) (x:Nat),p.marked (l.foldl (fun x j=>p.meet x (gN out j.toNat)) x) k=true↔p.marked x k=true∨∃ j∈l,p.marked (gN out j.toNat) k=true
  | [],x=>by simp
  | a :: l,x=>by
    rw [List.foldl_cons,mk_fold l,mk_meet];simp only [Bool.or_eq_true,List.mem_cons,exists_eq_or_imp,or_assoc]
theorem qOv {i k:Nat} (hk:k < 64):p.marked (p.xv out i) k=true↔(p.edge i=true∧p.marked p.start k=true)∨∃ j∈qDr p.froms i,p.marked (gN out j.toNat) k=true:=by
  unfold Prob.xv Prob.xvT;rw [List.take_length,mk_fold,mk_xv0 hk,Bool.and_eq_true]

structure FInv (p:Prob) (inn out:List Nat) (q:List Nat) (w:List Bool):Prop where
  ilen:inn.length=p.n
  olen:out.length=p.n
  wlen:w.length=p.n
  ilt:∀ i,gN inn i < big
  olt:∀ i,gN out i < big
  nodup:q.Nodup
  qw:∀ i,i∈q↔w[i]?=some true
  sndI:∀ i k,i < p.n→k < 64→p.marked (gN inn i) k=true→Mk p k false i
  sndO:∀ i k,i < p.n→k < 64→p.marked (gN out i) k=true→Mk p k true i
  ok:∀ i,i < p.n→i ∉ q→gN inn i=p.xv out i∧gN out i=p.thru i (p.xv out i)
  mono:∀ i k,i < p.n→k < 64→p.marked (gN out i) k=true→p.marked (p.thru i (p.xv out i)) k=true
structure FOne (p:Prob) (inn out:List Nat) (q:List Nat) (w:List Bool) (a:Nat):Prop where
  ilen:inn.length=p.n
  olen:out.length=p.n
  wlen:w.length=p.n
  ilt:∀ i,gN inn i < big
  olt:∀ i,gN out i < big
  nodup:q.Nodup
  qw:∀ i,i∈q↔w[i]?=some true
  sndI:∀ i k,i < p.n→k < 64→p.marked (gN inn i) k=true→Mk p k false i
  sndO:∀ i k,i < p.n→k < 64→p.marked (gN out i) k=true→Mk p k true i
  ok:∀ i,i < p.n→i ∉ q→i≠a→gN inn i=p.xv out i∧gN out i=p.thru i (p.xv out i)
  mono:∀ i k,i < p.n→k < 64→p.marked (gN out i) k=true→p.marked (p.thru i (p.xv out i)) k=true

theorem qMu:∀ {n:Nat} {q:List Nat},q.Nodup→(∀ i∈q,i < n)→q.length≤n
  | 0,q,_,hl=>by
    cases q with
    | nil=>simp
    | cons a q=>exact absurd (hl a (by simp)) (by omega)
  | n+1,q,h,hl=>by
    by_cases hn:n∈q
    . have h1:=qMu (n:=n) (h.erase n) fun i hi=>by
        have:=(List.Nodup.mem_erase_iff h).1 hi;have:=hl i this.2;omega
      rw [List.length_erase_of_mem hn] at h1; omega
    . have h1:=qMu (n:=n) h fun i hi=>by
        have:=hl i hi;have:i≠n:=fun e=>hn (e ▸ hi)
        omega
      omega
def pushL (t:Nat×List Nat×List Bool) (l:List Int):List Nat×List Bool:=l.foldl (fun s x=>if s.2[x.toNat]?=some true then s else (s.1++[x.toNat],s.2.set x.toNat true)) t.2
def qGi (q:List Nat) (w:List Bool) (l:List Int):List Nat×List Bool:=pushL (0,q,w) l
theorem pushes_nil:qGi q w []=(q,w):=rfl
theorem pushes_snoc {l:List Int} {x:Int}:qGi q w (l++[x])=if (qGi q w l).2[x.toNat]?=some true then qGi q w l else ((qGi q w l).1++[x.toNat],(qGi q w l).2.set x.toNat true):=by
  unfold qGi pushL;rw [List.foldl_append]; rfl
structure PInvW (n:Nat) (q:List Nat) (w:List Bool):Prop where
  wlen:w.length=n
  nodup:q.Nodup
  qw:∀ i,i∈q↔w[i]?=some true
theorem PInvW.qlen {n:Nat} (v:PInvW n q w):q.length≤n:=qMu v.nodup fun i hi=>by
  have:=(List.getElem?_eq_some_iff.1 ((v.qw i).1 hi)).1
  rwa [v.wlen] at this
theorem pushes_inv {n:Nat} (v:PInvW n q w) (l:List Int) (hl:∀ x∈l,x.toNat < n):PInvW n (qGi q w l).1 (qGi q w l).2∧(∀ i,i∈(qGi q w l).1↔i∈q∨∃ x∈l,i=x.toNat):=by
  obtain ⟨m,hm⟩:∃ m,m=l.length:=⟨_,rfl⟩
  induction m generalizing l with
  | zero =>
    obtain rfl:l=[]:=List.length_eq_zero_iff.1 hm.symm;exact ⟨v,fun i=>by simp [pushes_nil]⟩
  | succ m ih =>
    obtain ⟨l',x,rfl⟩:∃ l' x,l=l'++[x]:=by
      refine ⟨l.dropLast,l.getLast (by intro e; rw [e] at hm; simp at hm),(List.dropLast_concat_getLast _).symm⟩
    have hx:=hl x (by simp)
    obtain ⟨i1,i2⟩:=ih l' (fun y hy=>hl y (by simp [hy])) (by simp at hm; omega)
    rw [pushes_snoc]
    split
    . rename_i h
      refine ⟨i1,fun i=>?_⟩
      rw [i2];have hxq:=(i1.qw x.toNat).2 h;rw [i2] at hxq;constructor
      . rintro (h | ⟨y,h1,h2⟩)
        . exact .inl h
        . exact .inr ⟨y,by simp [h1],h2⟩
      . rintro (h | ⟨y,h1,h2⟩)
        . exact .inl h
        . rcases List.mem_append.1 h1 with h1 | h1
          . exact .inr ⟨y,h1,h2⟩
          . rw [List.mem_singleton.1 h1] at h2; rw [h2]; exact hxq
    . rename_i h
      have hxq:x.toNat ∉ (qGi q w l').1:=fun e=>h ((i1.qw _).1 e)
      refine ⟨⟨by simp [i1.wlen],?_,fun i=>?_⟩,fun i=>?_⟩
      . rw [List.nodup_append]
        exact ⟨i1.nodup,by simp,fun a ha b hb=>by rw [List.mem_singleton.1 hb]; exact fun e=>hxq (e ▸ ha)⟩
      . simp only [List.mem_append,List.mem_singleton,List.getElem?_set]
        by_cases e:x.toNat=i
        . rw [if_pos e,if_pos (by rw [i1.wlen]; exact hx)]; simp [e]
        . rw [if_neg e,← i1.qw i]
          have e':¬ i=x.toNat:=fun h=>e h.symm
          simp [e']
      . simp only [List.mem_append,List.mem_singleton,i2]
        constructor
        . rintro ((h | ⟨y,h1,h2⟩) | h)
          . exact .inl h
          . exact .inr ⟨y,by simp [h1],h2⟩
          . exact .inr ⟨x,by simp,h⟩
        . rintro (h | ⟨y,h1 | h1,h2⟩)
          . exact .inl (.inl h)
          . exact .inl (.inr ⟨y,h1,h2⟩)
          . rw [h1] at h2; exact .inr h2
theorem nexts_to_lt {a:Nat} (ha:a < p.n):∀ x∈qDr p.tos a,x.toNat < p.n:=fun x hx=>by
  obtain ⟨j,rfl,hj⟩:=to_mem ha hx
  simpa using hj
def wt (p:Prob) (x:Nat):Nat:=if p.must then x else big - 1 - x
theorem FOne.same {a:Nat} (v:FOne p inn out q w a) (ha:a < p.n) (ok:p.Ok) (he:p.thru a (p.xv out a)=gN out a):FInv p (inn.set a (p.xv out a)) out q w:=by
  have hx:p.xv out a < big:=qRy ok v.olt;have hin:a < inn.length:=by rw [v.ilen]; exact ha
  refine ⟨by simp [v.ilen],v.olen,v.wlen,fun i=>?_,v.olt,v.nodup,v.qw,fun i k hi hk h=>?_,v.sndO,fun i h1 h2=>?_,v.mono⟩
  . rw [qHr hin]; split
    . exact hx
    . exact v.ilt i
  . rw [qHr hin] at h
    split at h
    . rename_i e; subst e
      rcases (qOv hk).1 h with ⟨h1,h2⟩ | ⟨j,h1,h2⟩
      . exact .start hi h1 h2
      . obtain ⟨j,rfl,hj⟩:=qMc hi h1
        exact .flow hi h1 (v.sndO j k hj hk (by simpa using h2))
    . exact v.sndI i k hi hk h
  . rw [qHr hin]
    split
    . rename_i e; subst e; exact ⟨rfl,he.symm⟩
    . rename_i e; exact v.ok i h1 h2 e
theorem FOne.new {a:Nat} (v:FOne p inn out q w a) (ha:a < p.n) (ok:p.Ok) :
    FInv p (inn.set a (p.xv out a)) (out.set a (p.thru a (p.xv out a))) (qGi q w (qDr p.tos a)).1 (qGi q w (qDr p.tos a)).2:=by
  have hx:p.xv out a < big:=qRy ok v.olt;have hy:=thru_lt ok (i:=a) hx;have hin:a < inn.length:=by rw [v.ilen]; exact ha
  have hon:a < out.length:=by rw [v.olen]; exact ha
  obtain ⟨P,hPm⟩:=pushes_inv (n:=p.n) ⟨v.wlen,v.nodup,v.qw⟩ (qDr p.tos a) (nexts_to_lt ha);obtain ⟨y,hyd⟩:∃ y,y=p.thru a (p.xv out a):=⟨_,rfl⟩;have hmo:∀ j k,j < p.n→k < 64→p.marked (gN out j) k=true→p.marked (gN (out.set a y) j) k=true:=by
    intro j k hj hk h;rw [qHr hon]
    split
    . rename_i e; subst e; rw [hyd]; exact v.mono _ k hj hk h
    . exact h
  have hxm:∀ i k,i < p.n→k < 64→p.marked (p.xv out i) k=true→p.marked (p.xv (out.set a y) i) k=true:=by
    intro i k hi hk h;rcases (qOv hk).1 h with h | ⟨j,h1,h2⟩
    . exact (qOv hk).2 (.inl h)
    . obtain ⟨j,rfl,hj⟩:=qMc hi h1
      exact (qOv hk).2 (.inr ⟨j,h1,by simpa using hmo j k hj hk (by simpa using h2)⟩)
  have hyb:∀ i,gN (out.set a y) i < big:=fun i=>by
    rw [qHr hon]; split
    . rw [hyd]; exact hy
    . exact v.olt i
  have hsnd:∀ k,k < 64→p.marked (p.xv out a) k=true→Mk p k false a:=by
    intro k hk h;rcases (qOv hk).1 h with ⟨h1,h2⟩ | ⟨j,h1,h2⟩
    . exact .start ha h1 h2
    . obtain ⟨j,rfl,hj⟩:=qMc ha h1
      exact .flow ha h1 (v.sndO j k hj hk (by simpa using h2))
  have hxs:∀ i,i < p.n→i ∉ (qGi q w (qDr p.tos a)).1→p.xv (out.set a y) i=p.xv out i:=by
    intro i hi hq;refine mk_ext (p:=p) (qRy ok hyb) (qRy ok v.olt) fun k hk=>?_
    have hna:∀ j:Nat,(j:Int)∈qDr p.froms i→j≠a:=by
      rintro j h1 rfl;exact hq ((hPm i).2 (.inr ⟨(i:Int),(from_to ha hi).1 h1,by simp⟩))
    rw [Bool.eq_iff_iff,qOv hk,qOv hk];refine or_congr Iff.rfl ⟨?_,?_⟩ <;>
    . rintro ⟨j,h1,h2⟩
      obtain ⟨j,rfl,hj⟩:=qMc hi h1;refine ⟨j,h1,?_⟩;have:=hna j h1;simp only [Int.toNat_natCast,qHr hon,if_neg this] at h2 ⊢;exact h2
  rw [← hyd];refine ⟨by simp [v.ilen],by simp [v.olen],P.wlen,fun i=>?_,hyb,P.nodup,P.qw,fun i k hi hk h=>?_,fun i k hi hk h=>?_,fun i h1 h2=>?_,fun i k hi hk h=>?_⟩
  . rw [qHr hin]; split
    . exact hx
    . exact v.ilt i
  . rw [qHr hin] at h
    split at h
    . rename_i e; subst e; exact hsnd k hk h
    . exact v.sndI i k hi hk h
  . rw [qHr hon] at h
    split at h
    . rename_i e; subst e
      rw [hyd,qOw,Bool.or_eq_true,Bool.and_eq_true] at h;rcases h with h | ⟨h1,h2⟩
      . exact .gen hi h
      . exact .pass (hsnd k hk h2) h1
    . exact v.sndO i k hi hk h
  . rw [hxs i h1 h2,qHr hin,qHr hon]
    split
    . rename_i e; subst e; exact ⟨rfl,hyd⟩
    . rename_i e; exact v.ok i h1 (fun h=>h2 ((hPm i).2 (.inl h))) e
  . have key:p.marked (p.thru i (p.xv out i)) k=true:=by
      rw [qHr hon] at h
      split at h
      . rename_i e; subst e; rw [← hyd]; exact h
      . exact v.mono i k hi hk h
    rw [qOw,Bool.or_eq_true,Bool.and_eq_true] at key ⊢;rcases key with h | ⟨h1,h2⟩
    . exact .inl h
    . exact .inr ⟨h1,hxm i k hi hk h2⟩
theorem FInv.init (ok:p.Ok):FInv p (List.replicate p.n p.all) (List.replicate p.n p.all) (List.range p.n) (List.replicate p.n true):=by
  have hg:∀ i,i < p.n→gN (List.replicate p.n p.all) i=p.all:=fun i hi=>by simp [gN,List.getElem?_replicate,hi]
  have hlt:∀ i,gN (List.replicate p.n p.all) i < big:=fun i=>by
    by_cases hi:i < p.n
    . rw [hg i hi]; exact all_lt'
    . simp [gN,List.getElem?_replicate,hi]
  refine ⟨by simp,by simp,by simp,hlt,hlt,List.nodup_range,fun i=>?_,fun i k hi hk h=>?_,fun i k hi hk h=>?_,fun i h1 h2=>?_,fun i k hi hk h=>?_⟩
  . rw [List.mem_range,List.getElem?_replicate]
    split
    . simp [*]
    . simp [*]
  . rw [hg i hi,qQu hk] at h; cases h
  . rw [hg i hi,qQu hk] at h; cases h
  . exact absurd (List.mem_range.2 h1) h2
  . rw [hg i hi,qQu hk] at h; cases h
theorem FInv.end (ok:p.Ok) (v:FInv p inn out [] w):Solved p inn out:=by
  have key:∀ k,k < 64→∀ b i,Mk p k b i→p.marked (gN (if b then out else inn) i) k=true:=by
    intro k hk b i h
    induction h with
    | start hi he hs =>
      simp only [Bool.false_eq_true,if_false];rw [(v.ok _ hi (by simp)).1]
      exact (qOv hk).2 (.inl ⟨he,hs⟩)
    | flow hi hj h ih =>
      simp only [Bool.false_eq_true,if_false,if_true] at ih ⊢;rw [(v.ok _ hi (by simp)).1]
      exact (qOv hk).2 (.inr ⟨_,hj,by simpa using ih⟩)
    | gen hi hc =>
      simp only [if_true];rw [(v.ok _ hi (by simp)).2,qOw,hc]; rfl
    | pass h hp ih =>
      simp only [Bool.false_eq_true,if_false,if_true] at ih ⊢;rw [(v.ok _ h.lt (by simp)).2,qOw,hp,← (v.ok _ h.lt (by simp)).1,ih]; simp
  exact ⟨v.ilen,v.olen,v.ilt,v.olt,fun i k hi hk=>⟨v.sndI i k hi hk,fun h=>by simpa using key k hk _ _ h⟩,fun i k hi hk=>⟨v.sndO i k hi hk,fun h=>by simpa using key k hk _ _ h⟩⟩
end
end Pm

/- What holds where: the small functions, walked.
   No condition: plain lemmas. -/

namespace Pm
set_option linter.unusedSimpArgs false
set_option linter.unusedVariables false
open Go Am
open Go.Proofs.Tryz (prog)

section
variable {h : Heap} {K : Value → Heap → Prop}
end
end Pm
/- What holds where: rows of numbers, copied, and with some left out.
   No condition: plain lemmas. -/
namespace Pm
set_option linter.unusedSimpArgs false
set_option linter.unusedVariables false
open Go Am
open Go.Proofs.Tryz (prog)

def Rd (h:Heap) (s:Value) (l:List Int):Prop:=pLen s=some (vI l.length)∧∀ (i:Nat) (x:Int),l[i]?=some x→∃ a,qGa 1 s (vI i)=some a∧pLd h a=some (vI x)
section
variable {h : Heap} {K : Value → Heap → Prop}
theorem Clone1_call {l:List Int} (hl:l.length≤lim) (k0:l=[]→K nilS h) (k1:K (.slice (some ⟨h.length,0,none⟩) l.length 1) (h++[bxQ (l.map vI) 1])):qBl prog 80 [vL vI l] h K:=by
  refine call_Clone1 (by simp) ?_
  simp [qAk,qAn,qAl,qAh,qAg,qAe,qAb,qAd,qAa,qAi,qAf,qAc,qAs,qAu,resV,retV,qAm,qAj,qAr,qAq,qAp,qAo,qQl];refine pOps_nilT (by simp) fun b hb=>?_
  cases b with
  | true =>
    have e:l=[]:=by simpa using hb
    subst e;simp [qAk,qAn,qAl,qAh,qAg,qAe,qAb,qAd,qAa,qAi,qAf,qAc,qAs,qAu,resV,retV,qAm,qAj,qAr,qAq,qAp,qAo];exact k0 rfl
  | false =>
    simp [qAk,qAn,qAl,qAh,qAg,qAe,qAb,qAd,qAa,qAi,qAf,qAc,qAs,qAu,resV,retV,qAm,qAj,qAr,qAq,qAp,qAo];rw [show (h:Heap).length=h.length+0 from rfl,push_at (r:=⟨[],1,0,true⟩) (n:=l.length) (new:=l.map vI) rfl (by simp) rfl rfl (by simp) (by omega)]
    simp [qAk,qAn,qAl,qAh,qAg,qAe,qAb,qAd,qAa,qAi,qAf,qAc,qAs,qAu,resV,retV,qAm,qAj,qAr,qAq,qAp,qAo]
    simpa [bxQ] using k1
def fstI (g:Int→Bool) (l:List Int):Int:=match l.findIdx? g with | some i=>i | none=>-1
theorem qJe {F:FuncId} {first caps:Array Value} {s:Value} {g:Int→Bool} {l:List Int} (hc:qCg prog F=true) (hl:l.length≤lim) (hs:Rd h s l) (hf:∀ (x:Int) (K:Value→Heap→Prop),x∈l→K (vB (g x)) h→qBl prog F (first.toList++(vI x :: caps.toList)) h K) (hk:K (vI (fstI g l)) h) :
    qBl prog 20 [s,.func (.func F) first caps] h K:=by
  refine call_IdxF1 (by simp) ?_
  simp [qAk,qAn,qAl,qAh,qAg,qAe,qAb,qAd,qAa,qAi,qAf,qAc,qAs,qAu,resV,retV,qAm,qAj,qAr,qAq,qAp,qAo,qQg,hs.1];refine qDh (σ:=Nat) (fun k=>[(0,s),(1,.func (.func F) first caps),(7,vI l.length),(8,vI k)]) (fun _=>h) (fun k=>k≤l.length∧∀ j y,j < k→l[j]?=some y→g y=false) (fun k=>l.length - k) 0 (by simp) rfl ⟨by omega,by omega⟩ ?_
  rintro k fr ⟨hk1,hne⟩
  by_cases hlt:k < l.length
  . obtain ⟨k1,hk1,wk⟩:=qBr (show k < lim by omega)
    obtain ⟨y,hy⟩:∃ y,l[k]?=some y:=⟨_,List.getElem?_eq_getElem hlt⟩;have hkf:(k:Int) < l.length:=by omega
    obtain ⟨a,ha1,ha2⟩:=hs.2 k y hy;simp [qAk,qAn,qAl,qAh,qAg,qAe,qAb,qAd,qAa,qAi,qAf,qAc,qAs,qAu,resV,retV,qAm,qAj,qAr,qAq,qAp,qAo,hkf,ha1,ha2];rw [qDn (f:=F) (first:=first) (caps:=caps) (by simp) hc]
    simp [qAk,qAn,qAl,qAh,qAg,qAe,qAb,qAd,qAa,qAi,qAf,qAc,qAs,qAu,resV,retV,qAm,qAj,qAr,qAq,qAp,qAo];refine hf y _ (List.mem_of_getElem? hy) ?_;cases hg:g y with
    | true =>
      have e:l.findIdx? g=some k:=by
        rw [List.findIdx?_eq_some_iff_getElem];refine ⟨hlt,by rw [(List.getElem?_eq_some_iff.1 hy).2]; exact hg,fun j hj=>?_⟩
        rw [hne j (l[j]'(by omega)) hj (List.getElem?_eq_getElem _)]; simp
      simp [qAk,qAn,qAl,qAh,qAg,qAe,qAb,qAd,qAa,qAi,qAf,qAc,qAs,qAu,resV,retV,qAm,qAj,qAr,qAq,qAp,qAo,callK_def]
      simpa [fstI,e] using hk
    | false =>
      simp [qAk,qAn,qAl,qAh,qAg,qAe,qAb,qAd,qAa,qAi,qAf,qAc,qAs,qAu,resV,retV,qAm,qAj,qAr,qAq,qAp,qAo,callK_def,wk];refine .go k1 (by omega) (by simp) rfl ⟨by omega,fun j y' hj hy'=>?_⟩
      by_cases hjk:j=k
      . subst hjk; rw [hy] at hy'; cases hy'; exact hg
      . exact hne j y' (by omega) hy'
  . have e:l.findIdx? g=none:=by
      rw [List.findIdx?_eq_none_iff];intro x hm;obtain ⟨j,hj⟩:=List.mem_iff_getElem?.1 hm;exact hne j x (by have:=(List.getElem?_eq_some_iff.1 hj).1; omega) hj
    have hkf:¬ (k:Int) < l.length:=by omega
    simp [qAk,qAn,qAl,qAh,qAg,qAe,qAb,qAd,qAa,qAi,qAf,qAc,qAs,qAu,resV,retV,qAm,qAj,qAr,qAq,qAp,qAo,hkf]
    simpa [fstI,e] using hk
end
end Pm
/- What holds where: a row of numbers, with some left out.
   No condition: plain lemmas. -/
namespace Pm
set_option linter.unusedSimpArgs false
set_option linter.unusedVariables false
open Go Am
open Go.Proofs.Tryz (prog)

theorem qRf {α:Type} {f:α→Value} (x:α):∀ n:Nat,rep n [f x]=(List.replicate n x).map f
  | 0=>rfl
  | n+1=>by simp [rep,qRf x n,List.replicate_succ]
theorem set_same {α:Type} {l:List α} {j:Nat} {a:α} (h:l[j]?=some a):l.set j a=l:=by
  apply List.ext_getElem?;intro k;rw [List.getElem?_set]
  split
  . rename_i e; subst e
    rw [if_pos (List.getElem?_eq_some_iff.1 h).1,h]
  . rfl
structure Left (g:Int→Bool) (l l':List Int) (i j:Nat):Prop where
  ij:i≤j
  jn:j≤l.length
  len:l'.length=l.length
  tk:l'.take i=(l.take j).filter fun x=>!g x
  dr:∀ k,j≤k→l'[k]?=l[k]?
section
variable {h : Heap} {K : Value → Heap → Prop} {g : Int → Bool} {l l' : List Int} {i j : Nat}
theorem Left.start {k:Nat} (hk:l.findIdx? g=some k):Left g l l k (k+1):=by
  obtain ⟨h1,h2,h3⟩:=List.findIdx?_eq_some_iff_getElem.1 hk;refine ⟨by omega,by omega,rfl,?_,fun _ _=>rfl⟩
  rw [← List.take_append_getElem h1,List.filter_append];have e1:(l.take k).filter (fun x=>!g x)=l.take k:=by
    rw [List.filter_eq_self];intro x hx;obtain ⟨a,ha,hb⟩:=List.mem_take_iff_getElem.1 hx;have:=h3 a (by omega)
    rw [hb] at this
    simpa using this
  rw [e1];simp [h2]
theorem Left.skip (v:Left g l l' i j) {x:Int} (hx:l[j]?=some x) (hg:g x=true):Left g l l' i (j+1):=by
  obtain ⟨h1,h2⟩:=List.getElem?_eq_some_iff.1 hx;refine ⟨by have:=v.ij; omega,by omega,v.len,?_,fun k hk=>v.dr k (by omega)⟩
  rw [v.tk,← List.take_append_getElem h1,List.filter_append,h2];simp [hg]
theorem Left.keep (v:Left g l l' i j) {x:Int} (hx:l[j]?=some x) (hg:g x=false):Left g l (l'.set i x) (i+1) (j+1):=by
  obtain ⟨h1,h2⟩:=List.getElem?_eq_some_iff.1 hx;have hij:=v.ij;have hl:=v.len;refine ⟨by omega,by omega,by simp [hl],?_,fun k hk=>?_⟩
  . rw [← List.take_append_getElem h1,List.filter_append,h2,← v.tk,← List.take_append_getElem (by simp; omega),List.take_set,List.getElem_set_self]
    rw [List.set_eq_of_length_le (by simp; omega)]
    simp [hg]
  . rw [List.getElem?_set,if_neg (by omega)]; exact v.dr k (by omega)
theorem Left.le (v:Left g l l' i j):i≤l.length:=Nat.le_trans v.ij v.jn
theorem rd_row {L:List Ob} {j ver:Nat} (hj:L[j]?=some (bxQ (l.map vI) ver)):Rd (h++L) (.slice (some ⟨h.length+j,0,none⟩) l.length ver) l:=by
  refine ⟨rfl,fun i x hx=>⟨.pointer (some ⟨h.length+j,i,some ver⟩),?_,?_⟩⟩
  . have:=(List.getElem?_eq_some_iff.1 hx).1
    simp [qGa,qDx,qGf,this]
  . simp [pLd,qEc,ldV,cell_at,hj,qQs,hx]
set_option maxHeartbeats 1000000 in
theorem DelF1_call {L:List Ob} {ver:Nat} {F:FuncId} {first caps:Array Value} (hc:qCg prog F=true) (hl:l.length < lim) (hj:L[j]?=some (bxQ (l.map vI) ver))
    (hf:∀ (l':List Int) (x:Int) (K:Value→Heap→Prop),x∈l→K (vB (g x)) (h++L.set j (bxQ (l'.map vI) ver))→qBl prog F (first.toList++(vI x :: caps.toList)) (h++L.set j (bxQ (l'.map vI) ver)) K)
    (hk:∀ l':List Int,l'.length=l.length→l'.take (l.filter fun x=>!g x).length=(l.filter fun x=>!g x)→K (.slice (some ⟨h.length+j,0,none⟩) (l.filter fun x=>!g x).length ver) (h++L.set j (bxQ (l'.map vI) ver))) :
    qBl prog 79 [.slice (some ⟨h.length+j,0,none⟩) l.length ver,.func (.func F) first caps] (h++L) K:=by
  refine call_DelF1 (by simp) ?_
  simp [qAk,qAn,qAl,qAh,qAg,qAe,qAb,qAd,qAa,qAi,qAf,qAc,qAs,qAu,resV,retV,qAm,qAj,qAr,qAq,qAp,qAo,qQh];have hLj:L.set j (bxQ (l.map vI) ver)=L:=set_same hj;have hjl:j < L.length:=(List.getElem?_eq_some_iff.1 hj).1;refine qJe hc (by omega) (rd_row hj) (fun x K hx hK=>by have:=hf l x K hx; rw [hLj] at this; exact this hK) ?_
  cases hi:l.findIdx? g with
  | none =>
    have e:(l.filter fun x=>!g x)=l:=by
      rw [List.filter_eq_self];intro x hx;simp [List.findIdx?_eq_none_iff.1 hi x hx]
    have:=hk l rfl (by rw [e]; simp)
    rw [hLj,e] at this;simp [qAk,qAn,qAl,qAh,qAg,qAe,qAb,qAd,qAa,qAi,qAf,qAc,qAs,qAu,resV,retV,qAm,qAj,qAr,qAq,qAp,qAo,callK_def,fstI,hi];exact this
  | some k =>
    have hst:=Left.start hi;have hkl:k < l.length:=by have:=hst.jn; omega
    obtain ⟨k1,hk1,wk⟩:=qBr (show k < lim by omega)
    have hn1:¬ (k:Int)=-1:=by omega
    rw [← hk1] at hst;simp [qAk,qAn,qAl,qAh,qAg,qAe,qAb,qAd,qAa,qAi,qAf,qAc,qAs,qAu,resV,retV,qAm,qAj,qAr,qAq,qAp,qAo,callK_def,fstI,hi,hn1,wk];refine qDh (σ:=Nat×Nat×List Int) (fun x=>[(0,.slice (some ⟨h.length+j,0,none⟩) l.length ver),(1,.func (.func F) first caps),(5,vI x.1),(6,vI x.2.1)]) (fun x=>h++L.set j (bxQ (x.2.2.map vI) ver)) (fun x=>Left g l x.2.2 x.1 x.2.1) (fun x=>l.length - x.2.1) (k,k1,l) (by simp) (by simp [hLj]) hst ?_
    rintro ⟨a,b,l'⟩ fr v;simp only at v ⊢;have hl':=v.len;have hab:=v.ij;have hbn:=v.jn;have hgj:(L.set j (bxQ (l'.map vI) ver))[j]?=some (bxQ (l'.map vI) ver):=by simp [hjl]
    by_cases hb:b < l.length
    . obtain ⟨b1,hb1,wb⟩:=qBr (show b < lim by omega)
      obtain ⟨a1,ha1,wa⟩:=qBr (show a < lim by omega)
      obtain ⟨x,hx⟩:∃ x,l[b]?=some x:=⟨_,List.getElem?_eq_getElem hb⟩;have hbf:(b:Int) < l.length:=by omega
      have hx':l'[b]?=some x:=by rw [v.dr b (Nat.le_refl _),hx]
      have hal:a < l.length:=by omega
      obtain ⟨pa,hp1,hp2⟩:=(rd_row (h:=h) hgj).2 b x hx';rw [hl'] at hp1;simp [qAk,qAn,qAl,qAh,qAg,qAe,qAb,qAd,qAa,qAi,qAf,qAc,qAs,qAu,resV,retV,qAm,qAj,qAr,qAq,qAp,qAo,hbf,hp1,hp2];rw [qDn (f:=F) (first:=first) (caps:=caps) (by simp) hc]
      simp [qAk,qAn,qAl,qAh,qAg,qAe,qAb,qAd,qAa,qAi,qAf,qAc,qAs,qAu,resV,retV,qAm,qAj,qAr,qAq,qAp,qAo];refine hf l' x _ (List.mem_of_getElem? hx) ?_;cases hg:g x with
      | true =>
        simp [qAk,qAn,qAl,qAh,qAg,qAe,qAb,qAd,qAa,qAi,qAf,qAc,qAs,qAu,resV,retV,qAm,qAj,qAr,qAq,qAp,qAo,callK_def,wb];exact .go (a,b1,l') (by simp only []; omega) (by simp) rfl (by rw [hb1]; exact v.skip hx hg)
      | false =>
        have haf:(a:Int) < l.length:=by omega
        simp [qAk,qAn,qAl,qAh,qAg,qAe,qAb,qAd,qAa,qAi,qAf,qAc,qAs,qAu,resV,retV,qAm,qAj,qAr,qAq,qAp,qAo,callK_def,wb,wa,qGa,qDx,qGf,hal];rw [eK_optK,storeQ_at (g:=vI) (x:=x) hgj rfl rfl (by omega)]
        simp [qAk,qAn,qAl,qAh,qAg,qAe,qAb,qAd,qAa,qAi,qAf,qAc,qAs,qAu,resV,retV,qAm,qAj,qAr,qAq,qAp,qAo,wa,wb];exact .go (a1,b1,l'.set a x) (by simp only []; omega) (by simp) (by simp [List.map_set]) (by rw [hb1,ha1]; exact v.keep hx hg)
    . have hbl:b=l.length:=by omega
      subst hbl;have htk:=v.tk;rw [List.take_length] at htk;have hal:a≤l.length:=v.le;have hla:(l.filter fun x=>!g x).length=a:=by rw [← htk,List.length_take]; omega
      have e1:((l':List Int).take a++List.replicate (l.length - a) 0).length=l.length:=by simp; omega
      have hfin:=hk (l'.take a++List.replicate (l.length - a) 0) e1 (by rw [hla,List.take_left' (by simp; omega)]; exact htk)
      rw [hla] at hfin;have hcut:=cut_at (ver:=ver) (h:=h) (rs:=L.set j (bxQ (l'.map vI) ver)) (j:=j) (off:=0) (len:=l.length) (e:=1) (lo:=some (.int .i64 (a:Int))) (hi:=none) (a:=a) (b:=l.length) (r:=⟨l'.map vI,1,ver,true⟩) (by rw [hgj]; exact qQs) rfl (by simp) (by simp) hal
      have hcut2:=cut_at (ver:=ver) (h:=h) (rs:=L.set j (bxQ ((l'.take a++List.replicate (l.length - a) 0).map vI) ver)) (j:=j) (off:=0) (len:=l.length) (e:=1) (lo:=none) (hi:=some (.int .i64 (a:Int))) (a:=0) (b:=a) (r:=⟨(l'.take a++List.replicate (l.length - a) 0).map vI,1,ver,true⟩) (by simp [hjl,qQs]) rfl (by simp) (by simp; omega) (by omega)
      have hclr:qIf (h++L.set j (bxQ (l'.map vI) ver)) [.int .i64 0] (.slice (some ⟨h.length+j,a,none⟩) (l.length - a) ver)=some (h++L.set j (bxQ ((l'.take a++List.replicate (l.length - a) 0).map vI) ver)):=by
        simp only [qIf,qMm,hgj,qQs]
        by_cases h0:l.length - a=0
        . rw [if_pos h0,h0,List.take_of_length_le (by omega)]; simp
        . rw [if_neg h0]
          simp only [List.length_map,List.length_singleton,Nat.mul_one,true_and];rw [if_pos (by omega),List.set_append_right _ _ (Nat.le_add_right _ _),Nat.add_sub_cancel_left,List.set_set,qRf (f:=vI) 0,qEv _ _ _ (by simp; omega),over]
          simp only [List.length_map,List.length_replicate];rw [List.drop_eq_nil_of_le (by simp; omega)]
          simp [bxQ]
      obtain ⟨z,hz⟩:∃ z,z=l'.take a++List.replicate (l.length - a) 0:=⟨_,rfl⟩;rw [← hz] at hclr hcut2 hfin;simp [qAk,qAn,qAl,qAh,qAg,qAe,qAb,qAd,qAa,qAi,qAf,qAc,qAs,qAu,resV,retV,qAm,qAj,qAr,qAq,qAp,qAo,qBi,hcut,hclr,hcut2];exact hfin
end
end Pm
/- What holds where: next places that are places.
   No condition: plain lemmas. -/
namespace Pm
set_option linter.unusedSimpArgs false
set_option linter.unusedVariables false
open Go Am
open Go.Proofs.Tryz (prog)

theorem cell_old {h L:Heap} {b off ver:Nat} (hb:b < h.length):(h++L).cell? b off ver=h.cell? b off ver:=by
  simp only [Heap.cell?,Heap.row?,List.getElem?_append_left hb]
theorem AccL.more {α:Type} {f:α→Value} {b b':Nat} {h:Heap} {v:Value} {l:List α} (ha:AccL f b' h v l) (hb:b≤b'):AccL f b h v l:=by
  rcases ha with h1 | ⟨id,ver,h1,h2,h3,h4⟩
  . exact Or.inl h1
  . exact Or.inr ⟨id,ver,h1,Nat.le_trans hb h2,h3,h4⟩
section
variable {h : Heap} {K : Value → Heap → Prop}
theorem DelF1_nil {F:FuncId} {first caps:Array Value} (hc:qCg prog F=true) (hk:K nilS h):qBl prog 79 [nilS,.func (.func F) first caps] h K:=by
  have hr:=qJe (h:=h) (g:=fun _=>false) (l:=[]) (s:=nilS) (first:=first) (caps:=caps) (K:=fun v h'=>v=vI (-1)∧h'=h) hc (by simp) ⟨rfl,fun i x hx=>by simp at hx⟩
  refine call_DelF1 (by simp) ?_
  simp [qAk,qAn,qAl,qAh,qAg,qAe,qAb,qAd,qAa,qAi,qAf,qAc,qAs,qAu,resV,retV,qAm,qAj,qAr,qAq,qAp,qAo,qQh];refine call_IdxF1 (by simp) ?_
  simp [qAk,qAn,qAl,qAh,qAg,qAe,qAb,qAd,qAa,qAi,qAf,qAc,qAs,qAu,resV,retV,qAm,qAj,qAr,qAq,qAp,qAo,qQg];refine qSx 1 ?_;rw [qKt];simp [qAk,qAn,qAl,qAh,qAg,qAe,qAb,qAd,qAa,qAi,qAf,qAc,qAs,qAu,resV,retV,qAm,qAj,qAr,qAq,qAp,qAo,callK_def];exact hk
end
end Pm
/- What holds where: the solver's small methods.
   No condition: plain lemmas. -/
namespace Pm
set_option linter.unusedSimpArgs false
set_option linter.unusedVariables false
open Go Am
open Go.Proofs.Tryz (prog)

abbrev ptr (b:Nat):Value:=.pointer (some ⟨b,0,some 0⟩)
section
variable {h : Heap} {K : Value → Heap → Prop} {p : Prob} {b : Nat}
end

/-! ### The solver's rows -/
def svC (b:Nat) (p:Prob) (qv:Value):List Value :=
  [vL (vL vI) p.succs,vL vU p.gen,vL vU p.kill,vU p.start,vB p.must,vB p.back,vL (vL vI) p.froms,vL (vL vI) p.tos,.slice (some ⟨b+1,0,none⟩) p.n 0,.slice (some ⟨b+2,0,none⟩) p.n 0,qv,.slice (some ⟨b+3,0,none⟩) p.n 0]
def svL (b:Nat) (p:Prob) (a:Ob) (inn out:List Nat) (w:List Bool) (qv:Value) (rest:List Ob):List Ob :=
  a :: bxL vU inn :: bxL vU out :: bxL vB w :: bx (svC b p qv) 12 :: rest
inductive QV (b:Nat) (rest:List Ob):Value→List Nat→Prop
  | nil:QV b rest nilS []
  | row {k ver:Nat} {pre:List Value} {q:List Nat} (hk:rest[k]?=some (bxQ (pre++q.map fun i:Nat=>vI i) ver)):QV b rest (.slice (some ⟨b+(k+5),pre.length,none⟩) q.length ver) q
section
variable {h : Heap} {K : Value → Heap → Prop} {p : Prob} {a : Ob} {inn out q : List Nat} {w : List Bool} {qv : Value} {rest : List Ob}
theorem qFr {L:List Ob} {m n:Nat} {cs:List Value} (hj:L[m]?=some (bx cs 1)) (hl:cs.length=n):qCv (h++L) 1 (.slice (some ⟨h.length+m,0,none⟩) n 0)=some (n,cs):=by
  rw [qAz,qPm,hj,qRe];simp [hl,List.take_of_length_le]
theorem QV.more (v:QV h.length rest qv q) (L:List Ob):QV h.length (rest++L) qv q:=by
  cases v with
  | nil=>exact .nil
  | row hk=>exact .row (by rw [List.getElem?_append_left (List.getElem?_eq_some_iff.1 hk).1]; exact hk)
end
end Pm
/- What holds where: a place is looked at.
   No condition: plain lemmas. -/
namespace Pm
set_option linter.unusedSimpArgs false
set_option linter.unusedVariables false
open Go Am
open Go.Proofs.Tryz (prog)

section
variable {h : Heap} {K : Value → Heap → Prop} {p : Prob} {a : Ob} {inn out q : List Nat} {w : List Bool} {qv : Value} {rest : List Ob}
theorem cell_in {off:Nat}:(h++svL h.length p a inn out w qv rest).cell? (h.length+1) off 0=(inn[off]?).map vU:=by
  rw [qAh]; simp [svL,qBf]
theorem gN_at {l:List Nat} {i:Nat} (hi:i < l.length):l[i]?=some (gN l i):=by simp [gN,List.getElem?_eq_getElem hi]
end
end Pm
/- What holds where: the problem is solved.
   No condition: plain lemmas. -/
namespace Pm
set_option linter.unusedSimpArgs false
set_option linter.unusedVariables false
open Go Am
open Go.Proofs.Tryz (prog)

def cP (p:Prob):List Value:=[vL (vL vI) p.succs,vL vU p.gen,vL vU p.kill,vU p.start,vB p.must,vB p.back]
def vP (p:Prob):Value:=.agg (cP p).toArray
def fill {α:Type} (k n:Nat) (x y:α):List α:=List.replicate k x++List.replicate (n - k) y
section
variable {h : Heap} {K : Value → Heap → Prop} {p : Prob} {a : Ob} {inn out q : List Nat} {w : List Bool} {qv : Value} {rest : List Ob}
end
end Pm
