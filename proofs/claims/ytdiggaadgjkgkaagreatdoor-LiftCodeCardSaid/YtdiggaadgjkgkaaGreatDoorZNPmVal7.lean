/- Numbers that are known: what each small function of the chapter gives.
   No condition: plain lemmas. -/

import Derived.KernelRfl
import Derived.Test.YtdiggaadgjkgkaaGreatDoorZNPmBox
import Derived.Test.YtdiggaadgjkgkaaGreatDoorZNPm5
import Derived.Test.YtdiggaadgjkgkaaGreatDoorProg
import Derived.Test.YtdiggaadgjkgkaaGreatDoorZNPmIr2
import Derived.Test.YtdiggaadgjkgkaaGreatDoorZNPmSuccs
import Derived.Test.YtdiggaadgjkgkaaGreatDoorZNPmSuccsR
namespace Pm
set_option linter.unusedSimpArgs false
set_option linter.unusedVariables false
open Go Am
open Go.Proofs.Tryz (prog)

structure Val where
  kind:Nat
  n:Int
deriving DecidableEq
def cV (v:Val):List Value:=[v8 v.kind,vI v.n]
instance : Flat cV 2 := ⟨fun _ => rfl⟩
structure V4 where
  a:Val
  b:Val
  c:Val
  d:Val
deriving DecidableEq
def c4 (x:V4):List Value:=[v8 x.a.kind,vI x.a.n,v8 x.b.kind,vI x.b.n,v8 x.c.kind,vI x.c.n,v8 x.d.kind,vI x.d.n]
instance : Flat c4 8 := ⟨fun _ => rfl⟩
def vK (x:V4):Value:=.agg #[v8 x.a.kind,vI x.a.n,v8 x.b.kind,vI x.b.n,v8 x.c.kind,vI x.c.n,v8 x.d.kind,vI x.d.n]
def noV:Val:=⟨0,0⟩
def oneV (n:Int):Val:=⟨1,n⟩
def anyV:Val:=⟨2,0⟩
def qHv (v:Val):Val:=if v.kind=0 then noV else if v.kind=1 then v else anyV
def qLq (a b:Val):Val:=if (qHv a).kind=0 then qHv b else if (qHv b).kind=0∨qHv a=qHv b then qHv a else anyV
def V4.at (x:V4) (r:Int):Val:=if r=0 then x.a else if r=1 then x.b else if r=2 then x.c else if r=3 then x.d else noV
def getV (x:V4) (r:Int):Val:=qHv (x.at r)
def qEw (op:Nat) (a b:Val):Val :=
  if a.kind=0∨b.kind=0 then noV else if a.kind=2∨b.kind=2 then anyV
  else if op=3 then oneV (IntKind.i64.wrap (a.n+b.n)) else if op=4 then oneV (IntKind.i64.wrap (a.n - b.n)) else if op=5 then oneV (IntKind.i64.wrap (a.n * b.n))
  else if a.n < b.n then oneV 1 else oneV 0
def qMw (x y:V4):V4:=⟨qLq x.a y.a,qLq x.b y.b,qLq x.c y.c,qLq x.d y.d⟩

section
variable {h : Heap} {K : Value → Heap → Prop}
end
end Pm
/- Numbers that are known: what is known behind an instruction.
   No condition: plain lemmas. -/
namespace Pm
set_option linter.unusedSimpArgs false
set_option linter.unusedVariables false
open Go Am
open Go.Proofs.Tryz (prog)

def qSj (i:Ins) (l:V4):Val :=
  if i.op=1 then oneV i.b else if i.op=2 then getV l i.b else if i.op=3∨i.op=4∨i.op=5∨i.op=6 then qEw i.op (getV l i.b) (getV l i.c) else anyV
def doR (i:Ins) (l:V4) (r:Int):Val:=if hasB (qGg i) r=true then qSj i l else qHv (l.at r)
def doV (i:Ins) (l:V4):V4:=⟨doR i l 0,doR i l 1,doR i l 2,doR i l 3⟩
section
variable {h : Heap} {K : Value → Heap → Prop}
end
end Pm
/- Numbers that are known, by the document: what is known behind an instruction.
   No condition: plain lemmas. -/
namespace Pm
set_option linter.unusedSimpArgs false
set_option linter.unusedVariables false
open Go Am
open Go.Proofs.Tryz (prog)

section
variable {h : Heap} {K : Value → Heap → Prop}
def qLo:V4:=⟨noV,noV,noV,noV⟩
end
end Pm

/- Numbers that are known: which is less; what the least rows are that hold together.
   No condition: plain lemmas. -/

namespace Pm
set_option linter.unusedSimpArgs false
set_option linter.unusedVariables false
open Go Am

def Bare (v:Val):Prop:=qHv v=v
def leV (a b:Val):Prop:=a=noV∨a=b∨b=anyV
theorem qFf (v:Val):Bare (qHv v):=by
  unfold Bare qHv
  by_cases h0:v.kind=0
  . simp [h0,noV]
  . by_cases h1:v.kind=1
    . simp [h0,h1]
    . simp [h0,h1,anyV]
theorem Bare.is {v:Val} (h:Bare v):v=noV∨(∃ n,v=oneV n)∨v=anyV:=by
  unfold Bare qHv at h
  by_cases h0:v.kind=0
  . rw [if_pos h0] at h; exact .inl h.symm
  . by_cases h1:v.kind=1
    . refine .inr (.inl ⟨v.n,?_⟩)
      cases v; simp [oneV] at *; exact h1
    . rw [if_neg h0,if_neg h1] at h; exact .inr (.inr h.symm)
theorem leV.refl (a:Val):leV a a:=.inr (.inl rfl)
theorem leV.trans {a b c:Val} (hb:Bare b) (hc:Bare c) (h1:leV a b) (h2:leV b c):leV a c:=by
  rcases h1 with rfl | rfl | rfl
  . exact .inl rfl
  . exact h2
  . rcases h2 with h | rfl | rfl
    . cases h
    . exact .inr (.inr rfl)
    . exact .inr (.inr rfl)
theorem leV.antisymm {a b:Val} (h1:leV a b) (h2:leV b a):a=b:=by
  rcases h1 with rfl | rfl | rfl
  . rcases h2 with rfl | rfl | h
    . rfl
    . rfl
    . cases h
  . rfl
  . rcases h2 with h | rfl | rfl
    . cases h
    . rfl
    . rfl
theorem leV.kind {a b:Val} (ha:Bare a) (hb:Bare b) (h:leV a b):a.kind≤b.kind∧(a≠b→a.kind < b.kind):=by
  rcases h with rfl | rfl | rfl
  . rcases hb.is with rfl | ⟨n,rfl⟩ | rfl<;>simp [noV,oneV,anyV]
  . simp
  . rcases ha.is with rfl | ⟨n,rfl⟩ | rfl<;>simp [noV,oneV,anyV]
theorem qIw (a b:Val):Bare (qLq a b):=by
  unfold qLq
  split
  . exact qFf _
  . split
    . exact qFf _
    . rfl
theorem qIv {a b:Val} (ha:Bare a):leV a (qLq a b):=by
  unfold qLq;rw [show qHv a=a from ha]
  split
  . rename_i h
    rcases ha.is with rfl | ⟨n,rfl⟩ | rfl
    . exact .inl rfl
    . simp [oneV] at h
    . simp [anyV] at h
  . split
    . exact .refl _
    . exact .inr (.inr rfl)
theorem qHl {a b:Val} (hb:Bare b):leV b (qLq a b):=by
  unfold qLq;rw [show qHv b=b from hb]
  split
  . exact .refl _
  . split
    . rename_i h
      rcases h with h | h
      . rcases hb.is with rfl | ⟨n,rfl⟩ | rfl
        . exact .inl rfl
        . simp [oneV] at h
        . simp [anyV] at h
      . exact .inr (.inl h.symm)
    . exact .inr (.inr rfl)
theorem qHm {a b c:Val} (ha:Bare a) (hb:Bare b) (h1:leV a c) (h2:leV b c):leV (qLq a b) c:=by
  unfold qLq;rw [show qHv a=a from ha,show qHv b=b from hb]
  split
  . exact h2
  . split
    . exact h1
    . rename_i n1 n2
      rcases h1 with rfl | rfl | rfl
      . simp [noV] at n1
      . rcases h2 with rfl | rfl | rfl
        . simp [noV] at n2
        . simp at n2
        . exact .refl _
      . exact .refl _
theorem reckonV_bare {op:Nat} {a b:Val}:Bare (qEw op a b):=by
  unfold qEw
  repeat' split
  all_goals rfl
theorem reckonV_mono {op:Nat} {a a' b b':Val} (ha:Bare a) (ha':Bare a') (hb:Bare b) (hb':Bare b') (h1:leV a a') (h2:leV b b'):leV (qEw op a b) (qEw op a' b'):=by
  rcases h1 with rfl | rfl | rfl
  . exact .inl (by simp [qEw,noV])
  . rcases h2 with rfl | rfl | rfl
    . exact .inl (by simp [qEw,noV])
    . exact .refl _
    . by_cases h:a.kind=0
      . exact .inl (by simp [qEw,h,noV])
      . exact .inr (.inr (by simp [qEw,h,anyV]))
  . rcases h2 with rfl | rfl | rfl
    . exact .inl (by simp [qEw,noV])
    . by_cases h:b.kind=0
      . exact .inl (by simp [qEw,h,noV])
      . exact .inr (.inr (by simp [qEw,h,anyV]))
    . exact .inr (.inr (by simp [qEw,anyV]))
theorem qJd {a b:Val} (h:leV a b):leV (qHv a) (qHv b):=by
  rcases h with rfl | rfl | rfl
  . exact .inl rfl
  . exact .refl _
  . exact .inr (.inr rfl)

/-! ### Of all registers -/
structure Bare4 (x:V4):Prop where
  a:Bare x.a
  b:Bare x.b
  c:Bare x.c
  d:Bare x.d
structure le4 (x y:V4):Prop where
  a:leV x.a y.a
  b:leV x.b y.b
  c:leV x.c y.c
  d:leV x.d y.d
theorem le4.refl (x:V4):le4 x x:=⟨.refl _,.refl _,.refl _,.refl _⟩
theorem le4.trans {x y z:V4} (hy:Bare4 y) (hz:Bare4 z) (h1:le4 x y) (h2:le4 y z):le4 x z:=⟨h1.a.trans hy.a hz.a h2.a,h1.b.trans hy.b hz.b h2.b,h1.c.trans hy.c hz.c h2.c,h1.d.trans hy.d hz.d h2.d⟩
theorem le4.antisymm {x y:V4} (h1:le4 x y) (h2:le4 y x):x=y:=by
  cases x; cases y;have:=h1.a.antisymm h2.a; have:=h1.b.antisymm h2.b; have:=h1.c.antisymm h2.c; have:=h1.d.antisymm h2.d
  simp_all
def ht4 (x:V4):Nat:=x.a.kind+x.b.kind+x.c.kind+x.d.kind
theorem Bare.le {v:Val} (h:Bare v):v.kind≤2:=by rcases h.is with rfl | ⟨n,rfl⟩ | rfl<;>simp [noV,oneV,anyV]
theorem Bare4.ht {x:V4} (h:Bare4 x):ht4 x≤8:=by
  have:=h.a.le; have:=h.b.le; have:=h.c.le; have:=h.d.le;unfold ht4; omega
theorem le4.ht {x y:V4} (hx:Bare4 x) (hy:Bare4 y) (h:le4 x y):ht4 x≤ht4 y∧(x≠y→ht4 x < ht4 y):=by
  have ka:=h.a.kind hx.a hy.a; have kb:=h.b.kind hx.b hy.b; have kc:=h.c.kind hx.c hy.c; have kd:=h.d.kind hx.d hy.d;unfold ht4;refine ⟨by omega,fun hn=>?_⟩
  by_cases ea:x.a=y.a
  . by_cases eb:x.b=y.b
    . by_cases ec:x.c=y.c
      . by_cases ed:x.d=y.d
        . exact absurd (by cases x; cases y; simp_all) hn
        . have:=kd.2 ed; omega
      . have:=kc.2 ec; omega
    . have:=kb.2 eb; omega
  . have:=ka.2 ea; omega
theorem meet4_bare (x y:V4):Bare4 (qMw x y):=⟨qIw _ _,qIw _ _,qIw _ _,qIw _ _⟩
theorem qLa {x y:V4} (hx:Bare4 x):le4 x (qMw x y):=⟨qIv hx.a,qIv hx.b,qIv hx.c,qIv hx.d⟩
theorem qJr {x y:V4} (hy:Bare4 y):le4 y (qMw x y):=⟨qHl hy.a,qHl hy.b,qHl hy.c,qHl hy.d⟩
theorem meet4_least {x y z:V4} (hx:Bare4 x) (hy:Bare4 y) (h1:le4 x z) (h2:le4 y z):le4 (qMw x y) z :=
  ⟨qHm hx.a hy.a h1.a h2.a,qHm hx.b hy.b h1.b h2.b,qHm hx.c hy.c h1.c h2.c,qHm hx.d hy.d h1.d h2.d⟩
theorem qNt:Bare4 qLo:=⟨rfl,rfl,rfl,rfl⟩
def one4:V4:=⟨oneV 0,oneV 0,oneV 0,oneV 0⟩
theorem bare_one4:Bare4 one4:=⟨rfl,rfl,rfl,rfl⟩
theorem zero_le (x:V4):le4 qLo x:=⟨.inl rfl,.inl rfl,.inl rfl,.inl rfl⟩
theorem qQo {x y:V4} (h:le4 x y) (r:Int):leV (x.at r) (y.at r):=by
  unfold V4.at
  repeat' split
  . exact h.a
  . exact h.b
  . exact h.c
  . exact h.d
  . exact .refl _
theorem valOf_bare {i:Ins} {l:V4}:Bare (qSj i l):=by
  unfold qSj
  repeat' split
  . rfl
  . exact qFf _
  . exact reckonV_bare
  . rfl
theorem valOf_mono {i:Ins} {x y:V4} (h:le4 x y):leV (qSj i x) (qSj i y):=by
  unfold qSj
  repeat' split
  . exact .refl _
  . exact qJd (qQo h _)
  . exact reckonV_mono (qFf _) (qFf _) (qFf _) (qFf _) (qJd (qQo h _)) (qJd (qQo h _))
  . exact .refl _
theorem qMe {i:Ins} {l:V4} {r:Int}:Bare (doR i l r):=by
  unfold doR; split
  . exact valOf_bare
  . exact qFf _
theorem qMd {i:Ins} {x y:V4} (h:le4 x y) (r:Int):leV (doR i x r) (doR i y r):=by
  unfold doR; split
  . exact valOf_mono h
  . exact qJd (qQo h _)
theorem qKf {i:Ins} {l:V4}:Bare4 (doV i l):=⟨qMe,qMe,qMe,qMe⟩
theorem doV_mono {i:Ins} {x y:V4} (h:le4 x y):le4 (doV i x) (doV i y):=⟨qMd h _,qMd h _,qMd h _,qMd h _⟩

/-! ### Rows that hold together -/
def Flow (code:List Ins) (F:Nat→V4) (i k:Nat) (x:V4):Prop:=Come (succs code) i∧∃ c l,code[i]?=some c∧(succs code)[i]?=some l∧(k:Int)∈l∧x=doV c (F i)
structure Holds (code:List Ins) (F:Nat→V4):Prop where
  bare:∀ i,Bare4 (F i)
  start:le4 one4 (F 0)
  flow:∀ i k x,k < code.length→Flow code F i k x→le4 x (F k)
def rowF (out:List V4) (i:Nat):V4:=out[i]?.getD qLo
structure Least (code:List Ins) (out:List V4):Prop where
  len:out.length=code.length
  holds:0 < code.length→Holds code (rowF out)
  least:∀ F,Holds code F→∀ i,le4 (rowF out i) (F i)
theorem Least.unique {code:List Ins} {a b:List V4} (ha:Least code a) (hb:Least code b):a=b:=by
  by_cases h0:0 < code.length
  . refine List.ext_getElem (by rw [ha.len,hb.len]) fun i h1 h2=>?_
    have e1:=ha.least _ (hb.holds h0) i;have e2:=hb.least _ (ha.holds h0) i;have e:=e1.antisymm e2
    simpa [rowF,h1,h2] using e
  . have h1:=ha.len; have h2:=hb.len
    rw [List.eq_nil_of_length_eq_zero (l:=a) (by omega),List.eq_nil_of_length_eq_zero (l:=b) (by omega)]
end Pm
/- Numbers that are known: the program's rows; boxes of rows.
   No condition: plain lemmas. -/
namespace Pm
set_option linter.unusedSimpArgs false
set_option linter.unusedVariables false
open Go Am

def bxV (l:List V4):Ob:=bx (l.flatMap c4) 8
def bxL {α:Type} (f:α→Value) (l:List α):Ob:=bx (l.map f) 1
def bxQ (cs:List Value) (ver:Nat):Ob:=.row ⟨cs,1,ver,true⟩
section
variable {α : Type} {f : α → Value} {h : Heap} {rs L : List Ob} {cs new : List Value} {l : List V4} {x y : V4} {r off n ver len : Nat} {a b : Ob}
theorem qBw (x:V4):(c4 x).length=8:=rfl
theorem qCa:Value.agg (c4 x).toArray=vK x:=rfl
theorem qBd:cellsOf (vK x)=some (c4 x):=rfl
theorem qAw {i:Ins}:(vIns i).length=4:=rfl
theorem qAv {i:Ins}:(vIns i).take 4=vIns i:=rfl
theorem qBn:(c4 x).take 8=c4 x:=rfl
theorem qBg {z1 z2 z3 z4 z5 z6 z7 z8:Value}:setAll [z1,z2,z3,z4,z5,z6,z7,z8] 0 (c4 x)=c4 x:=rfl
theorem qBz {g:Bool}:eqAV [0,0,0,0,0,0,0,0] g (vK x) (vK y)=some (.bool (if g then !decide (x=y) else decide (x=y))):=by
  have e:(x=y)↔(x.a.kind:Int)=y.a.kind∧x.a.n=y.a.n∧(x.b.kind:Int)=y.b.kind∧x.b.n=y.b.n∧(x.c.kind:Int)=y.c.kind∧x.c.n=y.c.n∧(x.d.kind:Int)=y.d.kind∧x.d.n=y.d.n:=by
    constructor
    . rintro rfl; simp
    . rintro ⟨h1,h2,h3,h4,h5,h6,h7,h8⟩
      obtain ⟨⟨_,_⟩,⟨_,_⟩,⟨_,_⟩,⟨_,_⟩⟩:=x;obtain ⟨⟨_,_⟩,⟨_,_⟩,⟨_,_⟩,⟨_,_⟩⟩:=y;simp only at h1 h2 h3 h4 h5 h6 h7 h8;subst h2 h4 h6 h8;simp only [V4.mk.injEq,Val.mk.injEq,and_true];omega
  have k:eqCs [0,0,0,0,0,0,0,0] (c4 x) (c4 y)=some (decide (x=y)):=by
    simp only [c4,eqCs_int,eqCs_nil,e]
    by_cases h1:(x.a.kind:Int)=y.a.kind<;>by_cases h2:x.a.n=y.a.n<;>by_cases h3:(x.b.kind:Int)=y.b.kind<;>by_cases h4:x.b.n=y.b.n <;>
      by_cases h5:(x.c.kind:Int)=y.c.kind<;>by_cases h6:x.c.n=y.c.n<;>by_cases h7:(x.d.kind:Int)=y.d.kind<;>by_cases h8:x.d.n=y.d.n<;>simp only [h1,h2,h3,h4,h5,h6,h7,h8,if_true,if_false,and_true,true_and,and_false,false_and,decide_true,decide_false]
  show eqAV _ _ (.agg (c4 x).toArray) (.agg (c4 y).toArray)=_;rw [qPi,k]
  rfl
theorem qBe:qOh (some (bxV l)) (r * 8) 8=(l[r]?).map c4:=by
  unfold bxV;rw [qAf,qDs (e:=8) (fun _=>rfl)]
  by_cases hr:r < l.length
  . rw [if_pos (by omega),flat_seg (e:=8) (fun _=>rfl) l r l[r] (by simp [hr])]
    simp [hr]
  . rw [if_neg (by omega)]
    simp [hr]
theorem qBb:qJy (some (bxV l)) (r * 8) 8 (c4 x)=if r < l.length then some (bxV (l.set r x)) else none:=by
  unfold bxV;rw [qAc,qDs (e:=8) (fun _=>rfl),qBw]
  by_cases hr:r < l.length
  . rw [if_pos ⟨rfl,by omega⟩,if_pos hr,flat_set (e:=8) (fun _=>rfl) l r x hr]
  . rw [if_neg (by omega),if_neg hr]
theorem qBf {l:List α}:qSn (some (bxL f l)) off=(l[off]?).map f:=by unfold bxL; rw [qAi,List.getElem?_map]
theorem qBc {l:List Bool} {b:Bool}:qJy (some (bxL vB l)) off 1 [.bool b]=if off < l.length then some (bxL vB (l.set off b)) else none:=by
  unfold bxL;rw [qAc]
  by_cases hr:off < l.length
  . rw [if_pos ⟨rfl,by simp; omega⟩,if_pos hr]
    simp
  . rw [if_neg (by simp; omega),if_neg hr]
theorem rep_zero4:∀ n:Nat,rep n [.int .u8 0,.int .i64 0,.int .u8 0,.int .i64 0,.int .u8 0,.int .i64 0,.int .u8 0,.int .i64 0]=(List.replicate n qLo).flatMap c4
  | 0=>rfl
  | n+1=>by rw [List.replicate_succ,List.flatMap_cons,← rep_zero4 n]; rfl
theorem rep_false:∀ n:Nat,rep n [.bool false]=(List.replicate n false).map vB
  | 0=>rfl
  | n+1=>by rw [List.replicate_succ,List.map_cons,← rep_false n]; rfl
theorem qBp:bx (rep n [.int .u8 0,.int .i64 0,.int .u8 0,.int .i64 0,.int .u8 0,.int .i64 0,.int .u8 0,.int .i64 0]) 8=bxV (List.replicate n qLo):=by rw [rep_zero4]; rfl
theorem qBo:bx (rep n [.bool false]) 1=bxL vB (List.replicate n false):=by rw [rep_false]; rfl
theorem make_box {n:Nat} {z:List Value} {e:Nat} {k k':IntKind} (hn:n≤lim):qIc h z e (.int k n) (.int k' n)=some (.slice (some ⟨h.length,0,none⟩) n 0,h++[bx (rep n z) e]):=by
  simp only [qIc];rw [if_pos ⟨by omega,Int.le_refl _,by omega⟩]
  simp [qAk]
theorem qCm:(h++(a :: b :: bxQ cs ver :: L)).row? (h.length+2) ver=some ⟨cs,1,ver,true⟩:=by simp [Heap.row?,bxQ]
theorem qBy:(h++(a :: b :: bxQ cs ver :: L)).cell? (h.length+2) off ver=cs[off]?:=by
  simp [Heap.cell?,Heap.row?,bxQ]
theorem qCn:cutV (h++(a :: b :: bxQ cs ver :: L)) 1 (.slice (some ⟨h.length+2,off,none⟩) len ver) (some (.int .i64 1)) none=if 1≤len then some (.slice (some ⟨h.length+2,off+1,none⟩) (len - 1) ver) else none:=by
  simp [cutV,Heap.row?,bxQ,loV,hiV]
theorem qBx {v:Value}:pApp (h++(a :: b :: bxQ cs ver :: L)) 1 (.slice (some ⟨h.length+2,off,none⟩) len ver) v=match qCv (h++(a :: b :: bxQ cs ver :: L)) 1 v with
    | some (n,new)=>if off+len≤cs.length∧len+n≤lim then some (.slice (some ⟨h.length+2,0,none⟩) (len+n) (ver+1),h++(a :: b :: bxQ ((cs.drop off).take len++new) (ver+1) :: L)) else none
    | none=>none:=by
  unfold pApp;cases qCv (h++(a :: b :: bxQ cs ver :: L)) 1 v with
  | none=>rfl
  | some p =>
    obtain ⟨n,new⟩:=p;simp only [qJg];have e:(h++(a :: b :: bxQ cs ver :: L)).row? (h.length+2) ver=some ⟨cs,1,ver,true⟩:=by simp [Heap.row?,bxQ]
    rw [e];simp only [Nat.mul_one,true_and]
    split
    . rw [List.set_append_right _ _ (by omega)]
      simp [bxQ]
    . rfl
theorem qBm {ex:List Ob} {j:Nat}:(ex++L)[ex.length+j]?=L[j]?:=by rw [List.getElem?_append_right (by omega)]; congr 1; omega
theorem qBq {ex:List Ob}:(ex++L)[ex.length]?=L[0]?:=qBm (j:=0)
theorem qBj {ex:List Ob} {j:Nat}:(ex++L).set (ex.length+j) a=ex++L.set j a:=by rw [List.set_append_right _ _ (by omega)]; congr 2; omega
theorem qBk {ex:List Ob}:(ex++L).set ex.length a=ex++L.set 0 a:=qBj (j:=0)
end

/-! ### Sums -/
theorem sum_set {α:Type} (f:α→Nat):∀ (l:List α) (k:Nat) (x y:α),l[k]?=some x→((l.set k y).map f).sum+f x=(l.map f).sum+f y
  | [],_,_,_,h=>by simp at h
  | a :: l,0,x,y,h=>by simp at h; subst h; simp; omega
  | a :: l,k+1,x,y,h=>by
    have:=sum_set f l k x y (by simpa using h)
    simp only [List.set_cons_succ,List.map_cons,List.sum_cons]; omega
theorem sum_le {α:Type} (f:α→Nat) (B:Nat):∀ (l:List α),(∀ x∈l,f x≤B)→(l.map f).sum≤B * l.length
  | [],_=>by simp
  | a :: l,h=>by
    have h1:=sum_le f B l fun x hx=>h x (by simp [hx])
    have h2:=h a (by simp)
    simp [Nat.mul_succ]; omega
end Pm
/- Numbers that are known: the program's rows.
   No condition: plain lemmas. -/
namespace Pm
set_option linter.unusedSimpArgs false
set_option linter.unusedVariables false
open Go Am
open Go.Proofs.Tryz (prog)

def Vis (seen:List Bool) (i:Nat):Prop:=i=0∨seen[i]?=some true
def b2n (b:Bool):Nat:=if b then 1 else 0
def wgt (out:List V4) (seen:List Bool):Nat:=(out.map ht4).sum+(seen.map b2n).sum
structure VInv (code:List Ins) (out:List V4) (seen:List Bool) (q:List Nat) (but:Option Nat):Prop where
  olen:out.length=code.length
  slen:seen.length=code.length
  bare:∀ i,Bare4 (rowF out i)
  qvis:∀ i∈q,i < code.length∧Vis seen i
  come:∀ i,Vis seen i→i < code.length→Come (succs code) i
  start:le4 one4 (rowF out 0)
  least:∀ F,Holds code F→∀ i,le4 (rowF out i) (F i)
  flow:∀ i c l k,Vis seen i→i ∉ q→some i≠but→code[i]?=some c→(succs code)[i]?=some l→(k:Nat) < code.length→(k:Int)∈l→seen[k]?=some true∧le4 (doV c (rowF out i)) (rowF out k)
  qlen:q.length≤wgt out seen+1
def qQp (code:List Ins) (out:List V4) (seen:List Bool) (q:List Nat) (i:Nat) (c:Ins) (l:List Int) (x:V4) (j:Nat):Prop :=
  i∈q∨(x=doV c (rowF out i)∧∀ k:Nat,k < code.length→(k:Int)∈l.take j→seen[k]?=some true∧le4 x (rowF out k))
theorem qGl {out:List V4} {i:Nat} {x:V4} (h:out[i]?=some x):rowF out i=x:=by simp [rowF,h]
theorem rowF_set {out:List V4} {i j:Nat} {x:V4} (hi:i < out.length):rowF (out.set i x) j=if j=i then x else rowF out j:=by
  unfold rowF
  by_cases hj:j=i
  . subst hj; simp [hi]
  . rw [List.getElem?_set_ne (Ne.symm hj),if_neg hj]
theorem succs_mem {code:List Ins} {i:Nat} {l:List Int} (h:(succs code)[i]?=some l):i < code.length:=by
  have:=(List.getElem?_eq_some_iff.1 h).1
  rwa [qBt] at this
theorem VInv.init {code:List Ins} {m:Nat} (hm:code.length=m+1):VInv code (one4 :: List.replicate m qLo) (List.replicate code.length false) [0] none:=by
  have hr:∀ i,rowF (one4 :: List.replicate m qLo) i=if i=0 then one4 else qLo:=by
    intro i;cases i with
    | zero=>rfl
    | succ i =>
      unfold rowF;rw [List.getElem?_cons_succ,List.getElem?_replicate,if_neg (show ¬ i+1=0 by omega)]
      split<;>rfl
  have hv:∀ i,Vis (List.replicate code.length false) i→i=0:=by
    rintro i (h | h)
    . exact h
    . rw [List.getElem?_replicate] at h
      split at h<;>simp at h
  refine ⟨by simp [hm],by simp,?_,?_,?_,?_,?_,?_,by simp⟩
  . intro i; rw [hr]; split
    . exact bare_one4
    . exact qNt
  . intro i hi
    simp at hi; subst hi;exact ⟨by omega,.inl rfl⟩
  . intro i hi _
    rw [hv i hi];exact .start (by rw [qBt]; omega)
  . rw [hr]; exact .refl _
  . intro F hF i
    rw [hr]; split
    . rename_i e; rw [e]; exact hF.start
    . exact zero_le _
  . intro i c l k hi hn
    rw [hv i hi] at hn;simp at hn
theorem VInv.done {code:List Ins} {out:List V4} {seen:List Bool} {i j:Nat} {q:List Nat} {c:Ins} {l:List Int} {x:V4} (v:VInv code out seen q (some i)) (d:qQp code out seen q i c l x j) (hj:l.length≤j) (hc:code[i]?=some c) (hl:(succs code)[i]?=some l) :
    VInv code out seen q none:=by
  refine ⟨v.olen,v.slen,v.bare,v.qvis,v.come,v.start,v.least,?_,v.qlen⟩;intro i' c' l' k hv hn _ hc' hl' hk hkl
  by_cases hi:i'=i
  . subst hi
    rw [hc] at hc'; cases hc';rw [hl] at hl'; cases hl';rcases d with d | ⟨d1,d2⟩
    . exact absurd d hn
    . rw [← d1]
      exact d2 k hk (by rw [List.take_of_length_le hj]; exact hkl)
  . exact v.flow i' c' l' k hv hn (fun e=>hi (Option.some.inj e)) hc' hl' hk hkl
theorem qQp.same {code:List Ins} {out:List V4} {seen:List Bool} {i j k:Nat} {q:List Nat} {c:Ins} {l:List Int} {x o:V4} (v:VInv code out seen q (some i)) (d:qQp code out seen q i c l x j) (hx:Bare4 x) (hk:l[j]?=some (k:Int)) (ho:out[k]?=some o) (hm:qMw o x=o) (hs:seen[k]?=some true) :
    qQp code out seen q i c l x (j+1):=by
  rcases d with d | ⟨d1,d2⟩
  . exact .inl d
  . refine .inr ⟨d1,fun k' hk' hm'=>?_⟩
    rw [List.take_add_one,hk] at hm';simp only [Option.toList_some,List.mem_append,List.mem_singleton] at hm';rcases hm' with hm' | hm'
    . exact d2 k' hk' hm'
    . have:k'=k:=by omega
      subst this;refine ⟨hs,?_⟩;rw [qGl ho,← hm];exact qJr hx
theorem qQp.out {code:List Ins} {out:List V4} {seen:List Bool} {i j:Nat} {q:List Nat} {c:Ins} {l:List Int} {x:V4} {k:Int} (d:qQp code out seen q i c l x j) (hk:l[j]?=some k) (ho:k < 0∨code.length≤k) :
    qQp code out seen q i c l x (j+1):=by
  rcases d with d | ⟨d1,d2⟩
  . exact .inl d
  . refine .inr ⟨d1,fun k' hk' hm'=>?_⟩
    rw [List.take_add_one,hk] at hm';simp only [Option.toList_some,List.mem_append,List.mem_singleton] at hm';rcases hm' with hm' | hm'
    . exact d2 k' hk' hm'
    . omega
theorem seen_set {seen:List Bool} {k i:Nat} (hk:k < seen.length):(seen.set k true)[i]?=if i=k then some true else seen[i]?:=by
  by_cases hi:i=k
  . subst hi; simp [hk]
  . rw [List.getElem?_set_ne (Ne.symm hi),if_neg hi]
theorem VInv.new {code:List Ins} {out:List V4} {seen:List Bool} {i j k:Nat} {q:List Nat} {c:Ins} {l:List Int} {x o:V4} {s:Bool} (v:VInv code out seen q (some i)) (d:qQp code out seen q i c l x j) (hx:Bare4 x) (hk:l[j]?=some (k:Int)) (ho:out[k]?=some o) (hs:seen[k]?=some s)
    (hi:Vis seen i) (hl:(succs code)[i]?=some l) (hc:code[i]?=some c) (hF:∀ F,Holds code F→le4 x (doV c (F i))) (hnew:qMw o x≠o∨s=false) :
    VInv code (out.set k (qMw o x)) (seen.set k true) (q++[k]) (some i)∧qQp code (out.set k (qMw o x)) (seen.set k true) (q++[k]) i c l x (j+1)∧wgt out seen < wgt (out.set k (qMw o x)) (seen.set k true):=by
  have hko:=(List.getElem?_eq_some_iff.1 ho).1;have hks:=(List.getElem?_eq_some_iff.1 hs).1;have hkc:k < code.length:=by rw [← v.olen]; exact hko
  have hob:Bare4 o:=by rw [← qGl ho]; exact v.bare k
  have hic:i < code.length:=succs_mem hl;have hyb:=meet4_bare o x;obtain ⟨y,hy⟩:∃ y,y=qMw o x:=⟨_,rfl⟩;have hoy:le4 o y:=by rw [hy]; exact qLa hob
  have hxy:le4 x y:=by rw [hy]; exact qJr hx
  rw [← hy] at hyb hnew ⊢;have hR:∀ i',rowF (out.set k y) i'=if i'=k then y else rowF out i':=fun i'=>rowF_set hko
  have hS:∀ i',(seen.set k true)[i']?=if i'=k then some true else seen[i']?:=fun i'=>seen_set hks
  have hup:∀ i',le4 (rowF out i') (rowF (out.set k y) i'):=fun i'=>by
    rw [hR]; split
    . rename_i e; rw [e,qGl ho]; exact hoy
    . exact .refl _
  have hb':∀ i',Bare4 (rowF (out.set k y) i'):=fun i'=>by
    rw [hR]; split
    . exact hyb
    . exact v.bare i'
  have hvis:∀ i',Vis (seen.set k true) i'↔Vis seen i'∨i'=k:=fun i'=>by
    unfold Vis; rw [hS]
    by_cases e:i'=k
    . simp [e]
    . simp [e]
  have hw:wgt out seen < wgt (out.set k y) (seen.set k true):=by
    have w1:=sum_set ht4 out k o y ho;have w2:=sum_set b2n seen k s true hs;have w3:=hoy.ht hob hyb;have w4:b2n true=1:=rfl;have w5:b2n s≤1:=by unfold b2n; split<;>omega
    unfold wgt;rcases hnew with hn | hn
    . have:=w3.2 (Ne.symm hn); omega
    . subst hn
      have w6:b2n false=0:=rfl;omega
  refine ⟨⟨by simp [v.olen],by simp [v.slen],hb',?_,?_,v.start.trans (v.bare 0) (hb' 0) (hup 0),?_,?_,?_⟩,?_,hw⟩
  . intro i' hi'
    rw [hvis];rcases List.mem_append.1 hi' with e | e
    . exact ⟨(v.qvis i' e).1,.inl (v.qvis i' e).2⟩
    . simp at e; subst e; exact ⟨hkc,.inr rfl⟩
  . intro i' hi' hlt
    rcases (hvis i').1 hi' with e | e
    . exact v.come i' e hlt
    . rw [e]
      exact .step (v.come i hi hic) hl (List.mem_of_getElem? hk) (by rw [qBt]; exact hkc)
  . intro F hF' i'
    rw [hR]; split
    . rename_i e
      have h1:le4 o (F k):=by rw [← qGl ho]; exact v.least F hF' k
      have h2:le4 x (F k):=(hF F hF').trans qKf (hF'.bare k) (hF'.flow i k _ hkc ⟨v.come i hi hic,c,l,hc,hl,List.mem_of_getElem? hk,rfl⟩);rw [e,hy];exact meet4_least hob hx h1 h2
    . exact v.least F hF' i'
  . intro i' c' l' k' hv hn hb hc' hl' hk' hkl
    simp only [List.mem_append,List.mem_singleton,not_or] at hn;have hv':Vis seen i':=by
      rcases (hvis i').1 hv with e | e
      . exact e
      . exact absurd e hn.2
    have:=v.flow i' c' l' k' hv' hn.1 hb hc' hl' hk' hkl;refine ⟨by rw [hS,this.1]; simp,?_⟩
    rw [hR i',if_neg hn.2];exact this.2.trans (v.bare k') (hb' k') (hup k')
  . have:=v.qlen; simp; omega
  . by_cases hik:i=k
    . exact .inl (by simp [hik])
    . rcases d with d | ⟨d1,d2⟩
      . exact .inl (by simp [d])
      . refine .inr ⟨by rw [hR,if_neg hik]; exact d1,fun k' hk' hm'=>?_⟩
        rw [List.take_add_one,hk] at hm';simp only [Option.toList_some,List.mem_append,List.mem_singleton] at hm';rcases hm' with hm' | hm'
        . have:=d2 k' hk' hm'
          exact ⟨by rw [hS,this.1]; simp,this.2.trans (v.bare k') (hb' k') (hup k')⟩
        . have:k'=k:=by omega
          subst this;exact ⟨by rw [hS]; simp,by rw [hR,if_pos rfl]; exact hxy⟩
theorem VInv.end {code:List Ins} {out:List V4} {seen:List Bool} (h0:0 < code.length) (v:VInv code out seen [] none):Least code out:=by
  have hvis:∀ i,Come (succs code) i→Vis seen i:=by
    intro i hi
    induction hi with
    | start=>exact .inl rfl
    | step hi hl hj hlt ih =>
      rename_i i j l;have hic:=succs_mem hl;exact .inr (v.flow i code[i] l j ih (by simp) (by simp) (by simp [hic]) hl (by rw [qBt] at hlt; exact hlt) hj).1
  refine ⟨v.olen,fun _=>⟨v.bare,v.start,?_⟩,v.least⟩
  rintro i k x hk ⟨hi,c,l,hc,hl,hkl,rfl⟩;exact (v.flow i c l k (hvis i hi) (by simp) (by simp) hc hl hk hkl).2
end Pm

/- Numbers that are known: the program's rows, walked.
   No condition: plain lemmas. -/

namespace Pm
set_option linter.unusedSimpArgs false
set_option linter.unusedVariables false
open Go Am
open Go.Proofs.Tryz (prog)

section
variable {h : Heap} {K : Value → Heap → Prop}
end
end Pm
/- Numbers that are known: the document's rows.
   No condition: plain lemmas. -/
namespace Pm
set_option linter.unusedSimpArgs false
set_option linter.unusedVariables false
open Go Am

structure UB (code:List Ins) (out:List V4) (i:Nat) (c:V4):Prop where
  start:i=0→le4 one4 c
  flow:∀ k x,Flow code (rowF out) k i x→le4 x c
structure RInv (code:List Ins) (out:List V4):Prop where
  olen:out.length=code.length
  bare:∀ i,Bare4 (rowF out i)
  least:∀ F,Holds code F→∀ i,le4 (rowF out i) (F i)
  low:∀ i c,Bare4 c→UB code out i c→le4 (rowF out i) c
def qTn (code:List Ins) (out:List V4) (i:Nat):Prop:=Come (succs code) i→UB code out i (rowF out i)
structure Part (code:List Ins) (out:List V4) (i k j:Nat) (x:V4):Prop where
  bare:Bare4 x
  start:i=0→le4 one4 x
  flow:∀ k' c l,Come (succs code) k'→code[k']?=some c→(succs code)[k']?=some l→(k' < k∧(i:Int)∈l∨k'=k∧(i:Int)∈l.take j)→le4 (doV c (rowF out k')) x
  least:∀ c,Bare4 c→UB code out i c→le4 x c
theorem qMn {n i:Nat}:rowF (List.replicate n qLo) i=qLo:=by
  unfold rowF;rw [List.getElem?_replicate]
  split<;>rfl
theorem RInv.init {code:List Ins}:RInv code (List.replicate code.length qLo) :=
  ⟨by simp,fun i=>by rw [qMn]; exact qNt,fun F hF i=>by rw [qMn]; exact zero_le _,fun i c _ _=>by rw [qMn]; exact zero_le _⟩
theorem RInv.end {code:List Ins} {out:List V4} (v:RInv code out) (h:∀ i,i < code.length→qTn code out i):Least code out:=by
  refine ⟨v.olen,fun hn=>⟨v.bare,(h 0 hn (.start (by rw [qBt]; exact hn))).start rfl,?_⟩,v.least⟩
  intro i k x hk hf;obtain ⟨h1,c,l,h2,h3,h4,h5⟩:=id hf;exact (h k hk (.step h1 h3 h4 (by rw [qBt]; exact hk))).flow i x hf
theorem Part.init {code:List Ins} {out:List V4} {i:Nat}:Part code out i 0 0 (if i=0 then one4 else qLo):=by
  refine ⟨?_,?_,?_,?_⟩
  . split
    . exact bare_one4
    . exact qNt
  . intro h; rw [if_pos h]; exact .refl _
  . rintro k' c l _ _ _ (⟨h,_⟩ | ⟨_,h⟩)
    . omega
    . simp at h
  . intro c _ hc
    split
    . rename_i h; exact hc.start h
    . exact zero_le _
theorem Part.skip {code:List Ins} {out:List V4} {i k j:Nat} {x:V4} {l:List Int} {y:Int} (p:Part code out i k j x) (hl:(succs code)[k]?=some l) (hy:l[j]?=some y) (hn:y≠i):Part code out i k (j+1) x:=by
  refine ⟨p.bare,p.start,?_,p.least⟩;intro k' c l' h1 h2 h3 h4;refine p.flow k' c l' h1 h2 h3 ?_;rcases h4 with h4 | ⟨rfl,h4⟩
  . exact .inl h4
  . rw [hl] at h3; cases h3
    rw [List.take_add_one,hy] at h4;simp only [Option.toList_some,List.mem_append,List.mem_singleton] at h4;rcases h4 with h4 | h4
    . exact .inr ⟨rfl,h4⟩
    . exact absurd h4.symm hn
theorem Part.take {code:List Ins} {out:List V4} {i k j:Nat} {x o:V4} {l:List Int} {c:Ins} (p:Part code out i k j x) (hk:Come (succs code) k) (hc:code[k]?=some c) (hl:(succs code)[k]?=some l) (ho:out[k]?=some o) (hy:l[j]?=some (i:Int)) :
    Part code out i k (j+1) (qMw x (doV c o)):=by
  have hb:=meet4_bare x (doV c o);have hr:=qGl ho;refine ⟨hb,fun h=>(p.start h).trans p.bare hb (qLa p.bare),?_,?_⟩
  . intro k' c' l' h1 h2 h3 h4
    by_cases hkk:k'=k
    . subst hkk
      rw [hc] at h2; cases h2;rw [hr];exact qJr qKf
    . refine (p.flow k' c' l' h1 h2 h3 ?_).trans p.bare hb (qLa p.bare)
      rcases h4 with h4 | h4
      . exact .inl h4
      . exact absurd h4.1 hkk
  . intro d hd hu
    refine meet4_least p.bare qKf (p.least d hd hu) ?_;rw [← hr];exact hu.flow k _ ⟨hk,c,l,hc,hl,List.mem_of_getElem? hy,rfl⟩
theorem Part.next {code:List Ins} {out:List V4} {i k j:Nat} {x:V4} {l:List Int} (p:Part code out i k j x) (hl:(succs code)[k]?=some l) (hj:l.length≤j∨¬ Come (succs code) k):Part code out i (k+1) 0 x:=by
  refine ⟨p.bare,p.start,?_,p.least⟩;intro k' c l' h1 h2 h3 h4;refine p.flow k' c l' h1 h2 h3 ?_;rcases h4 with ⟨h4,h5⟩ | ⟨_,h4⟩
  . by_cases hk:k'=k
    . subst hk
      rw [hl] at h3; cases h3;rcases hj with hj | hj
      . exact .inr ⟨rfl,by rw [List.take_of_length_le hj]; exact h5⟩
      . exact absurd h1 hj
    . exact .inl ⟨by omega,h5⟩
  . simp at h4
theorem Part.ub {code:List Ins} {out:List V4} {i k:Nat} {x:V4} (p:Part code out i k 0 x) (hk:code.length≤k):UB code out i x:=by
  refine ⟨p.start,?_⟩;rintro k' y ⟨h1,c,l,h2,h3,h4,rfl⟩;exact p.flow k' c l h1 h2 h3 (.inl ⟨Nat.lt_of_lt_of_le (List.getElem?_eq_some_iff.1 h2).1 hk,h4⟩)
theorem RInv.set {code:List Ins} {out:List V4} {i k:Nat} {x o:V4} (v:RInv code out) (p:Part code out i k 0 x) (hk:code.length≤k) (ho:out[i]?=some o) (hi:Come (succs code) i) (hx:x≠o) :
    RInv code (out.set i x)∧(out.map ht4).sum < ((out.set i x).map ht4).sum:=by
  have hu:=p.ub hk;have hio:=(List.getElem?_eq_some_iff.1 ho).1;have hic:i < code.length:=by rw [← v.olen]; exact hio
  have hob:Bare4 o:=by rw [← qGl ho]; exact v.bare i
  have hox:le4 o x:=by rw [← qGl ho]; exact v.low i x p.bare hu
  have hR:∀ i',rowF (out.set i x) i'=if i'=i then x else rowF out i':=fun i'=>rowF_set hio
  have hup:∀ i',le4 (rowF out i') (rowF (out.set i x) i'):=fun i'=>by
    rw [hR]; split
    . rename_i e; rw [e,qGl ho]; exact hox
    . exact .refl _
  refine ⟨⟨by simp [v.olen],?_,?_,?_⟩,?_⟩
  . intro i'; rw [hR]; split
    . exact p.bare
    . exact v.bare i'
  . intro F hF i'
    rw [hR]; split
    . rename_i e
      rw [e];refine p.least _ (hF.bare i) ⟨fun h=>by rw [h]; exact hF.start,?_⟩
      rintro k' y ⟨h1,c,l,h2,h3,h4,rfl⟩;exact (doV_mono (v.least F hF k')).trans qKf (hF.bare i) (hF.flow k' i _ hic ⟨h1,c,l,h2,h3,h4,rfl⟩)
    . exact v.least F hF i'
  . intro i' c hc hu'
    have hu2:UB code out i' c:=by
      refine ⟨hu'.start,?_⟩;rintro k' y ⟨h1,d,l,h2,h3,h4,rfl⟩;exact (doV_mono (hup k')).trans qKf hc (hu'.flow k' _ ⟨h1,d,l,h2,h3,h4,rfl⟩)
    rw [hR]; split
    . rename_i e; rw [e] at hu2; exact p.least c hc hu2
    . exact v.low i' c hc hu2
  . have w1:=sum_set ht4 out i o x ho
    have w3:=(hox.ht hob p.bare).2 (Ne.symm hx);omega
theorem RInv.le {code:List Ins} {out:List V4} (v:RInv code out):(out.map ht4).sum≤8 * code.length:=by
  have h1:=sum_le ht4 8 out fun x hx=>by
    obtain ⟨i,hi,rfl⟩:=List.getElem_of_mem hx;have:=v.bare i;rw [qGl (x:=out[i]) (by simp [hi])] at this
    exact this.ht
  rw [v.olen] at h1; exact h1
theorem qTn.of {code:List Ins} {out:List V4} {i k:Nat} {x:V4} (p:Part code out i k 0 x) (hk:code.length≤k) (h:¬ Come (succs code) i∨out[i]?=some x):qTn code out i:=by
  intro hi;rcases h with h | h
  . exact absurd hi h
  . rw [qGl h]; exact p.ub hk
end Pm
/- Numbers that are known: the document's rows, walked.
   No condition: plain lemmas. -/
namespace Pm
set_option linter.unusedSimpArgs false
set_option linter.unusedVariables false
open Go Am
open Go.Proofs.Tryz (prog)

section
variable {h : Heap} {K : Value → Heap → Prop}
end
end Pm
