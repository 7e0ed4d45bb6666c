/- What is known is not reckoned: the law, without the program.
   No condition: plain lemmas. -/

import Derived.Test.YtmdnkninbkcmkaaZVPmEdit
import Derived.Test.YtmdnkninbkcmkaaZVPmVal7
namespace Pm
set_option linter.unusedSimpArgs false
set_option linter.unusedVariables false
open Go Am

def qKg (i:Ins) (l:V4):Ins :=
  if 0≤i.a∧i.a < 4 then
    if (2≤i.op∧i.op≤6)∧((doV i l).at i.a).kind=1 then ⟨1,i.a,((doV i l).at i.a).n,0⟩
    else if i.op=11∧(l.at i.a).kind=1 then (if (l.at i.a).n=0 then ⟨10,i.b,0,0⟩ else nopI) else i
  else i
theorem foldIns_else {i:Ins} {l:V4} (h1:¬ (2≤i.op∧i.op≤6)) (h2:i.op≠11):qKg i l=i:=by
  unfold qKg
  split
  . rw [if_neg (fun h=>h1 h.1),if_neg (fun h=>h2 h.1)]
  . rfl
theorem foldIns_op {i:Ins} {l:V4} (h:i.op≤255):(qKg i l).op≤255:=by
  unfold qKg
  split
  . split
    . show (1:Nat)≤255; omega
    . split
      . split
        . show (10:Nat)≤255; omega
        . show (0:Nat)≤255; omega
      . exact h
  . exact h
structure FoldA (code:List Ins) (v:List V4) (o1:List Ins):Prop where
  len:o1.length=code.length
  come:∀ i x,code[i]?=some x→Come (succs code) i→o1[i]?=some (qKg x (rowF v i))
  away:∀ i x,code[i]?=some x→¬ Come (succs code) i→o1[i]?=some x
theorem FoldA.unique {code a b:List Ins} {v:List V4} (ha:FoldA code v a) (hb:FoldA code v b):a=b:=by
  apply List.ext_getElem?;intro i
  by_cases hi:i < code.length
  . have hc:code[i]?=some code[i]:=List.getElem?_eq_getElem hi
    rcases Classical.em (Come (succs code) i) with h | h
    . rw [ha.come i _ hc h,hb.come i _ hc h]
    . rw [ha.away i _ hc h,hb.away i _ hc h]
  . rw [List.getElem?_eq_none (by rw [ha.len]; omega),List.getElem?_eq_none (by rw [hb.len]; omega)]
def qMv (x:Ins) (s:Nat):Ins:=if x.op≤6∧hasB s x.a=false then nopI else x
structure FoldB (o1:List Ins) (b:List Nat) (out:List Ins):Prop where
  len:out.length=o1.length
  each:∀ i x,o1[i]?=some x→out[i]?=some (qMv x (gN b i))
theorem FoldB.unique {o1 a b:List Ins} {s:List Nat} (ha:FoldB o1 s a) (hb:FoldB o1 s b):a=b:=by
  apply List.ext_getElem?;intro i
  by_cases hi:i < o1.length
  . have hc:o1[i]?=some o1[i]:=List.getElem?_eq_getElem hi
    rw [ha.each i _ hc,hb.each i _ hc]
  . rw [List.getElem?_eq_none (by rw [ha.len]; omega),List.getElem?_eq_none (by rw [hb.len]; omega)]
def qIn (code out:List Ins):Prop:=∃ v o1 b,Least code v∧FoldA code v o1∧Behinds o1 b∧FoldB o1 b out
theorem qIn.unique {code x y:List Ins} (hx:qIn code x) (hy:qIn code y):y=x:=by
  obtain ⟨v,o,b,h1,h2,h3,h4⟩:=hx;obtain ⟨v',o',b',k1,k2,k3,k4⟩:=hy;obtain rfl:=h1.unique k1;obtain rfl:=h2.unique k2;obtain rfl:=h3.unique k3;exact (h4.unique k4).symm
theorem qIn.len {code out:List Ins} (h:qIn code out):out.length=code.length:=by
  obtain ⟨v,o,b,h1,h2,h3,h4⟩:=h;rw [h4.len,h2.len]
theorem qIn.at {code out:List Ins} (h:qIn code out) {i:Nat} {x:Ins} (hx:code[i]?=some x):∃ y l s,(y=x∨y=qKg x l)∧out[i]?=some (qMv y s):=by
  obtain ⟨v,o,b,h1,h2,h3,h4⟩:=h;rcases Classical.em (Come (succs code) i) with hc | hc
  . exact ⟨_,_,_,.inr rfl,h4.each i _ (h2.come i x hx hc)⟩
  . exact ⟨x,rowF v i,_,.inl rfl,h4.each i _ (h2.away i x hx hc)⟩
theorem qIn.op {code out:List Ins} (h:qIn code out) (ho:∀ c∈code,c.op≤255):∀ c∈out,c.op≤255:=by
  intro c hc;obtain ⟨i,hi⟩:=List.mem_iff_getElem?.1 hc;have hlt:=(List.getElem?_eq_some_iff.1 hi).1;rw [h.len] at hlt;have hx:code[i]?=some code[i]:=List.getElem?_eq_getElem hlt;have hxo:=ho _ (List.getElem_mem hlt);obtain ⟨y,l,s,hy,he⟩:=h.at hx;rw [hi] at he;have hyo:y.op≤255:=by
    rcases hy with rfl | rfl
    . exact hxo
    . exact foldIns_op hxo
  injection he with he
  rw [he];unfold qMv
  split
  . show (0:Nat)≤255; omega
  . exact hyo
theorem qIn.keeps {code out:List Ins} (h:qIn code out) {i:Nat} {x:Ins} (hx:code[i]?=some x) (h6:6 < x.op) (h11:x.op≠11):out[i]?=some x:=by
  obtain ⟨y,l,s,hy,he⟩:=h.at hx;have e:y=x:=by
    rcases hy with rfl | rfl
    . rfl
    . exact foldIns_else (by omega) h11
  rw [he,e];unfold qMv;rw [if_neg (by omega)]
def qLp (code out:List Ins) (fm:List Int):Prop:=if 60 < code.length then out=[]∧fm=[] else qIn code out∧fm=ownL code.length
theorem qLp.unique {code o1 o2:List Ins} {f1 f2:List Int} (h:qLp code o1 f1) (k:qLp code o2 f2):o2=o1∧f2=f1:=by
  unfold qLp at h k
  split at h
  . rw [if_pos (by assumption)] at k; rw [h.1,h.2,k.1,k.2]; exact ⟨rfl,rfl⟩
  . rw [if_neg (by assumption)] at k; rw [h.2,k.2]; exact ⟨h.1.unique k.1,rfl⟩
theorem qLp.short {code out:List Ins} {f:List Int} (h:qLp code out f):out.length < lim∧f.length < lim:=by
  unfold qLp at h
  split at h
  . rw [h.1,h.2]; decide
  . rw [h.1.len,h.2,ownL_len]; unfold lim; omega
end Pm
