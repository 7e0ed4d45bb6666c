/- What is known is not reckoned: the law, without the program.
   No condition: plain lemmas. -/

import Derived.KernelRfl
import Derived.Test.YtmdnkninbkcmkaaDoorZTPmEdit
import Derived.Test.YtmdnkninbkcmkaaDoorZTPmVal7
import Derived.Test.YtmdnkninbkcmkaaDoorZTPm5
import Derived.Test.YtmdnkninbkcmkaaDoorProg
import Derived.Test.YtmdnkninbkcmkaaDoorZTPmFlow1
import Derived.Test.YtmdnkninbkcmkaaDoorZTPmLend3
import Derived.Test.YtmdnkninbkcmkaaDoorZTPmTab
namespace Pm
set_option linter.unusedSimpArgs false
set_option linter.unusedVariables false
open Go Am

def qJd (i:Ins) (l:V4):Ins :=
  if 0≤i.a∧i.a < 4 then
    if (2≤i.op∧i.op≤6)∧((doV i l).at i.a).kind=1 then ⟨1,i.a,((doV i l).at i.a).n,0⟩
    else if i.op=11∧(l.at i.a).kind=1 then (if (l.at i.a).n=0 then ⟨10,i.b,0,0⟩ else nopI) else i
  else i
theorem foldIns_else {i:Ins} {l:V4} (h1:¬ (2≤i.op∧i.op≤6)) (h2:i.op≠11):qJd i l=i:=by
  unfold qJd
  split
  . rw [if_neg (fun h=>h1 h.1),if_neg (fun h=>h2 h.1)]
  . rfl
theorem qPe {i:Ins} {l:V4} (h:i.op≤255):(qJd i l).op≤255:=by
  unfold qJd
  split
  . split
    . show (1:Nat)≤255; omega
    . split
      . split
        . show (10:Nat)≤255; omega
        . show (0:Nat)≤255; omega
      . exact h
  . exact h
structure FoldA (code:List Ins) (v:List V4) (o1:List Ins):Prop where
  len:o1.length=code.length
  come:∀ i x,code[i]?=some x→Come (succs code) i→o1[i]?=some (qJd x (rowF v i))
  away:∀ i x,code[i]?=some x→¬ Come (succs code) i→o1[i]?=some x
theorem FoldA.unique {code a b:List Ins} {v:List V4} (ha:FoldA code v a) (hb:FoldA code v b):a=b:=by
  apply List.ext_getElem?;intro i
  by_cases hi:i < code.length
  . have hc:code[i]?=some code[i]:=List.getElem?_eq_getElem hi
    rcases Classical.em (Come (succs code) i) with h | h
    . rw [ha.come i _ hc h,hb.come i _ hc h]
    . rw [ha.away i _ hc h,hb.away i _ hc h]
  . rw [List.getElem?_eq_none (by rw [ha.len]; omega),List.getElem?_eq_none (by rw [hb.len]; omega)]
def qKx (x:Ins) (s:Nat):Ins:=if x.op≤6∧hasB s x.a=false then nopI else x
structure FoldB (o1:List Ins) (b:List Nat) (out:List Ins):Prop where
  len:out.length=o1.length
  each:∀ i x,o1[i]?=some x→out[i]?=some (qKx x (gN b i))
theorem FoldB.unique {o1 a b:List Ins} {s:List Nat} (ha:FoldB o1 s a) (hb:FoldB o1 s b):a=b:=by
  apply List.ext_getElem?;intro i
  by_cases hi:i < o1.length
  . have hc:o1[i]?=some o1[i]:=List.getElem?_eq_getElem hi
    rw [ha.each i _ hc,hb.each i _ hc]
  . rw [List.getElem?_eq_none (by rw [ha.len]; omega),List.getElem?_eq_none (by rw [hb.len]; omega)]
def qIj (code out:List Ins):Prop:=∃ v o1 b,Least code v∧FoldA code v o1∧Behinds o1 b∧FoldB o1 b out
theorem qIj.unique {code x y:List Ins} (hx:qIj code x) (hy:qIj code y):y=x:=by
  obtain ⟨v,o,b,h1,h2,h3,h4⟩:=hx;obtain ⟨v',o',b',k1,k2,k3,k4⟩:=hy;obtain rfl:=h1.unique k1;obtain rfl:=h2.unique k2;obtain rfl:=h3.unique k3;exact (h4.unique k4).symm
theorem qIj.len {code out:List Ins} (h:qIj code out):out.length=code.length:=by
  obtain ⟨v,o,b,h1,h2,h3,h4⟩:=h;rw [h4.len,h2.len]
theorem qIj.at {code out:List Ins} (h:qIj code out) {i:Nat} {x:Ins} (hx:code[i]?=some x):∃ y l s,(y=x∨y=qJd x l)∧out[i]?=some (qKx y s):=by
  obtain ⟨v,o,b,h1,h2,h3,h4⟩:=h;rcases Classical.em (Come (succs code) i) with hc | hc
  . exact ⟨_,_,_,.inr rfl,h4.each i _ (h2.come i x hx hc)⟩
  . exact ⟨x,rowF v i,_,.inl rfl,h4.each i _ (h2.away i x hx hc)⟩
theorem qIj.op {code out:List Ins} (h:qIj code out) (ho:∀ c∈code,c.op≤255):∀ c∈out,c.op≤255:=by
  intro c hc;obtain ⟨i,hi⟩:=List.mem_iff_getElem?.1 hc;have hlt:=(List.getElem?_eq_some_iff.1 hi).1;rw [h.len] at hlt;have hx:code[i]?=some code[i]:=List.getElem?_eq_getElem hlt;have hxo:=ho _ (List.getElem_mem hlt);obtain ⟨y,l,s,hy,he⟩:=h.at hx;rw [hi] at he;have hyo:y.op≤255:=by
    rcases hy with rfl | rfl
    . exact hxo
    . exact qPe hxo
  injection he with he
  rw [he];unfold qKx
  split
  . show (0:Nat)≤255; omega
  . exact hyo
theorem qIj.keeps {code out:List Ins} (h:qIj code out) {i:Nat} {x:Ins} (hx:code[i]?=some x) (h6:6 < x.op) (h11:x.op≠11):out[i]?=some x:=by
  obtain ⟨y,l,s,hy,he⟩:=h.at hx;have e:y=x:=by
    rcases hy with rfl | rfl
    . rfl
    . exact foldIns_else (by omega) h11
  rw [he,e];unfold qKx;rw [if_neg (by omega)]
def qNr (code out:List Ins) (fm:List Int):Prop:=if 60 < code.length then out=[]∧fm=[] else qIj code out∧fm=ownL code.length
theorem qNr.unique {code o1 o2:List Ins} {f1 f2:List Int} (h:qNr code o1 f1) (k:qNr code o2 f2):o2=o1∧f2=f1:=by
  unfold qNr at h k
  split at h
  . rw [if_pos (by assumption)] at k; rw [h.1,h.2,k.1,k.2]; exact ⟨rfl,rfl⟩
  . rw [if_neg (by assumption)] at k; rw [h.2,k.2]; exact ⟨h.1.unique k.1,rfl⟩
theorem qNr.short {code out:List Ins} {f:List Int} (h:qNr code out f):out.length < lim∧f.length < lim:=by
  unfold qNr at h
  split at h
  . rw [h.1,h.2]; decide
  . rw [h.1.len,h.2,ownL_len]; unfold lim; omega
end Pm

/- What is known is not reckoned: two examples, without the program.
   No condition: plain lemmas. -/

namespace Pm
set_option linter.unusedSimpArgs false
set_option linter.unusedVariables false
open Go Am

def c16:List Ins:=[⟨1,0,3,0⟩,⟨3,1,0,0⟩,⟨9,1,0,0⟩]
end Pm

/- What is known is not reckoned: the code, walked.
   No condition: plain lemmas. -/

namespace Pm
set_option linter.unusedSimpArgs false
set_option linter.unusedVariables false
open Go Am
open Go.Proofs.Tryd (prog)

section
variable {P : Program} {K : Fr → Heap → Prop} {is : List AIns} {d : Option Nat} {fr : Fr} {H0 H : Heap} {b : Nat} {lit : Value} {rs : List Ob}
end
structure FC (h:Heap) (code:List Ins) (v:List V4) (cs:Value) (k:Nat) (fv:Value) (out:List Ins) (H:Heap):Prop where
  row:RowV H (h.length+2) 0 2 [cs,fv]
  cod:RowM 4 vIns H (h.length+1) 1 4 out
  frm:AccL vI (h.length+2+1) H fv (ownL k)
  res:RowV H h.length 0 2 [nilS,nilS]
  kp:qCr h.length h H
  u1:U1 H
  no:k=0→NoU H
  len:out.length=code.length
  tail:∀ i,k≤i→out[i]?=code[i]?
  come:∀ i x,i < k→code[i]?=some x→Come (succs code) i→out[i]?=some (qJd x (rowF v i))
  away:∀ i x,i < k→code[i]?=some x→¬ Come (succs code) i→out[i]?=some x
theorem FC.op {h:Heap} {code out:List Ins} {v:List V4} {cs fv:Value} {k:Nat} {H:Heap} (f:FC h code v cs k fv out H) (ho:∀ i∈code,i.op≤255):∀ i∈out,i.op≤255:=by
  intro c hc;obtain ⟨i,hi⟩:=List.mem_iff_getElem?.1 hc;have hlt:=(List.getElem?_eq_some_iff.1 hi).1;rw [f.len] at hlt;have hx:code[i]?=some code[i]:=List.getElem?_eq_getElem hlt;have hxo:=ho _ (List.getElem_mem hlt)
  by_cases hk:i < k
  . rcases Classical.em (Come (succs code) i) with hm | hm
    . rw [f.come i _ hk hx hm] at hi; cases hi; exact qPe hxo
    . rw [f.away i _ hk hx hm] at hi; cases hi; exact hxo
  . rw [f.tail i (by omega),hx] at hi; cases hi; exact hxo
section
variable {h : Heap} {K : Value → Heap → Prop}
end
end Pm

/- What is known is not reckoned: by the document, all of it, walked.
   No condition: plain lemmas. -/

namespace Pm
set_option linter.unusedSimpArgs false
set_option linter.unusedVariables false
open Go Am
open Go.Proofs.Tryd (prog)

theorem NoU.push {H H':Heap} (h:NoU H) {e:Nat} {s x w:Value} (he:e≠1) (hp:pApp H e s x=some (w,H')):NoU H':=fun id r h1 h2=>by
  rcases pApp_esz hp h1 with h3 | h3
  . omega
  . exact h id r h3 h2
structure FRd (code:List Ins) (v:List V4) (k:Nat) (out:List Ins):Prop where
  len:out.length=k
  come:∀ i x,i < k→code[i]?=some x→Come (succs code) i→out[i]?=some (qJd x (rowF v i))
  away:∀ i x,i < k→code[i]?=some x→¬ Come (succs code) i→out[i]?=some x
theorem FRd.next {code:List Ins} {v:List V4} {k:Nat} {out:List Ins} {c d:Ins} (f:FRd code v k out) (hc:code[k]?=some c) (h1:Come (succs code) k→d=qJd c (rowF v k)) (h2:¬ Come (succs code) k→d=c):FRd code v (k+1) (out++[d]):=by
  have hl:=f.len;refine ⟨by simp [hl],fun i e hi he hg=>?_,fun i e hi he hg=>?_⟩
  . by_cases hik:i=k
    . subst hik; rw [hc] at he; cases he
      rw [List.getElem?_append_right (by omega),hl,Nat.sub_self,h1 hg]; rfl
    . rw [List.getElem?_append_left (by omega)]; exact f.come i e (by omega) he hg
  . by_cases hik:i=k
    . subst hik; rw [hc] at he; cases he
      rw [List.getElem?_append_right (by omega),hl,Nat.sub_self,h2 hg]; rfl
    . rw [List.getElem?_append_left (by omega)]; exact f.away i e (by omega) he hg
theorem FRd.op {code out:List Ins} {v:List V4} {k:Nat} (f:FRd code v k out) (hk:k≤code.length) (ho:∀ i∈code,i.op≤255):∀ i∈out,i.op≤255:=by
  intro c hc;obtain ⟨i,hi⟩:=List.mem_iff_getElem?.1 hc;have hlt:=(List.getElem?_eq_some_iff.1 hi).1;rw [f.len] at hlt;have hx:code[i]?=some code[i]:=List.getElem?_eq_getElem (by omega)
  have hxo:=ho _ (List.getElem_mem (show i < code.length by omega))
  rcases Classical.em (Come (succs code) i) with hm | hm
  . rw [f.come i _ hlt hx hm] at hi; cases hi; exact qPe hxo
  . rw [f.away i _ hlt hx hm] at hi; cases hi; exact hxo
structure FD2 (out:List Ins) (b:List Nat) (k:Nat) (o2:List Ins):Prop where
  len:o2.length=out.length
  tail:∀ i,k≤i→o2[i]?=out[i]?
  done:∀ i x,i < k→out[i]?=some x→o2[i]?=some (qKx x (gN b i))
theorem FD2.next {out o2:List Ins} {b:List Nat} {k:Nat} {c:Ins} (z:FD2 out b k o2) (hc:out[k]?=some c):FD2 out b (k+1) (o2.set k (qKx c (gN b k))):=by
  have hl:=z.len;have hk:=(List.getElem?_eq_some_iff.1 hc).1;refine ⟨by simp [hl],fun i hi=>?_,fun i x hi hx=>?_⟩
  . rw [List.getElem?_set_ne (by omega)]; exact z.tail i (by omega)
  . by_cases e:i=k
    . subst e; rw [hc] at hx; cases hx; rw [List.getElem?_set_self (by omega)]
    . rw [List.getElem?_set_ne (fun h=>e h.symm)]; exact z.done i x (by omega) hx
theorem FD2.stay {out o2:List Ins} {b:List Nat} {k:Nat} {c:Ins} (z:FD2 out b k o2) (hc:out[k]?=some c) (h:qKx c (gN b k)=c):FD2 out b (k+1) o2:=by
  have:=z.next hc;rw [h] at this;have hs:o2.set k c=o2:=by
    apply List.ext_getElem?;intro i
    by_cases e:i=k
    . subst e
      have hk:=(List.getElem?_eq_some_iff.1 hc).1;rw [List.getElem?_set_self (by rw [z.len]; exact hk),z.tail i (Nat.le_refl _),hc]
    . rw [List.getElem?_set_ne (fun h=>e h.symm)]
  rwa [hs] at this
section
variable {h : Heap} {K : Value → Heap → Prop}
end
end Pm
