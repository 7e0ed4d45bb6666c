/- The pure machine: how a call's arguments come into it: numbers, truth values, texts, structs and slices of such.
   No condition: plain lemmas. -/
import Derived.Test.YtdiggaadgjkgkaaGreatDoorZNPmCfgA
import Derived.Test.YtdiggaadgjkgkaaGreatDoorZNAmEnter
namespace Pm
set_option linter.unusedSimpArgs false
set_option linter.unusedVariables false
open Go Am

inductive Sh where
  | nil
  | int (k:IntKind) (t:Sh)
  | bool (t:Sh)
  | string (t:Sh)
  | sl (e t:Sh)
def Sh.size:Sh→Nat
  | .nil=>0
  | .int _ t | .bool t | .string t | .sl _ t=>t.size+1
def Sh.app:Sh→Sh→Sh
  | .nil,s=>s
  | .int k t,s=>.int k (t.app s)
  | .bool t,s=>.bool (t.app s)
  | .string t,s=>.string (t.app s)
  | .sl e t,s=>.sl e (t.app s)
theorem Sh.app_size (a b:Sh):(a.app b).size=a.size+b.size:=by
  induction a<;>simp [Sh.app,Sh.size, *]<;>omega

def Fits:Sh→List Value→Prop
  | .nil,cs=>cs=[]
  | .int k t,cs=>∃ n cs',cs=.int k n :: cs'∧(Lit.int k n).wf=true∧Fits t cs'
  | .bool t,cs=>∃ b cs',cs=.bool b :: cs'∧Fits t cs'
  | .string t,cs=>∃ s cs',cs=.string s :: cs'∧s.size≤maxLen∧Fits t cs'
  | .sl e t,cs=>∃ (xs:List (List Value)) (cs':List Value),cs=lst e.size xs.length xs.flatten :: cs'∧xs.length≤maxLen∧(∀ x∈xs,Fits e x)∧Fits t cs'
theorem addr_add2 (a:Addr) (x y:Nat):(a.add x).add y=a.add (x+y):=by
  unfold Addr.add
  by_cases h1:x=0<;>by_cases h2:y=0<;>simp [h1,h2,Nat.add_assoc]
theorem Fits.len:∀ {s:Sh} {cs:List Value},Fits s cs→cs.length=s.size
  | .nil,_,h=>by cases h; rfl
  | .int _ _,_,⟨_,_,e,_,h⟩=>by subst e; simp [Sh.size,Fits.len h]
  | .bool _,_,⟨_,_,e,h⟩=>by subst e; simp [Sh.size,Fits.len h]
  | .string _,_,⟨_,_,e,_,h⟩=>by subst e; simp [Sh.size,Fits.len h]
  | .sl _ _,_,⟨_,_,e,_,_,h⟩=>by subst e; simp [Sh.size,Fits.len h]
theorem Fits.app:∀ {a b:Sh} {cs ds:List Value},Fits a cs→Fits b ds→Fits (a.app b) (cs++ds)
  | .nil,_,_,_,h,k=>by cases h; exact k
  | .int _ _,_,_,_,⟨n,cs',e,hw,h⟩,k=>⟨n,cs'++_,by rw [e]; rfl,hw,h.app k⟩
  | .bool _,_,_,_,⟨n,cs',e,h⟩,k=>⟨n,cs'++_,by rw [e]; rfl,h.app k⟩
  | .string _,_,_,_,⟨n,cs',e,hw,h⟩,k=>⟨n,cs'++_,by rw [e]; rfl,hw,h.app k⟩
  | .sl _ _,_,_,_,⟨n,cs',e,h1,h2,h⟩,k=>⟨n,cs'++_,by rw [e]; rfl,h1,h2,h.app k⟩

def qLv (P:Program) (shape:TypeId→Option Sh):Nat→List Field→Option Sh
  | _,[]=>some .nil
  | off,f :: fs =>
    match shape f.type with
    | some s=>if f.offset=off∧s.size=P.cellsOf f.type then (qLv P shape (off+s.size) fs).map s.app else none
    | none=>none
def shOf (P:Program):Nat→TypeId→Option Sh
  | 0,_=>none
  | f+1,t =>
    match P.underlying t with
    | some (.int k)=>some (.int k .nil)
    | some .bool=>some (.bool .nil)
    | some .string=>some (.string .nil)
    | some (.slice e)=>match shOf P f e with
      | some s=>if s.size=P.cellsOf e∧0 < s.size then some (.sl s .nil) else none
      | none=>none
    | some (.struct fs)=>match qLv P (shOf P f) 0 fs.toList with
      | some s=>if s.size=P.cellsOf t then some s else none
      | none=>none
    | _=>none

abbrev NoW:Nat→Prop:=fun _=>False
theorem Stp.app {H ext:Heap}:Stp NoW H NoW (H++ext):=⟨by simp,fun a ha _=>List.getElem?_append_left ha,fun a h=>h.elim⟩

structure In (m:Mu) (H:Heap) (w:World) (cs acs pcs:List Value):Prop where
  rel:VRels m acs cs
  one:∀ v∈acs,cellLike v=true
  pm:Rs NoW H Map.none pcs acs
theorem In.mono {m m':Mu} {H ext:Heap} {w:World} {cs acs pcs:List Value} (h:In m H w cs acs pcs) (e:MExt m m'):In m' (H++ext) w cs acs pcs:=⟨h.rel.mono e,h.one,h.pm.mono Stp.app (.refl _)⟩
theorem In.app {m:Mu} {H:Heap} {w:World} {cs acs pcs cs' acs' pcs':List Value} (h:In m H w cs acs pcs) (k:In m H w cs' acs' pcs'):In m H w (cs++cs') (acs++acs') (pcs++pcs') :=
  ⟨h.rel.append k.rel,fun v hv=>(List.mem_append.1 hv).elim (h.one v) (k.one v),h.pm.append k.pm⟩
theorem In.nil {m:Mu} {H:Heap} {w:World}:In m H w [] [] []:=⟨.nil,fun v h=>by simp at h,.nil⟩

def Comes (P:Program) (w:World) (s:Sh) (cs:List Value):Prop :=
  ∀ (m:Mu) (H:Heap),Came m H w→∃ m' ext acs pcs,Came m' (H++ext) w∧MExt m m'∧In m' (H++ext) w cs acs pcs∧Fits s pcs

theorem Comes.app {P:Program} {w:World} {a b:Sh} {cs ds:List Value} (h:Comes P w a cs) (k:Comes P w b ds):Comes P w (a.app b) (cs++ds):=by
  intro m H hc;obtain ⟨m1,e1,a1,p1,c1,x1,i1,f1⟩:=h m H hc;obtain ⟨m2,e2,a2,p2,c2,x2,i2,f2⟩:=k m1 _ c1;refine ⟨m2,e1++e2,a1++a2,p1++p2,by rw [← List.append_assoc]; exact c2,x1.trans x2,?_,f1.app f2⟩
  rw [← List.append_assoc];exact (i1.mono x2).app i2

theorem comes_rows {P:Program} {w:World} {s:Sh}:∀ (css:List (List Value)),(∀ cs∈css,Comes P w s cs)→∀ (m:Mu) (H:Heap),Came m H w →
    ∃ (m':Mu) (ext:Heap) (acs:List Value) (pss:List (List Value)),Came m' (H++ext) w∧MExt m m'∧In m' (H++ext) w css.flatten acs pss.flatten∧pss.length=css.length∧∀ ps∈pss,Fits s ps
  | [],_,m,H,hc=>⟨m,[],[],[],by simpa using hc,.refl m,.nil,rfl,fun ps h=>by simp at h⟩
  | cs :: css,h,m,H,hc=>by
    obtain ⟨m1,e1,a1,p1,c1,x1,i1,f1⟩:=h cs (by simp) m H hc
    obtain ⟨m2,e2,a2,p2,c2,x2,i2,l2,f2⟩:=comes_rows css (fun x hx=>h x (by simp [hx])) m1 _ c1
    refine ⟨m2,e1++e2,a1++a2,p1 :: p2,by rw [← List.append_assoc]; exact c2,x1.trans x2,?_,by simp [l2],fun ps hp=>?_⟩
    . rw [← List.append_assoc]
      exact (i1.mono x2).app i2
    . rcases List.mem_cons.1 hp with rfl | hp
      . exact f1
      . exact f2 ps hp
theorem flatten_len {s:Sh}:∀ {pss:List (List Value)},(∀ ps∈pss,Fits s ps)→pss.flatten.length=pss.length * s.size
  | [],_=>by simp
  | ps :: pss,h=>by
    have h1:=(h ps (by simp)).len
    have h2:=flatten_len (pss:=pss) fun x hx=>h x (by simp [hx])
    simp only [List.flatten_cons,List.length_append,h1,h2,List.length_cons,Nat.succ_mul]; omega
theorem flatten_take {s:Sh}:∀ {pss:List (List Value)},(∀ ps∈pss,Fits s ps)→∀ n,(pss.take n).flatten=pss.flatten.take (n * s.size)
  | [],_,n=>by simp
  | ps :: pss,h,0=>by simp
  | ps :: pss,h,n+1=>by
    have h1:=(h ps (by simp)).len
    have h2:=flatten_take (pss:=pss) (fun x hx=>h x (by simp [hx])) n
    rw [List.take_succ_cons,List.flatten_cons,List.flatten_cons,h2,Nat.succ_mul,Nat.add_comm,List.take_append,List.take_of_length_le (l:=ps) (by omega),h1]
    simp

section
variable {D : Type} {enc : TypeId × Value → D} {P : Program} {w : World}
theorem comes_of:∀ (f:Nat) {t:TypeId} {s:Sh} {fuel:Nat} {cs:List Value} {x:DataW D×List MemPlace},shOf P f t=some s→DataW.trod enc P w 0 (fun _=>true) true fuel t cs=some x→Comes P w s cs
  | 0,_,_,_,_,_,h,_=>by cases h
  | f+1,t,s,fuel,cs,x,h,hd=>by
    unfold shOf at h
    split at h
    . rename_i k hu
      cases h;obtain ⟨n,rfl,_,hw⟩:=DataW.trod_int hu hd;exact fun m H hc=>⟨m,[],[.int k n],[.int k n],by simpa using hc,.refl m,⟨.cons (.int _ _) .nil,fun v hv=>by simp at hv; subst hv; rfl,.cons (.int _ _) .nil⟩,n,[],rfl,hw,rfl⟩
    . rename_i hu
      cases h;obtain ⟨b,rfl,_⟩:=DataW.trod_bool hu hd;exact fun m H hc=>⟨m,[],[.bool b],[.bool b],by simpa using hc,.refl m,⟨.cons (.bool _) .nil,fun v hv=>by simp at hv; subst hv; rfl,.cons (.bool _) .nil⟩,b,[],rfl,rfl⟩
    . rename_i hu
      cases h;obtain ⟨b,rfl,_,hs⟩:=DataW.trod_string hu hd;exact fun m H hc=>⟨m,[],[.string b],[.string b],by simpa using hc,.refl m,⟨.cons (.string _) .nil,fun v hv=>by simp at hv; subst hv; rfl,.cons (.string _) .nil⟩,b,[],rfl,hs,rfl⟩
    . rename_i e hu
      split at h
      . rename_i se hse
        split at h
        . rename_i hsz
          cases h;intro m H hc;rcases DataW.trod_slice hu hd with ⟨rfl,_⟩ | ⟨a,len,cap,elems,rest,n,_,rfl,_,_,hl,hm,hel1,hel,hsp,_⟩
          . exact ⟨m,[],[.slice none 0 0],[lst se.size 0 []],by simpa using hc,.refl m,⟨.cons (.sliceNil _) .nil,fun v hv=>by simp at hv; subst hv; rfl,.cons .lstNil .nil⟩,[],[],rfl,by simp,fun x h=>by simp at h,rfl⟩
          . obtain ⟨hrl,hr⟩:=hsp rfl
            have each:∀ i,i < cap→∃ cs,w.cells? 0 (a.add (i * se.size)) se.size=some cs∧Comes P w se cs:=by
              intro i hi;rw [hsz.1];have:∃ y,(w.cells? 0 (a.add (i * P.cellsOf e)) (P.cellsOf e)).bind (DataW.trod enc P w 0 (fun _=>true) true n e)=some y:=by
                by_cases h1:i < len
                . rw [hel i h1]; exact ⟨_,List.getElem?_eq_getElem (by omega)⟩
                . have:=hr (i - len) (by omega)
                  rw [show len+(i - len)=i by omega] at this
                  rw [this]; exact ⟨_,List.getElem?_eq_getElem (by omega)⟩
              obtain ⟨y,hy⟩:=this;obtain ⟨cs,h1,h2⟩:=Option.bind_eq_some_iff.1 hy;exact ⟨cs,h1,comes_of f hse h2⟩
            have rows:∀ k,k≤cap→∃ css:List (List Value),css.length=k∧(∀ cs∈css,Comes P w se cs)∧css.flatten.length=k * se.size∧∀ j c,css.flatten[j]?=some c→w.cell? (a.add j)=some c:=by
              intro k
              induction k with
              | zero=>intro _; exact ⟨[],rfl,fun cs h=>by simp at h,by simp,fun j c h=>by simp at h⟩
              | succ k ih =>
                intro hk;obtain ⟨css,h1,h2,h3,h4⟩:=ih (by omega)
                obtain ⟨cs,h5,h6⟩:=each k (by omega)
                obtain ⟨q1,q2,q3⟩:=World.cells?_some h5;refine ⟨css++[cs],by simp [h1],fun x hx=>?_,by simp [h3,q2,Nat.succ_mul],fun j c hj=>?_⟩
                . rcases List.mem_append.1 hx with hx | hx
                  . exact h2 x hx
                  . rw [List.mem_singleton.1 hx]; exact h6
                . simp only [List.flatten_append,List.flatten_cons,List.flatten_nil,List.append_nil] at hj
                  by_cases hlt:j < css.flatten.length
                  . rw [List.getElem?_append_left hlt] at hj; exact h4 j c hj
                  . rw [List.getElem?_append_right (by omega)] at hj
                    have hjl:=(List.getElem?_eq_some_iff.1 hj).1;have:=q3 (j - css.flatten.length) (by omega)
                    rw [addr_add2,show k * se.size+(j - css.flatten.length)=j by omega] at this
                    rw [this,hj]
            obtain ⟨css,h1,h2,h3,h4⟩:=rows cap (Nat.le_refl _)
            by_cases h0:cap=0
            . have hl0:len=0:=by omega
              subst h0; subst hl0;exact ⟨m,[],[.slice none 0 0],[lst se.size 0 []],by simpa using hc,.refl m,⟨.cons (.sliceNil _) .nil,fun v hv=>by simp at hv; subst hv; rfl,.cons .lstNil .nil⟩,[],[],rfl,by simp,fun x h=>by simp at h,rfl⟩
            . obtain ⟨m1,e1,acs,pss,c1,x1,i1,l1,f1⟩:=comes_rows css h2 m H hc
              have hal:acs.length=cap * se.size:=by rw [i1.rel.length,h3]
              have hpos:0 < cap * se.size:=Nat.mul_pos (by omega) hsz.2
              obtain ⟨hsp',m2,c2,x2,hput⟩:=c1.row (x:=a) (vs:=acs) (by intro e; rw [e] at hal; simp at hal; omega) i1.rel i1.one h4 se.size
              obtain ⟨blk,off,sp⟩:=a;simp only at hsp';subst hsp';refine ⟨m2,e1++[.row ⟨acs,se.size,0,false⟩],[.slice (some ⟨(H++e1).length,0,none⟩) len 0],[lst se.size len (pss.take len).flatten],by rw [← List.append_assoc]; exact c2,x1.trans x2,⟨.cons ?_ .nil,fun v hv=>by simp at hv; subst hv; rfl,.cons ?_ .nil⟩,pss.take len,[],?_,?_,fun x hx=>f1 x (List.mem_of_mem_take hx),rfl⟩
              . have:=VRel.slice (off:=0) (cap:=cap) (len:=len) hput hl (by simp only [Nat.zero_add]; rw [hal]; exact Nat.le_refl _) (by first | assumption | omega)
                simpa using this
              . refine .lst (r:=⟨acs,se.size,0,false⟩) ?_ (fun h=>h) rfl ?_ ?_ fun j c v hj hv=>?_
                . rw [← List.append_assoc]; simp [Heap.row?]
                . rw [flatten_len fun x hx=>f1 x (List.mem_of_mem_take hx)]
                  simp only [List.length_take];rw [l1,h1,Nat.min_eq_left hl]
                . simp only [Nat.zero_add]; rw [hal]; exact Nat.mul_le_mul_right _ hl
                . simp only [Nat.zero_add] at hv
                  rw [flatten_take f1,List.getElem?_take] at hj
                  split at hj
                  . exact (i1.pm.get j c v hj hv).mono (by rw [← List.append_assoc]; exact Stp.app) (.refl _)
                  . cases hj
              . simp only [List.length_take]; rw [l1,h1,Nat.min_eq_left hl]
              . simp only [List.length_take]; omega
        . cases h
      . cases h
    . rename_i fs hu
      split at h
      . rename_i s' hs'
        split at h
        . rename_i hsz
          cases h;obtain ⟨xs,n,_,_,hlen,hxl,hx⟩:=DataW.trod_struct hu hd;have key:∀ (l:List Field) (off:Nat) (s:Sh),qLv P (shOf P f) off l=some s→(∀ fd∈l,∃ y,DataW.trod enc P w 0 (fun _=>true) true n fd.type ((cs.drop fd.offset).take (P.cellsOf fd.type))=some y)→cs.length=off+s.size→Comes P w s (cs.drop off):=by
            intro l
            induction l with
            | nil =>
              intro off s h1 _ h3;cases h1;rw [List.drop_eq_nil_of_le (by simp only [Sh.size] at h3; omega)]
              exact fun m H hc=>⟨m,[],[],[],by simpa using hc,.refl m,.nil,rfl⟩
            | cons fd l ih =>
              intro off s h1 h2 h3;simp only [qLv] at h1
              split at h1
              . rename_i sf hsf
                split at h1
                . rename_i hc
                  obtain ⟨r,hr,rfl⟩:=Option.map_eq_some_iff.1 h1;rw [Sh.app_size] at h3;obtain ⟨y,hy⟩:=h2 fd (by simp)
                  have k1:=comes_of f hsf hy;rw [hc.1,← hc.2] at k1;have k2:=ih (off+sf.size) r hr (fun x hx=>h2 x (by simp [hx])) (by omega)
                  have:=k1.app k2;rw [← List.drop_drop,List.take_append_drop] at this;exact this
                . cases h1
              . cases h1
          have:=key fs.toList 0 s hs' (fun fd hfd=>by
            obtain ⟨i,hi⟩:=List.mem_iff_getElem?.1 hfd;have hi':fs[i]?=some fd:=by simpa using hi
            rw [hx i fd hi'];exact ⟨_,List.getElem?_eq_getElem (by rw [hxl]; exact (Array.getElem?_eq_some_iff.1 hi').1)⟩) (by rw [hlen,hsz]; omega)
          simpa using this
        . cases h
      . cases h
    . cases h
end
end Pm

/- The pure machine: a law's call, and what its arguments are.
   No condition: plain lemmas. -/
namespace Pm
set_option linter.unusedSimpArgs false
set_option linter.unusedVariables false
open Go Am

theorem law_of {P:Program} {f:FuncId} {args acs:List Value} {m:Mu} {H:Heap} {w:World} {cargs:Array Value} (h:qBl P f args [] fun r _=>r=.bool true) (hc:Came m H w) (hi:In m H w cargs.toList acs args) :
    Calls P f cargs w fun e w'=>e=.returned (.bool true)∧RowKit.Below w.heap.size w w':=by
  refine Am.law_of (args:=acs) (m:=m) (H:=H) ((h Map.none H acs (.empty H) (hi.pm.mono (.less fun a ⟨id,r,h,_⟩=>by simp at h) (.refl _))).mono fun v H'=>?_) hc hi.rel
  rintro ⟨p,h',m',rfl,_,hr,_,_⟩;exact qJh hr

structure Ins where
  op:Nat
  a:Int
  b:Int
  c:Int
theorem Ins.ext_iff' {x y:Ins}:x=y↔x.op=y.op∧x.a=y.a∧x.b=y.b∧x.c=y.c:=by
  cases x; cases y; simp
instance : DecidableEq Ins := fun _ _ => decidable_of_iff _ Ins.ext_iff'.symm
def vIns (i:Ins):List Value:=[v8 i.op,vI i.a,vI i.b,vI i.c]
instance : Flat vIns 4 := ⟨fun _ => rfl⟩

def inI (n:Int):Prop:=-9223372036854775808≤n∧n≤9223372036854775807
theorem wf_u8 {n:Int} (h:(Lit.int .u8 n).wf=true):∃ k:Nat,n=k∧k≤255:=by
  have:0≤n∧n≤255:=by simpa [Lit.wf,IntKind.min,IntKind.max,IntKind.signed,IntKind.bits] using h
  exact ⟨n.toNat,by omega,by omega⟩
theorem qSs {n:Int} (h:(Lit.int .i64 n).wf=true):inI n:=by
  simpa [Lit.wf,IntKind.min,IntKind.max,IntKind.signed,IntKind.bits,inI] using h
theorem qPk {α:Type} {F:α→List Value} {Q:α→Prop} {e:Sh} (he:∀ x,Fits e x→∃ y,x=F y∧Q y):∀ (xs:List (List Value)),(∀ x∈xs,Fits e x)→∃ l:List α,xs.flatten=l.flatMap F∧xs.length=l.length∧∀ y∈l,Q y
  | [],_=>⟨[],rfl,rfl,fun y h=>by simp at h⟩
  | x :: xs,h=>by
    obtain ⟨y,rfl,hy⟩:=he x (h x (by simp))
    obtain ⟨l,h1,h2,h3⟩:=qPk he xs fun z hz=>h z (by simp [hz])
    refine ⟨y :: l,by simp [h1],by simp [h2],fun z hz=>?_⟩
    rcases List.mem_cons.1 hz with rfl | hz
    . exact hy
    . exact h3 z hz
theorem dec_L {α:Type} {f:α→Value} {Q:α→Prop} {e:Sh} (he:∀ x,Fits e x→∃ y,x=[f y]∧Q y) (h1:e.size=1) (xs:List (List Value)) (h:∀ x∈xs,Fits e x):∃ l:List α,lst e.size xs.length xs.flatten=vL f l∧xs.length=l.length∧∀ y∈l,Q y:=by
  obtain ⟨l,k1,k2,k3⟩:=qPk (F:=fun y=>[f y]) he xs h
  refine ⟨l,?_,k2,k3⟩;rw [k1,k2,h1,vL]
  congr 1
  clear k1 k2 k3 h
  induction l with
  | nil=>rfl
  | cons a l ih=>simp [List.flatMap_cons,ih]
theorem dec_u8 (x:List Value) (h:Fits (.int .u8 .nil) x):∃ y:Nat,x=[v8 y]∧y≤255:=by
  obtain ⟨n,cs,rfl,hw,rfl⟩:=h;obtain ⟨k,rfl,hk⟩:=wf_u8 hw;exact ⟨k,rfl,hk⟩
def qOc {α:Type} (l:List α):Prop:=l.length < 9223372036854775808
theorem qOk {α:Type} {l:List α} {n:Nat} (h:n≤maxLen) (e:n=l.length):qOc l:=by
  have:maxLen=9223372036854775807:=rfl;unfold qOc; omega
def qQr (l:List Nat):Prop:=qOc l∧∀ k∈l,k≤255
theorem dec_bytes (x:List Value) (h:Fits (.sl (.int .u8 .nil) .nil) x):∃ y:List Nat,x=[vL v8 y]∧qQr y:=by
  obtain ⟨xs,cs,rfl,hm,hx,rfl⟩:=h;obtain ⟨l,h1,h2,h3⟩:=dec_L dec_u8 rfl xs hx;exact ⟨l,by rw [h1],qOk hm h2,h3⟩
theorem dec_bytess (x:List Value) (h:Fits (.sl (.sl (.int .u8 .nil) .nil) .nil) x):∃ y:List (List Nat),x=[vL (vL v8) y]∧qOc y∧∀ l∈y,qQr l:=by
  obtain ⟨xs,cs,rfl,hm,hx,rfl⟩:=h;obtain ⟨l,h1,h2,h3⟩:=dec_L dec_bytes rfl xs hx;exact ⟨l,by rw [h1],qOk hm h2,h3⟩
structure Ins.In (i:Ins):Prop where
  op:i.op≤255
  a:inI i.a
  b:inI i.b
  c:inI i.c
theorem dec_ins (x:List Value) (h:Fits (.int .u8 (.int .i64 (.int .i64 (.int .i64 .nil)))) x):∃ y:Ins,x=vIns y∧y.In:=by
  obtain ⟨o,_,rfl,w0,a,_,rfl,w1,b,_,rfl,w2,c,_,rfl,w3,rfl⟩:=h;obtain ⟨k,rfl,hk⟩:=wf_u8 w0;exact ⟨⟨k,a,b,c⟩,rfl,hk,qSs w1,qSs w2,qSs w3⟩
theorem dec_code (x:List Value) (h:Fits (.sl (.int .u8 (.int .i64 (.int .i64 (.int .i64 .nil)))) .nil) x):∃ y:List Ins,x=[vM 4 vIns y]∧qOc y∧∀ i∈y,i.In:=by
  obtain ⟨xs,cs,rfl,hm,hx,rfl⟩:=h;obtain ⟨l,h1,h2,h3⟩:=qPk dec_ins xs hx;exact ⟨l,by rw [h1,h2]; rfl,qOk hm h2,h3⟩
theorem fits_app {s:Sh} {a:Sh} {pcs:List Value} (h:Fits (a.app s) pcs):∃ q r,pcs=q++r∧Fits a q∧Fits s r:=by
  induction a generalizing pcs with
  | nil=>exact ⟨[],pcs,rfl,rfl,h⟩
  | int k t ih =>
    obtain ⟨n,cs,rfl,hw,h⟩:=h;obtain ⟨q,r,rfl,h1,h2⟩:=ih h;exact ⟨_ :: q,r,rfl,⟨n,q,rfl,hw,h1⟩,h2⟩
  | bool t ih =>
    obtain ⟨n,cs,rfl,h⟩:=h;obtain ⟨q,r,rfl,h1,h2⟩:=ih h;exact ⟨_ :: q,r,rfl,⟨n,q,rfl,h1⟩,h2⟩
  | string t ih =>
    obtain ⟨n,cs,rfl,hw,h⟩:=h;obtain ⟨q,r,rfl,h1,h2⟩:=ih h;exact ⟨_ :: q,r,rfl,⟨n,q,rfl,hw,h1⟩,h2⟩
  | sl e t _ ih =>
    obtain ⟨n,cs,rfl,hw,hx,h⟩:=h;obtain ⟨q,r,rfl,h1,h2⟩:=ih h;exact ⟨_ :: q,r,rfl,⟨n,q,rfl,hw,hx,h1⟩,h2⟩
end Pm
