/- Graphs, the document's answer: rows compared, the way back, what is come to.
   No condition: plain lemmas. -/
import Derived.Test.YtdiggaadgjkgkaaGreatDoorZNPmCfgA
import Derived.Test.YtdiggaadgjkgkaaGreatDoorZNPmCfgC
namespace Pm
set_option linter.unusedSimpArgs false
set_option linter.unusedVariables false
open Go Am
open Go.Proofs.Tryz (prog)

theorem wrap_succ {i:Nat} (h:i < lim):IntKind.i64.wrap ((i:Int)+1)=((i+1:Nat):Int):=wrap_i64 (by omega) (by simp [lim] at h; omega)

theorem qBr {i:Nat} (h:i < lim):∃ j:Nat,j=i+1∧IntKind.i64.wrap ((i:Int)+1)=(j:Int):=⟨i+1,rfl,wrap_succ h⟩

theorem same_step {α:Type} {a b:List α} {i:Nat} (h:a.take i=b.take i) (h1:i < a.length) (h2:i < b.length):a.take (i+1)=b.take (i+1)↔a[i]=b[i]:=by
  rw [show b.take (i+1)=b.take i++[b[i]] from (List.take_append_getElem h2).symm,← List.take_append_getElem h1,h];simp only [List.append_right_inj,List.cons.injEq,and_true]

section
variable {h : Heap} {K : Value → Heap → Prop}
theorem RSame01_call {a b:List Int} (hl:a.length < lim) (hk:K (.bool (decide (a=b))) h):qBl prog 16 [vL vI a,vL vI b] h K:=by
  refine call_RSame01 (by simp) ?_
  by_cases hab:a.length=b.length
  . simp [c_RSame01,qBv,hab]
    refine loop_rule (fun n fr h'=>h'=h∧fr 0=vL vI a∧fr 1=vL vI b∧∃ i:Nat,fr 5=vI i∧n=a.length - i∧i≤a.length∧a.take i=b.take i) ?_ (n:=a.length) ⟨rfl,by simp [qBv],by simp [qBv],0,by simp⟩
    rintro n fr h' ⟨rfl,h0,h1,i,h5,rfl,hi,ht⟩
    by_cases hlt:i < a.length
    . have hlt':i < b.length:=by omega
      by_cases he:a[i]=b[i]
      . simp [h0,h1,h5,hlt,hlt',he,wrap_succ (show i < lim by omega)]
        exact ⟨_,by omega,i+1,by simp,rfl,by omega,(same_step ht hlt hlt').2 he⟩
      . simp [h0,h1,h5,hlt,hlt',he,qAs,qAu,resV,retV]
        have hne:¬ a=b:=fun e=>he (by subst e; rfl)
        simpa [hne] using hk
    . have hab':a=b:=by
        rw [List.take_of_length_le (by omega),List.take_of_length_le (by omega)] at ht; exact ht
      simp [h0,h1,h5,hlt,qAs,qAu,resV,retV]
      simpa [hab'] using hk
  . have hab':¬ a=b:=fun e=>hab (by rw [e])
    have hab2:¬ (a.length:Int)=b.length:=by omega
    simp [c_RSame01,qBv,hab,hab2,qAs,qAu,resV,retV]
    simpa [hab'] using hk
end
end Pm

/- Graphs, the document's answer: what is come to without a node; what each can not be come to without.
   No condition: plain lemmas. -/
namespace Pm
set_option linter.unusedSimpArgs false
set_option linter.unusedVariables false
open Go Am
open Go.Proofs.Tryz (prog)

/-! ### A row of one's own behind a heap -/
section
variable {α : Type} {f : α → Value} {l : List α} {h g : Heap} {ver : Nat} {rw : Bool}
@[simp] theorem own_cell {off:Nat}:(h++Ob.row ⟨l.map f,1,ver,rw⟩ :: g).cell? h.length off ver=(l[off]?).map f:=by simp [Heap.cell?,Heap.row?]
@[simp] theorem own_store {off:Nat} {x:α} (hx:cellsOf (f x)=some [f x]):qBu (h++Ob.row ⟨l.map f,1,ver,true⟩ :: g) 1 (.pointer (some ⟨h.length,off,some ver⟩)) (f x)=if off < l.length then some (h++Ob.row ⟨(l.set off x).map f,1,ver,true⟩ :: g) else none:=by
  simp only [qBu,hx]
  by_cases ho:off < l.length
  . have ho':off+1≤l.length:=ho
    simp [Heap.row?,ho,ho',setAll]
  . have ho':¬ off+1≤l.length:=ho
    simp [Heap.row?,ho,ho']
theorem qRh {b:Nat} (hc:∀ x,qCf (f x)=true) (hb:b≤h.length) {n:Nat} (hn:n=l.length):Inl b (h++Ob.row ⟨l.map f,1,ver,rw⟩ :: g) (.slice (some ⟨h.length,0,none⟩) n ver) (vL f l):=by
  subst hn;exact .row (r:=⟨l.map f,1,ver,rw⟩) hb (by simp [Heap.row?]) (by simp) (by simp) fun j c c' h5 h6=>by
    simp only [Nat.zero_add] at h5;rw [h5] at h6; cases h6;obtain ⟨y,_,rfl⟩:=List.mem_map.1 (List.mem_of_getElem? h5);exact .cell (hc y)
end

inductive Far (s:List (List Int)) (b:Int):Nat→Prop
  | start (h:0 < s.length) (hb:b≠0):Far s b 0
  | step {i j:Nat} {l:List Int} (h:Far s b i) (hl:s[i]?=some l) (hj:(j:Int)∈l) (hlt:j < s.length) (hb:(j:Int)≠b):Far s b j
theorem far_come {s:List (List Int)} {i:Nat}:Far s (-1) i↔Come s i:=by
  constructor
  . intro h
    induction h with
    | start h _=>exact .start h
    | step _ h1 h2 h3 _ ih=>exact .step ih h1 h2 h3
  . intro h
    induction h with
    | start h=>exact .start h (by decide)
    | step _ h1 h2 h3 ih=>exact .step ih h1 h2 h3 (by omega)
theorem far_away {s:List (List Int)} {k i:Nat}:Far s k i↔Away s k i:=by
  constructor
  . intro h
    induction h with
    | start h hb=>exact .start h (by omega)
    | step _ h1 h2 h3 hb ih=>exact .step ih h1 h2 h3 (by omega)
  . intro h
    induction h with
    | start h hb=>exact .start h (by omega)
    | step _ h1 h2 h3 hb ih=>exact .step ih h1 h2 h3 (by omega)
theorem Far.lt {s:List (List Int)} {b:Int} {i:Nat} (h:Far s b i):i < s.length:=by cases h<;>assumption

theorem cnt_set:∀ {l:List Bool} {j:Nat},l[j]?=some false→(l.set j true).count false < l.count false
  | [],j,h=>by simp at h
  | a :: l,0,h=>by simp at h; subst h; simp
  | a :: l,j+1,h=>by
    have:=cnt_set (l:=l) (j:=j) (by simpa using h)
    simp only [List.set_cons_succ,List.count_cons]; omega

structure WInv (s:List (List Int)) (b:Int) (seen0 seen:List Bool) (more:Bool):Prop where
  len:seen.length=s.length
  far:∀ i,seen[i]?=some true→Far s b i
  zero:0 < s.length→b≠0→seen[0]?=some true
  more:(more=true∧seen.count false < seen0.count false)∨(more=false∧seen=seen0)
def Clo (s:List (List Int)) (b:Int) (seen:List Bool) (i k:Nat):Prop:=seen[i]?=some true→∀ (l:List Int) (k' j:Nat),s[i]?=some l→k' < k→l[k']?=some (j:Int)→j < s.length→(j:Int)≠b→seen[j]?=some true
theorem WInv.set {s:List (List Int)} {b:Int} {seen0 seen:List Bool} {more:Bool} (h:WInv s b seen0 seen more) {i j k:Nat} {l:List Int} (hi:seen[i]?=some true) (hl:s[i]?=some l) (hk:l[k]?=some (j:Int)) (hj:j < s.length) (hb:(j:Int)≠b) (hf:seen[j]?=some false) :
    WInv s b seen0 (seen.set j true) true:=by
  have hc:=cnt_set hf;refine ⟨by simpa using h.len,fun i' hi'=>?_,fun h0 hb0=>?_,.inl ⟨rfl,?_⟩⟩
  . by_cases e:i'=j
    . subst e; exact .step (h.far i hi) hl (List.mem_of_getElem? hk) hj hb
    . rw [List.getElem?_set_ne (fun x=>e x.symm)] at hi'; exact h.far i' hi'
  . by_cases e:0=j
    . subst e; rw [List.getElem?_set_self (by rw [h.len]; exact h0)]
    . rw [List.getElem?_set_ne (fun x=>e x.symm)]; exact h.zero h0 hb0
  . rcases h.more with ⟨_,h1⟩ | ⟨_,h1⟩
    . omega
    . subst h1; exact hc
theorem WInv.done {s:List (List Int)} {b:Int} {seen0 seen:List Bool} (h:WInv s b seen0 seen false) (hc:∀ i l,s[i]?=some l→Clo s b seen i l.length) (i:Nat):seen[i]?=some true↔Far s b i:=by
  refine ⟨h.far i,fun hf=>?_⟩
  induction hf with
  | start h0 hb=>exact h.zero h0 hb
  | step h1 hl hj hlt hb ih =>
    obtain ⟨k',hk'⟩:=List.mem_iff_getElem?.1 hj;exact hc _ _ hl ih _ k' _ hl (List.getElem?_eq_some_iff.1 hk').1 hk' hlt hb

section
variable {h : Heap} {K : Value → Heap → Prop}
set_option maxHeartbeats 1000000 in
theorem without_call {s:List (List Int)} {b:Int} (hl:s.length < lim) (hll:∀ l∈s,l.length < lim) (hk:∀ seen:List Bool,seen.length=s.length→(∀ i,seen[i]?=some true↔Far s b i)→K (vL vB seen) h) :
    qBl prog 108 [vL (vL vI) s,vI b] h K:=by
  refine qBl.forget ?_;refine call_without (by simp) ?_
  have hlim:(s.length:Int)≤lim:=by omega
  simp [c_without,qBv,qIc,hlim,qKv,Am.newRow,-qAt];refine qLw (fun fr h'=>fr 0=vL (vL vI) s∧fr 1=vI b∧fr 5=.slice (some ⟨h.length,0,none⟩) s.length 0∧∃ seen:List Bool,h'=h++[.row ⟨seen.map vB,1,0,true⟩]∧WInv s b seen seen false) ?_ ?_
  . have base:∀ seen:List Bool,seen.length=s.length→(∀ i,seen[i]?=some true→Far s b i)→(0 < s.length→b≠0→seen[0]?=some true)→WInv s b seen seen false:=fun seen h1 h2 h3=>⟨h1,h2,h3,.inr ⟨rfl,rfl⟩⟩
    have hrep:∀ i:Nat,(List.replicate s.length false)[i]?≠some true:=by
      intro i hi;have:=List.getElem?_eq_some_iff.1 hi;simp at this
    by_cases h0:0 < s.length
    . have h0':(0:Int) < s.length:=by omega
      have h1':1≤s.length:=h0
      by_cases hb:b=0
      . simp [h0,h0',hb]
        exact ⟨List.replicate s.length false,by simp,hb ▸ base _ (by simp) (fun i hi=>absurd hi (hrep i)) fun _ h=>absurd hb h⟩
      . simp [h0,h0',hb,qBu,Heap.row?,h1']
        refine ⟨(List.replicate s.length false).set 0 true,by simp,base _ (by simp) (fun i hi=>?_) fun _ _=>by simp [h0]⟩
        by_cases e:i=0
        . subst e; exact .start h0 hb
        . rw [List.getElem?_set_ne (fun x=>e x.symm)] at hi; exact absurd hi (hrep i)
    . have h0':¬ (0:Int) < s.length:=by omega
      simp [h0,h0'];exact ⟨List.replicate s.length false,by simp,base _ (by simp) (fun i hi=>absurd hi (hrep i)) fun h=>absurd h h0⟩
  . rintro fr h' ⟨h0,h1,h5,seen,rfl,hw⟩
    simp;refine qEb (σ:=List Bool×Bool) (fun x fr h'=>fr 0=vL (vL vI) s∧fr 1=vI b∧fr 5=.slice (some ⟨h.length,0,none⟩) s.length 0∧fr 6=.bool x.2∧h'=h++[.row ⟨x.1.map vB,1,0,true⟩]∧WInv s b x.1 x.1 false∧(x.2=false→∀ i l,s[i]?=some l→Clo s b x.1 i l.length))
      (fun x=>2 * x.1.count false+(if x.2 then 1 else 0)) ?_ (seen,true) ⟨by simp [h0],by simp [h1],by simp [h5],by simp,rfl,hw,fun h=>by cases h⟩
    rintro ⟨seen,more⟩ fr h' ⟨h0,h1,h5,h6,rfl,hw,hc⟩;cases more with
    | false =>
      simp [h6,h5,qAs,qAu,resV,retV];exact ⟨_,qRh (by simp) (Nat.le_refl _) hw.len.symm,hk seen hw.len (hw.done (hc rfl))⟩
    | true =>
      simp [h6];refine qEb (σ:=List Bool×Bool×Nat) (fun x fr h'=>fr 0=vL (vL vI) s∧fr 1=vI b∧fr 5=.slice (some ⟨h.length,0,none⟩) s.length 0∧fr 6=.bool x.2.1∧fr 7=vI x.2.2∧h'=h++[.row ⟨x.1.map vB,1,0,true⟩]∧x.2.2≤s.length∧WInv s b seen x.1 x.2.1∧(x.2.1=false→∀ i' l,i' < x.2.2→s[i']?=some l→Clo s b x.1 i' l.length))
        (fun x=>s.length - x.2.2) ?_ (seen,false,0) ⟨by simp [h0],by simp [h1],by simp [h5],by simp,by simp,rfl,by simp,hw,fun _ i' l h=>by simp at h⟩
      clear h0 h1 h5 h6 fr;rintro ⟨seen',more,i⟩ fr h' ⟨h0,h1,h5,h6,h7,rfl,hi,hw',hc'⟩;simp only at h6 h7 hi hw' hc'
      by_cases hlt:i < s.length
      . obtain ⟨l,hls⟩:∃ l,s[i]=l:=⟨_,rfl⟩
        have hli:l.length < lim:=by rw [← hls]; exact hll _ (List.getElem_mem hlt)
        have hsi:s[i]?=some l:=by rw [← hls]; exact List.getElem?_eq_getElem hlt
        simp [h0,h7,hlt];refine qEb (σ:=List Bool×Bool×Nat) (fun x fr h'=>fr 0=vL (vL vI) s∧fr 1=vI b∧fr 5=.slice (some ⟨h.length,0,none⟩) s.length 0∧fr 7=vI i∧fr 6=.bool x.2.1∧fr 8=vI x.2.2∧h'=h++[.row ⟨x.1.map vB,1,0,true⟩]∧x.2.2≤l.length∧WInv s b seen x.1 x.2.1∧(x.2.1=false→∀ i' l,i' < i→s[i']?=some l→Clo s b x.1 i' l.length)∧(x.2.1=false→Clo s b x.1 i x.2.2))
          (fun x=>l.length - x.2.2) ?_ (seen',more,0) ⟨by simp [h0],by simp [h1],by simp [h5],by simp [h7],by simp [h6],by simp,rfl,by simp,hw',hc',fun _ _ l k' j _ h=>by simp at h⟩
        clear h0 h1 h5 h6 h7 fr hw' hc';rintro ⟨seen1,m1,k⟩ fr h' ⟨h0,h1,h5,h7,h6,h8,rfl,hk',hw',hc',hcl⟩;simp only at h6 h8 hk' hw' hc' hcl;have hsl:=hw'.len;obtain ⟨t,ht⟩:∃ t,seen1[i]?=some t:=⟨_,List.getElem?_eq_getElem (by omega)⟩
        have hif:(i:Int) < s.length:=by omega
        obtain ⟨i1,hi1,wi⟩:=qBr (show i < lim by omega)
        have out:∀ fr:Fr,fr 0=vL (vL vI) s→fr 1=vI b→fr 5=.slice (some ⟨h.length,0,none⟩) s.length 0→fr 6=.bool m1→fr 7=vI i1→(m1=false→Clo s b seen1 i l.length) →
            Next (σ:=List Bool×Bool×Nat) (fun x fr h'=>fr 0=vL (vL vI) s∧fr 1=vI b∧fr 5=.slice (some ⟨h.length,0,none⟩) s.length 0∧fr 6=.bool x.2.1∧fr 7=vI x.2.2∧h'=h++[.row ⟨x.1.map vB,1,0,true⟩]∧x.2.2≤s.length∧WInv s b seen x.1 x.2.1∧(x.2.1=false→∀ i' l,i' < x.2.2→s[i']?=some l→Clo s b x.1 i' l.length))
              (fun x=>s.length - x.2.2) (seen',more,i) fr (h++[.row ⟨seen1.map vB,1,0,true⟩]):=by
          intro fr g0 g1 g5 g6 g7 gc;refine .go (seen1,m1,i1) (by simp; omega) ⟨g0,g1,g5,g6,g7,rfl,(by simp; omega),hw',fun hm i' l' h1 h2=>?_⟩
          by_cases e:i'=i
          . subst e; rw [hsi] at h2; cases h2; exact gc hm
          . exact hc' hm i' l' (by simp at h1; omega) h2
        by_cases hkl:k < l.length
        . cases t with
          | false =>
            simp [h0,h1,h5,h6,h7,h8,hif,hsi,hkl,ht,wi];refine out _ ?_ ?_ ?_ ?_ ?_ fun _ h=>by rw [ht] at h; cases h
            all_goals simp [h0,h1,h5,h6]
          | true =>
            obtain ⟨z,hzz⟩:∃ z,l[k]=z:=⟨_,rfl⟩;have hz:l[k]?=some z:=by rw [← hzz]; exact List.getElem?_eq_getElem hkl
            obtain ⟨k1,hk1,wk⟩:=qBr (show k < lim by omega)
            have keep:(z < 0∨(s.length:Int)≤z∨z=b∨∃ j:Nat,z=j∧seen1[j]?=some true)→∀ fr:Fr,fr 0=vL (vL vI) s→fr 1=vI b→fr 5=.slice (some ⟨h.length,0,none⟩) s.length 0→fr 7=vI i→fr 6=.bool m1→fr 8=vI k1 →
                Next (σ:=List Bool×Bool×Nat) (fun x fr h'=>fr 0=vL (vL vI) s∧fr 1=vI b∧fr 5=.slice (some ⟨h.length,0,none⟩) s.length 0∧fr 7=vI i∧fr 6=.bool x.2.1∧fr 8=vI x.2.2∧h'=h++[.row ⟨x.1.map vB,1,0,true⟩]∧x.2.2≤l.length∧WInv s b seen x.1 x.2.1∧(x.2.1=false→∀ i' l,i' < i→s[i']?=some l→Clo s b x.1 i' l.length)∧(x.2.1=false→Clo s b x.1 i x.2.2))
                  (fun x=>l.length - x.2.2) (seen1,m1,k) fr (h++[.row ⟨seen1.map vB,1,0,true⟩]):=by
              intro hcase fr g0 g1 g5 g7 g6 g8;refine .go (seen1,m1,k1) (by simp; omega) ⟨g0,g1,g5,g7,g6,g8,rfl,(by simp; omega),hw',hc',fun hm h1 l' k' j h2 h3 h4 h5 h6=>?_⟩
              rw [hsi] at h2; cases h2
              by_cases e:k'=k
              . subst e
                rw [hz] at h4; cases h4;rcases hcase with h | h | h | ⟨j',h,h'⟩
                . omega
                . omega
                . exact absurd h h6
                . have:j=j':=by omega
                  subst this; exact h'
              . exact hcl hm h1 l k' j hsi (by simp at h3; omega) h4 h5 h6
            by_cases z1:z < 0
            . have z1':¬ 0≤z:=by omega
              simp [h0,h1,h5,h6,h7,h8,hif,hsi,hkl,ht,hz,hzz,z1',wk];refine keep (.inl z1) _ ?_ ?_ ?_ ?_ ?_ ?_<;>simp [h0,h1,h5,h6,h7]
            . obtain ⟨j,rfl⟩:∃ j:Nat,z=j:=⟨z.toNat,by omega⟩
              by_cases z2:j < s.length
              . by_cases z3:(j:Int)=b
                . subst z3
                  simp [h0,h1,h5,h6,h7,h8,hif,hsi,hkl,ht,hz,hzz,z2,wk];refine keep (.inr (.inr (.inl rfl))) _ ?_ ?_ ?_ ?_ ?_ ?_<;>simp [h0,h1,h5,h6,h7]
                . obtain ⟨u,hu⟩:∃ u,seen1[j]?=some u:=⟨_,List.getElem?_eq_getElem (by omega)⟩
                  cases u with
                  | true =>
                    simp [h0,h1,h5,h6,h7,h8,hif,hsi,hkl,ht,hz,hzz,z2,z3,hu,wk];refine keep (.inr (.inr (.inr ⟨j,rfl,hu⟩))) _ ?_ ?_ ?_ ?_ ?_ ?_<;>simp [h0,h1,h5,h6,h7]
                  | false =>
                    have hjl:j < seen1.length:=by omega
                    have st:=own_store (f:=vB) (l:=seen1) (h:=h) (g:=[]) (ver:=0) (off:=j) (x:=true) rfl;rw [if_pos hjl] at st;simp [h0,h1,h5,h6,h7,h8,hif,hsi,hkl,ht,hz,hzz,z2,z3,hu,wk,st];exact .go (seen1.set j true,true,k1) (by simp; omega) ⟨by simp [h0],by simp [h1],by simp [h5],by simp [h7],by simp,by simp,by simp,(by simp; omega),hw'.set ht hsi hz z2 z3 hu,fun h=>by simp at h,fun h=>by simp at h⟩
              . have z2':¬ (j:Int) < s.length:=by omega
                simp [h0,h1,h5,h6,h7,h8,hif,hsi,hkl,ht,hz,hzz,z2,z2',wk];refine keep (.inr (.inl (by omega))) _ ?_ ?_ ?_ ?_ ?_ ?_<;>simp [h0,h1,h5,h6,h7]
        . have hkl':k=l.length:=by omega
          simp [h0,h1,h5,h6,h7,h8,hif,hsi,hkl,ht,wi];refine out _ ?_ ?_ ?_ ?_ ?_ fun hm=>by rw [← hkl']; exact hcl hm
          all_goals simp [h0,h1,h5,h6]
      . have hi':i=s.length:=by omega
        simp [h0,h7,hlt];have hclo:more=false→∀ i l,s[i]?=some l→Clo s b seen' i l.length:=fun hm i' l' h1=>hc' hm i' l' (by have:=(List.getElem?_eq_some_iff.1 h1).1; omega) h1
        refine .go (seen',more) ?_ ⟨by simp [h0],by simp [h1],by simp [h5],by simp [h6],rfl,⟨hw'.len,hw'.far,hw'.zero,.inr ⟨rfl,rfl⟩⟩,hclo⟩
        rcases hw'.more with ⟨e1,e2⟩ | ⟨e1,e2⟩
        . simp only at e1 ⊢; subst e1; simp; omega
        . simp only at e1 ⊢; subst e1; subst e2; simp
end
end Pm
