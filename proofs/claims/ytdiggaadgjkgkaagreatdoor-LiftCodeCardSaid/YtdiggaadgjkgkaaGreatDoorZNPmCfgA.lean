/- Graphs: what was shown on the abstract machine, said of the pure one.
   No condition: plain lemmas. -/
import Derived.Test.YtdiggaadgjkgkaaGreatDoorZNPm5
import Derived.Test.YtdiggaadgjkgkaaGreatDoorZNAmDoms
import Derived.Test.YtdiggaadgjkgkaaGreatDoorZNAmRun
import Derived.Test.YtdiggaadgjkgkaaGreatDoorZNAmCfgC
namespace Pm
set_option linter.unusedSimpArgs false
set_option linter.unusedVariables false
open Go Am
open Go.Proofs.Tryz (prog)

def Self (c:Value):Prop:=∀ (W:Nat→Prop) (H:Heap) (m:Map),(∀ v,R W H m c v→v=c)∧R W H m c c
theorem qHg (k:IntKind) (n:Int):Self (.int k n):=fun _ _ _=>⟨fun _ h=>qFo h,.int _ _⟩
theorem self_bool (b:Bool):Self (.bool b):=fun _ _ _=>⟨fun _ h=>qJh h,.bool _⟩

section
variable {α : Type} {f : α → Value} {W : Nat → Prop} {H : Heap} {m : Map} {v : Value}
theorem rl_of_R {l:List α} {e:List Value→α→Prop} (h:R W H m (vL f l) v) (he:∀ x∈l,∀ c,R W H Map.none (f x) c→e [c] x):RL e 1 Any H v l:=by
  unfold vL at h
  generalize hn:l.length=n at h
  generalize hcs:l.map f=cs at h
  have h0:=h;cases h with
  | lstNil=>exact .inl ⟨rfl,List.length_eq_zero_iff.1 hn⟩
  | @lst _ _ _ _ a off ver r hr hf he' hl hb hc =>
    subst hn hcs;obtain ⟨h1,h2⟩:=Heap.row?_some hr;refine .inr ⟨a,off,ver,r,rfl,trivial,h1,h2,he',hb,fun i x hx=>?_⟩
    have hi:=(List.getElem?_eq_some_iff.1 hx).1;have hlt:off+i < r.cells.length:=by omega
    rw [Nat.mul_one,List.drop_eq_getElem_cons hlt];exact he x (List.mem_of_getElem? hx) _ (hc i (f x) _ (by simp [hx]) (List.getElem?_eq_getElem hlt))
theorem L1_of_R {l:List α} (hs:∀ x,Self (f x)) (h:R W H m (vL f l) v):L1 f Any H v l :=
  rl_of_R h fun x _ c hc=>by show [c]=[f x]; rw [(hs x W H _).1 c hc]
theorem qRv {s:List (List α)} (hs:∀ x,Self (f x)) (h:R W H m (vL (vL f) s) v):L2 f Any H v s :=
  rl_of_R h fun _ _ c hc=>⟨c,rfl,L1_of_R hs hc⟩
theorem R_of_rl {l:List α} {b:Nat} {e:List Value→α→Prop} (h:RL e 1 (From b) H v l) (hw:∀ a,b≤a→¬ W a) (he:∀ x∈l,∀ cs,e cs x→∃ c,cs=[c]∧R W H Map.none (f x) c):R W H m (vL f l) v:=by
  rcases h with ⟨rfl,rfl⟩ | ⟨id,off,ver,r,rfl,h2,h3,h4,h5,h6,h7⟩
  . exact .lstNil
  . refine .lst (by simp [Heap.row?,h3,h4]) (hw _ h2) h5 (by simp) h6 fun j c w h8 h9=>?_
    rw [List.getElem?_map] at h8;obtain ⟨x,hx,rfl⟩:=Option.map_eq_some_iff.1 h8;obtain ⟨c',e1,e2⟩:=he x (List.mem_of_getElem? hx) _ (h7 j x hx);have hlt:=(List.getElem?_eq_some_iff.1 h9);obtain ⟨hlt,hw'⟩:=hlt;rw [Nat.mul_one,List.drop_eq_getElem_cons hlt] at e1;simp only [List.take_succ_cons,List.take_zero,List.cons.injEq,and_true] at e1;rw [← hw',e1]; exact e2
theorem qQq {l:List α} {b:Nat} (hs:∀ x,Self (f x)) (h:L1 f (From b) H v l) (hw:∀ a,b≤a→¬ W a):R W H m (vL f l) v :=
  R_of_rl h hw fun x _ cs hcs=>⟨f x,hcs,(hs x _ _ _).2⟩
theorem R_of_L2 {s:List (List α)} {b:Nat} (hs:∀ x,Self (f x)) (h:L2 f (From b) H v s) (hw:∀ a,b≤a→¬ W a):R W H m (vL (vL f) s) v :=
  R_of_rl h hw fun x _ cs ⟨w,e1,e2⟩=>⟨w,e1,qQq hs e2 hw⟩
end

theorem qBl.ofA {P:Program} {f:FuncId} {args:List Value} {h:Heap} {K:Value→Heap→Prop}
    (k:∀ (m:Map) (H:Heap) (vals:List Value),PRel m h H→Rs (Wr m h) H m args vals→qCq P f vals H fun v H'=>((∀ i,i < H.length→H'[i]?=H[i]?)∧H.length≤H'.length)∧((∀ a,H.length≤a→¬ Wr m h a)→∃ p,K p h∧R (Wr m h) H' m p v)):qBl P f args h K:=by
  intro m H vals hP hr;refine (k m H vals hP hr).mono fun v H'=>?_
  rintro ⟨⟨h1,h2⟩,h3⟩;have hs:Stp (Wr m h) H (Wr m h) H':=⟨h2,fun a ha _=>h1 a ha,fun a ha=>.inl ha⟩
  obtain ⟨p,k1,k2⟩:=h3 fun a ha ⟨id,r,_,_,e⟩=>by have:=(hP.dom id a e).2; omega
  refine ⟨p,h,m,k1,⟨fun id r hid=>?_,hP.inj,fun id a ha=>⟨(hP.dom id a ha).1,Nat.lt_of_lt_of_le (hP.dom id a ha).2 h2⟩⟩,k2,.refl m,hs⟩
  obtain ⟨a,r',q1,q2,q3,q4,q5,q6⟩:=hP.row id r hid;exact ⟨a,r',q1,by rw [h1 a (hP.dom _ _ q1).2]; exact q2,q3,q4,q5,q6.mono hs (.refl m)⟩

theorem qOf {W:Nat→Prop} {H:Heap} {m:Map} {p:Value} {vals:List Value} (h:Rs W H m [p] vals):∃ v,vals=[v]∧R W H m p v:=by
  cases h with | cons h t=>cases t; exact ⟨_,rfl,h⟩
theorem rs_two {W:Nat→Prop} {H:Heap} {m:Map} {p q:Value} {vals:List Value} (h:Rs W H m [p,q] vals):∃ v w,vals=[v,w]∧R W H m p v∧R W H m q w:=by
  cases h with | cons h t=>cases t with | cons h' t=>cases t; exact ⟨_,_,rfl,h,h'⟩
theorem rs_nil {W:Nat→Prop} {H:Heap} {m:Map} {vals:List Value} (h:Rs W H m [] vals):vals=[]:=by cases h; rfl

section
variable {h : Heap} {K : Value → Heap → Prop}
theorem Reach_call {s:List (List Int)} (hl:(s.map List.length).sum+s.length+1≤lim) (hk:∀ seen:List Bool,seen.length=s.length→(∀ i,seen[i]?=some true↔Come s i)→K (vL vB seen) h):qBl prog 38 [vL (vL vI) s] h K:=by
  refine .ofA fun m H vals hP hr=>?_
  obtain ⟨v,rfl,hv⟩:=qOf hr;refine (Reach_spec (qRv (fun x=>qHg _ _) hv).narrow (fun i h=>h) hl).mono fun r H'=>?_
  rintro ⟨seen,h1,⟨ext,rfl⟩,h3,h4⟩;exact ⟨⟨fun i hi=>List.getElem?_append_left hi,by simp⟩,fun hw=>⟨_,hk seen h3 h4,qQq (fun x=>self_bool _) h1 hw⟩⟩
theorem Preds_call {s:List (List Int)} (hl:s.length < lim) (hll:∀ l∈s,l.length≤lim) (hk:K (vL (vL vI) (qFp s)) h):qBl prog 36 [vL (vL vI) s] h K:=by
  refine .ofA fun m H vals hP hr=>?_
  obtain ⟨v,rfl,hv⟩:=qOf hr;refine (Preds_spec (qRv (fun x=>qHg _ _) hv).narrow (fun i h=>h) hl hll).mono fun r H'=>?_
  rintro ⟨h1,h2,h3⟩;exact ⟨⟨h2,h3⟩,fun hw=>⟨_,hk,R_of_L2 (fun x=>qHg _ _) h1 hw⟩⟩
theorem Doms_call {s:List (List Int)} (hn:s.length≤64) (hsum:(s.map List.length).sum+s.length+1≤lim) (hk:∀ d,DomsOf s d→K (vL vU d) h):qBl prog 37 [vL (vL vI) s] h K:=by
  refine .ofA fun m H vals hP hr=>?_
  obtain ⟨v,rfl,hv⟩:=qOf hr;refine (Doms_spec (qRv (fun x=>qHg _ _) hv).narrow (fun i h=>h) hn hsum).mono fun r H'=>?_
  rintro ⟨d,h1,h2,h3,h4⟩;exact ⟨⟨h3,h4⟩,fun hw=>⟨_,hk d h1,qQq (fun x=>qHg _ _) h2 hw⟩⟩
theorem qKm {s:Nat} {l:List Int} (hs:s < 18446744073709551616) (hl:l.length < lim) (hk:K (vU (qDi s l)) h):qBl prog 19 [vU s,vL vI l] h K:=by
  refine .ofA fun m H vals hP hr=>?_
  obtain ⟨v,w,rfl,hv,hw⟩:=rs_two hr;cases qFo hv;exact qNv hs (L1_of_R (fun x=>qHg _ _) hw) hl ⟨⟨fun _ _=>rfl,Nat.le_refl _⟩,fun _=>⟨_,hk,.int _ _⟩⟩
theorem bit_call {i:Int} (hk:K (vU (bitN i)) h):qBl prog 44 [vI i] h K:=by
  refine .ofA fun m H vals hP hr=>?_
  obtain ⟨v,rfl,hv⟩:=qOf hr;cases qFo hv;exact bit_spec ⟨⟨fun _ _=>rfl,Nat.le_refl _⟩,fun _=>⟨_,hk,.int _ _⟩⟩
theorem two_call {i:Nat} (hi:i < 64) (hk:K (vU (2 ^ i)) h):qBl prog 111 [vI i] h K:=by
  refine .ofA fun m H vals hP hr=>?_
  obtain ⟨v,rfl,hv⟩:=qOf hr;cases qFo hv;exact two_spec hi ⟨⟨fun _ _=>rfl,Nat.le_refl _⟩,fun _=>⟨_,hk,.int _ _⟩⟩
end
end Pm
