/- Numbers that are known: which is less; what the least rows are that hold together.
   No condition: plain lemmas. -/

import Derived.Test.YtmdnkninbkcmkaaZGPmVal
import Derived.Test.YtmdnkninbkcmkaaZGPmSuccs
namespace Pm
set_option linter.unusedSimpArgs false
set_option linter.unusedVariables false
open Go Am

/-- It counts as it is. -/
def Bare (v : Val) : Prop := bareV v = v
def leV (a b : Val) : Prop := a = noV ∨ a = b ∨ b = anyV
theorem qGt (v : Val) : Bare (bareV v) := by
  unfold Bare bareV
  by_cases h0 : v.kind = 0
  · simp [h0,noV]
  · by_cases h1 : v.kind = 1
    · simp [h0,h1]
    · simp [h0,h1,anyV]
/-- What there is. -/
theorem Bare.is {v : Val} (h : Bare v) : v = noV ∨ (∃ n,v = oneV n) ∨ v = anyV := by
  unfold Bare bareV at h
  by_cases h0 : v.kind = 0
  · rw [if_pos h0] at h; exact .inl h.symm
  · by_cases h1 : v.kind = 1
    · refine .inr (.inl ⟨v.n,?_⟩)
      cases v; simp [oneV] at *; exact h1
    · rw [if_neg h0,if_neg h1] at h; exact .inr (.inr h.symm)
theorem leV.refl (a : Val) : leV a a := .inr (.inl rfl)
theorem leV.trans {a b c : Val} (hb : Bare b) (hc : Bare c) (h1 : leV a b) (h2 : leV b c) : leV a c := by
  rcases h1 with rfl | rfl | rfl
  · exact .inl rfl
  · exact h2
  · rcases h2 with h | rfl | rfl
    · cases h
    · exact .inr (.inr rfl)
    · exact .inr (.inr rfl)
theorem leV.antisymm {a b : Val} (h1 : leV a b) (h2 : leV b a) : a = b := by
  rcases h1 with rfl | rfl | rfl
  · rcases h2 with rfl | rfl | h
    · rfl
    · rfl
    · cases h
  · rfl
  · rcases h2 with h | rfl | rfl
    · cases h
    · rfl
    · rfl
theorem leV.kind {a b : Val} (ha : Bare a) (hb : Bare b) (h : leV a b) : a.kind ≤ b.kind ∧ (a ≠ b → a.kind < b.kind) := by
  rcases h with rfl | rfl | rfl
  · rcases hb.is with rfl | ⟨n,rfl⟩ | rfl <;> simp [noV,oneV,anyV]
  · simp
  · rcases ha.is with rfl | ⟨n,rfl⟩ | rfl <;> simp [noV,oneV,anyV]
theorem meetV_bare (a b : Val) : Bare (meetV a b) := by
  unfold meetV
  split
  · exact qGt _
  · split
    · exact qGt _
    · rfl
theorem meetV_left {a b : Val} (ha : Bare a) : leV a (meetV a b) := by
  unfold meetV
  rw [show bareV a = a from ha]
  split
  · rename_i h
    rcases ha.is with rfl | ⟨n,rfl⟩ | rfl
    · exact .inl rfl
    · simp [oneV] at h
    · simp [anyV] at h
  · split
    · exact .refl _
    · exact .inr (.inr rfl)
theorem meetV_right {a b : Val} (hb : Bare b) : leV b (meetV a b) := by
  unfold meetV
  rw [show bareV b = b from hb]
  split
  · exact .refl _
  · split
    · rename_i h
      rcases h with h | h
      · rcases hb.is with rfl | ⟨n,rfl⟩ | rfl
        · exact .inl rfl
        · simp [oneV] at h
        · simp [anyV] at h
      · exact .inr (.inl h.symm)
    · exact .inr (.inr rfl)
theorem meetV_least {a b c : Val} (ha : Bare a) (hb : Bare b) (h1 : leV a c) (h2 : leV b c) : leV (meetV a b) c := by
  unfold meetV
  rw [show bareV a = a from ha,show bareV b = b from hb]
  split
  · exact h2
  · split
    · exact h1
    · rename_i n1 n2
      rcases h1 with rfl | rfl | rfl
      · simp [noV] at n1
      · rcases h2 with rfl | rfl | rfl
        · simp [noV] at n2
        · simp at n2
        · exact .refl _
      · exact .refl _
theorem reckonV_bare {op : Nat} {a b : Val} : Bare (reckonV op a b) := by
  unfold reckonV
  repeat' split
  all_goals rfl
theorem reckonV_mono {op : Nat} {a a' b b' : Val} (ha : Bare a) (ha' : Bare a') (hb : Bare b) (hb' : Bare b') (h1 : leV a a') (h2 : leV b b') : leV (reckonV op a b) (reckonV op a' b') := by
  rcases h1 with rfl | rfl | rfl
  · exact .inl (by simp [reckonV,noV])
  · rcases h2 with rfl | rfl | rfl
    · exact .inl (by simp [reckonV,noV])
    · exact .refl _
    · by_cases h : a.kind = 0
      · exact .inl (by simp [reckonV,h,noV])
      · exact .inr (.inr (by simp [reckonV,h,anyV]))
  · rcases h2 with rfl | rfl | rfl
    · exact .inl (by simp [reckonV,noV])
    · by_cases h : b.kind = 0
      · exact .inl (by simp [reckonV,h,noV])
      · exact .inr (.inr (by simp [reckonV,h,anyV]))
    · exact .inr (.inr (by simp [reckonV,anyV]))
theorem bareV_mono {a b : Val} (h : leV a b) : leV (bareV a) (bareV b) := by
  rcases h with rfl | rfl | rfl
  · exact .inl rfl
  · exact .refl _
  · exact .inr (.inr rfl)

/-! ### Of all registers -/
structure Bare4 (x : V4) : Prop where
  a : Bare x.a
  b : Bare x.b
  c : Bare x.c
  d : Bare x.d
structure le4 (x y : V4) : Prop where
  a : leV x.a y.a
  b : leV x.b y.b
  c : leV x.c y.c
  d : leV x.d y.d
theorem le4.refl (x : V4) : le4 x x := ⟨.refl _,.refl _,.refl _,.refl _⟩
theorem le4.trans {x y z : V4} (hy : Bare4 y) (hz : Bare4 z) (h1 : le4 x y) (h2 : le4 y z) : le4 x z := ⟨h1.a.trans hy.a hz.a h2.a,h1.b.trans hy.b hz.b h2.b,h1.c.trans hy.c hz.c h2.c,h1.d.trans hy.d hz.d h2.d⟩
theorem le4.antisymm {x y : V4} (h1 : le4 x y) (h2 : le4 y x) : x = y := by
  cases x; cases y
  have := h1.a.antisymm h2.a; have := h1.b.antisymm h2.b; have := h1.c.antisymm h2.c; have := h1.d.antisymm h2.d
  simp_all
def ht4 (x : V4) : Nat := x.a.kind + x.b.kind + x.c.kind + x.d.kind
theorem Bare.le {v : Val} (h : Bare v) : v.kind ≤ 2 := by rcases h.is with rfl | ⟨n,rfl⟩ | rfl <;> simp [noV,oneV,anyV]
theorem Bare4.ht {x : V4} (h : Bare4 x) : ht4 x ≤ 8 := by
  have := h.a.le; have := h.b.le; have := h.c.le; have := h.d.le
  unfold ht4; omega
theorem le4.ht {x y : V4} (hx : Bare4 x) (hy : Bare4 y) (h : le4 x y) : ht4 x ≤ ht4 y ∧ (x ≠ y → ht4 x < ht4 y) := by
  have ka := h.a.kind hx.a hy.a; have kb := h.b.kind hx.b hy.b; have kc := h.c.kind hx.c hy.c; have kd := h.d.kind hx.d hy.d
  unfold ht4
  refine ⟨by omega,fun hn => ?_⟩
  by_cases ea : x.a = y.a
  · by_cases eb : x.b = y.b
    · by_cases ec : x.c = y.c
      · by_cases ed : x.d = y.d
        · exact absurd (by cases x; cases y; simp_all) hn
        · have := kd.2 ed; omega
      · have := kc.2 ec; omega
    · have := kb.2 eb; omega
  · have := ka.2 ea; omega
theorem meet4_bare (x y : V4) : Bare4 (meet4 x y) := ⟨meetV_bare _ _,meetV_bare _ _,meetV_bare _ _,meetV_bare _ _⟩
theorem meet4_left {x y : V4} (hx : Bare4 x) : le4 x (meet4 x y) := ⟨meetV_left hx.a,meetV_left hx.b,meetV_left hx.c,meetV_left hx.d⟩
theorem meet4_right {x y : V4} (hy : Bare4 y) : le4 y (meet4 x y) := ⟨meetV_right hy.a,meetV_right hy.b,meetV_right hy.c,meetV_right hy.d⟩
theorem meet4_least {x y z : V4} (hx : Bare4 x) (hy : Bare4 y) (h1 : le4 x z) (h2 : le4 y z) : le4 (meet4 x y) z :=
  ⟨meetV_least hx.a hy.a h1.a h2.a,meetV_least hx.b hy.b h1.b h2.b,meetV_least hx.c hy.c h1.c h2.c,meetV_least hx.d hy.d h1.d h2.d⟩
theorem bare_zero : Bare4 zero4 := ⟨rfl,rfl,rfl,rfl⟩
def one4 : V4 := ⟨oneV 0,oneV 0,oneV 0,oneV 0⟩
theorem bare_one4 : Bare4 one4 := ⟨rfl,rfl,rfl,rfl⟩
theorem zero_le (x : V4) : le4 zero4 x := ⟨.inl rfl,.inl rfl,.inl rfl,.inl rfl⟩
theorem at_mono {x y : V4} (h : le4 x y) (r : Int) : leV (x.at r) (y.at r) := by
  unfold V4.at
  repeat' split
  · exact h.a
  · exact h.b
  · exact h.c
  · exact h.d
  · exact .refl _
theorem valOf_bare {i : Ins} {l : V4} : Bare (valOf i l) := by
  unfold valOf
  repeat' split
  · rfl
  · exact qGt _
  · exact reckonV_bare
  · rfl
theorem valOf_mono {i : Ins} {x y : V4} (h : le4 x y) : leV (valOf i x) (valOf i y) := by
  unfold valOf
  repeat' split
  · exact .refl _
  · exact bareV_mono (at_mono h _)
  · exact reckonV_mono (qGt _) (qGt _) (qGt _) (qGt _) (bareV_mono (at_mono h _)) (bareV_mono (at_mono h _))
  · exact .refl _
theorem doR_bare {i : Ins} {l : V4} {r : Int} : Bare (doR i l r) := by
  unfold doR; split
  · exact valOf_bare
  · exact qGt _
theorem doR_mono {i : Ins} {x y : V4} (h : le4 x y) (r : Int) : leV (doR i x r) (doR i y r) := by
  unfold doR; split
  · exact valOf_mono h
  · exact bareV_mono (at_mono h _)
theorem qHd {i : Ins} {l : V4} : Bare4 (doV i l) := ⟨doR_bare,doR_bare,doR_bare,doR_bare⟩
theorem doV_mono {i : Ins} {x y : V4} (h : le4 x y) : le4 (doV i x) (doV i y) := ⟨doR_mono h _,doR_mono h _,doR_mono h _,doR_mono h _⟩

/-! ### Rows that hold together -/
/-- What comes to `k`: from `i`,by what is known there. -/
def Flow (code : List Ins) (F : Nat → V4) (i k : Nat) (x : V4) : Prop := Come (succs code) i ∧ ∃ c l,code[i]? = some c ∧ (succs code)[i]? = some l ∧ (k : Int) ∈ l ∧ x = doV c (F i)
structure Holds (code : List Ins) (F : Nat → V4) : Prop where
  bare : ∀ i,Bare4 (F i)
  start : le4 one4 (F 0)
  flow : ∀ i k x,k < code.length → Flow code F i k x → le4 x (F k)
def rowF (out : List V4) (i : Nat) : V4 := out[i]?.getD zero4
structure Least (code : List Ins) (out : List V4) : Prop where
  len : out.length = code.length
  holds : 0 < code.length → Holds code (rowF out)
  least : ∀ F,Holds code F → ∀ i,le4 (rowF out i) (F i)
theorem Least.unique {code : List Ins} {a b : List V4} (ha : Least code a) (hb : Least code b) : a = b := by
  by_cases h0 : 0 < code.length
  · refine List.ext_getElem (by rw [ha.len,hb.len]) fun i h1 h2 => ?_
    have e1 := ha.least _ (hb.holds h0) i
    have e2 := hb.least _ (ha.holds h0) i
    have e := e1.antisymm e2
    simpa [rowF,h1,h2] using e
  · have h1 := ha.len; have h2 := hb.len
    rw [List.eq_nil_of_length_eq_zero (l := a) (by omega),List.eq_nil_of_length_eq_zero (l := b) (by omega)]
end Pm
/- Numbers that are known: the program's rows; boxes of rows.
   No condition: plain lemmas. -/
namespace Pm
set_option linter.unusedSimpArgs false
set_option linter.unusedVariables false
open Go Am

def bxV (l : List V4) : Ob := bx (l.flatMap c4) 8
def bxL {α : Type} (f : α → Value) (l : List α) : Ob := bx (l.map f) 1
def bxQ (cs : List Value) (ver : Nat) : Ob := .row ⟨cs,1,ver,true⟩
section
variable {α : Type} {f : α → Value} {h : Heap} {rs L : List Ob} {cs new : List Value} {l : List V4} {x y : V4} {r off n ver len : Nat} {a b : Ob}
theorem qEb (x : V4) : (c4 x).length = 8 := rfl
theorem qEf : Value.agg (c4 x).toArray = vK x := rfl
theorem qCu : cellsOf (vK x) = some (c4 x) := rfl
theorem qAw {i : Ins} : (vIns i).length = 4 := rfl
theorem qAu {i : Ins} : (vIns i).take 4 = vIns i := rfl
theorem qDo : (c4 x).take 8 = c4 x := rfl
theorem qCx {z1 z2 z3 z4 z5 z6 z7 z8 : Value} : setAll [z1,z2,z3,z4,z5,z6,z7,z8] 0 (c4 x) = c4 x := rfl
theorem qEi {g : Bool} : eqAV [0,0,0,0,0,0,0,0] g (vK x) (vK y) = some (.bool (if g then !decide (x = y) else decide (x = y))) := by
  have e : (x = y) ↔ (x.a.kind : Int) = y.a.kind ∧ x.a.n = y.a.n ∧ (x.b.kind : Int) = y.b.kind ∧ x.b.n = y.b.n ∧ (x.c.kind : Int) = y.c.kind ∧ x.c.n = y.c.n ∧ (x.d.kind : Int) = y.d.kind ∧ x.d.n = y.d.n := by
    constructor
    · rintro rfl; simp
    · rintro ⟨h1,h2,h3,h4,h5,h6,h7,h8⟩
      obtain ⟨⟨_,_⟩,⟨_,_⟩,⟨_,_⟩,⟨_,_⟩⟩ := x
      obtain ⟨⟨_,_⟩,⟨_,_⟩,⟨_,_⟩,⟨_,_⟩⟩ := y
      simp only at h1 h2 h3 h4 h5 h6 h7 h8
      subst h2 h4 h6 h8
      simp only [V4.mk.injEq,Val.mk.injEq,and_true]
      omega
  have k : eqCs [0,0,0,0,0,0,0,0] (c4 x) (c4 y) = some (decide (x = y)) := by
    simp only [c4,eqCs_int,eqCs_nil,e]
    by_cases h1 : (x.a.kind : Int) = y.a.kind <;> by_cases h2 : x.a.n = y.a.n <;> by_cases h3 : (x.b.kind : Int) = y.b.kind <;> by_cases h4 : x.b.n = y.b.n <;>
      by_cases h5 : (x.c.kind : Int) = y.c.kind <;> by_cases h6 : x.c.n = y.c.n <;> by_cases h7 : (x.d.kind : Int) = y.d.kind <;> by_cases h8 : x.d.n = y.d.n <;> simp only [h1,h2,h3,h4,h5,h6,h7,h8,if_true,if_false,and_true,true_and,and_false,false_and,decide_true,decide_false]
  show eqAV _ _ (.agg (c4 x).toArray) (.agg (c4 y).toArray) = _
  rw [eqAV_agg,k]
  rfl
theorem qCv : cellsB (some (bxV l)) (r * 8) 8 = (l[r]?).map c4 := by
  unfold bxV
  rw [qAf,qEt (e := 8) (fun _ => rfl)]
  by_cases hr : r < l.length
  · rw [if_pos (by omega),flat_seg (e := 8) (fun _ => rfl) l r l[r] (by simp [hr])]
    simp [hr]
  · rw [if_neg (by omega)]
    simp [hr]
theorem qCt : storeB (some (bxV l)) (r * 8) 8 (c4 x) = if r < l.length then some (bxV (l.set r x)) else none := by
  unfold bxV
  rw [qAc,qEt (e := 8) (fun _ => rfl),qEb]
  by_cases hr : r < l.length
  · rw [if_pos ⟨rfl,by omega⟩,if_pos hr,flat_set (e := 8) (fun _ => rfl) l r x hr]
  · rw [if_neg (by omega),if_neg hr]
theorem storeV_a {v : Val} : storeB (some (bxV (x :: l))) 0 2 [v8 v.kind,vI v.n] = some (bxV ({ x with a := v } :: l)) := by unfold bxV; rw [qAc,if_pos ⟨rfl,by simp [c4]⟩]; rfl
theorem storeV_b {v : Val} : storeB (some (bxV (x :: l))) 2 2 [v8 v.kind,vI v.n] = some (bxV ({ x with b := v } :: l)) := by unfold bxV; rw [qAc,if_pos ⟨rfl,by simp [c4]⟩]; rfl
theorem storeV_c {v : Val} : storeB (some (bxV (x :: l))) 4 2 [v8 v.kind,vI v.n] = some (bxV ({ x with c := v } :: l)) := by unfold bxV; rw [qAc,if_pos ⟨rfl,by simp [c4]⟩]; rfl
theorem storeV_d {v : Val} : storeB (some (bxV (x :: l))) 6 2 [v8 v.kind,vI v.n] = some (bxV ({ x with d := v } :: l)) := by unfold bxV; rw [qAc,if_pos ⟨rfl,by simp [c4]⟩]; rfl
theorem qCs {l : List α} : cellB (some (bxL f l)) off = (l[off]?).map f := by unfold bxL; rw [qAj,List.getElem?_map]
theorem qCq {l : List Bool} {b : Bool} : storeB (some (bxL vB l)) off 1 [.bool b] = if off < l.length then some (bxL vB (l.set off b)) else none := by
  unfold bxL
  rw [qAc]
  by_cases hr : off < l.length
  · rw [if_pos ⟨rfl,by simp; omega⟩,if_pos hr]
    simp
  · rw [if_neg (by simp; omega),if_neg hr]
theorem rep_zero4 : ∀ n : Nat,rep n [.int .u8 0,.int .i64 0,.int .u8 0,.int .i64 0,.int .u8 0,.int .i64 0,.int .u8 0,.int .i64 0] = (List.replicate n zero4).flatMap c4
  | 0 => rfl
  | n + 1 => by rw [List.replicate_succ,List.flatMap_cons,← rep_zero4 n]; rfl
theorem rep_false : ∀ n : Nat,rep n [.bool false] = (List.replicate n false).map vB
  | 0 => rfl
  | n + 1 => by rw [List.replicate_succ,List.map_cons,← rep_false n]; rfl
theorem qDt : bx (rep n [.int .u8 0,.int .i64 0,.int .u8 0,.int .i64 0,.int .u8 0,.int .i64 0,.int .u8 0,.int .i64 0]) 8 = bxV (List.replicate n zero4) := by rw [rep_zero4]; rfl
theorem qDp : bx (rep n [.bool false]) 1 = bxL vB (List.replicate n false) := by rw [rep_false]; rfl
theorem make_box {n : Nat} {z : List Value} {e : Nat} {k k' : IntKind} (hn : n ≤ lim) : makeV h z e (.int k n) (.int k' n) = some (.slice (some ⟨h.length,0,none⟩) n 0,h ++ [bx (rep n z) e]) := by
  simp only [makeV]
  rw [if_pos ⟨by omega,Int.le_refl _,by omega⟩]
  simp [qAk]
theorem qGr : (h ++ (a :: b :: bxQ cs ver :: L)).row? (h.length + 2) ver = some ⟨cs,1,ver,true⟩ := by simp [Heap.row?,bxQ]
theorem qEh : (h ++ (a :: b :: bxQ cs ver :: L)).cell? (h.length + 2) off ver = cs[off]? := by
  simp [Heap.cell?,Heap.row?,bxQ]
theorem qGs : cutV (h ++ (a :: b :: bxQ cs ver :: L)) 1 (.slice (some ⟨h.length + 2,off,none⟩) len ver) (some (.int .i64 1)) none = if 1 ≤ len then some (.slice (some ⟨h.length + 2,off + 1,none⟩) (len - 1) ver) else none := by
  simp [cutV,Heap.row?,bxQ,loV,hiV]
theorem qEg {v : Value} : pApp (h ++ (a :: b :: bxQ cs ver :: L)) 1 (.slice (some ⟨h.length + 2,off,none⟩) len ver) v = match pElems (h ++ (a :: b :: bxQ cs ver :: L)) 1 v with
    | some (n,new) => if off + len ≤ cs.length ∧ len + n ≤ lim then some (.slice (some ⟨h.length + 2,0,none⟩) (len + n) (ver + 1),h ++ (a :: b :: bxQ ((cs.drop off).take len ++ new) (ver + 1) :: L)) else none
    | none => none := by
  unfold pApp
  cases pElems (h ++ (a :: b :: bxQ cs ver :: L)) 1 v with
  | none => rfl
  | some p =>
    obtain ⟨n,new⟩ := p
    simp only [pMore]
    have e : (h ++ (a :: b :: bxQ cs ver :: L)).row? (h.length + 2) ver = some ⟨cs,1,ver,true⟩ := by simp [Heap.row?,bxQ]
    rw [e]
    simp only [Nat.mul_one,true_and]
    split
    · rw [List.set_append_right _ _ (by omega)]
      simp [bxQ]
    · rfl
theorem qDq {ex : List Ob} {j : Nat} : (ex ++ L)[ex.length + j]? = L[j]? := by rw [List.getElem?_append_right (by omega)]; congr 1; omega
theorem qDr {ex : List Ob} : (ex ++ L)[ex.length]? = L[0]? := qDq (j := 0)
theorem qDe {ex : List Ob} {j : Nat} : (ex ++ L).set (ex.length + j) a = ex ++ L.set j a := by rw [List.set_append_right _ _ (by omega)]; congr 2; omega
theorem qDg {ex : List Ob} : (ex ++ L).set ex.length a = ex ++ L.set 0 a := qDe (j := 0)
theorem at_old {ex : List Ob} {p : Nat} (hp : ex[p]? = some a) : (ex ++ L)[p]? = some a := by
  obtain ⟨h1,h2⟩ := List.getElem?_eq_some_iff.1 hp
  rw [List.getElem?_append_left h1,hp]
end

/-! ### Sums -/
theorem sum_set {α : Type} (f : α → Nat) : ∀ (l : List α) (k : Nat) (x y : α),l[k]? = some x → ((l.set k y).map f).sum + f x = (l.map f).sum + f y
  | [],_,_,_,h => by simp at h
  | a :: l,0,x,y,h => by simp at h; subst h; simp; omega
  | a :: l,k + 1,x,y,h => by
    have := sum_set f l k x y (by simpa using h)
    simp only [List.set_cons_succ,List.map_cons,List.sum_cons]; omega
theorem sum_le {α : Type} (f : α → Nat) (B : Nat) : ∀ (l : List α),(∀ x ∈ l,f x ≤ B) → (l.map f).sum ≤ B * l.length
  | [],_ => by simp
  | a :: l,h => by
    have h1 := sum_le f B l fun x hx => h x (by simp [hx])
    have h2 := h a (by simp)
    simp [Nat.mul_succ]; omega
end Pm
/- Numbers that are known: the program's rows.
   No condition: plain lemmas. -/
namespace Pm
set_option linter.unusedSimpArgs false
set_option linter.unusedVariables false
open Go Am
open Go.Proofs.Try (prog)

theorem out_inl {h : Heap} {out : List V4} {L : List Ob} {n : Nat} (hn : n = out.length) : Inl h.length (h ++ (bxV out :: L)) (.slice (some ⟨h.length,0,none⟩) n 0) (vM 8 c4 out) :=
  AccM.inl (e := 8) (F := c4) (b := h.length) (.inr ⟨_,0,by rw [hn],Nat.le_refl _,by simp [bxV,bx],qEt (e := 8) (fun _ => rfl) _⟩) fun _ => rfl
/-- Each has been come to. -/
def Vis (seen : List Bool) (i : Nat) : Prop := i = 0 ∨ seen[i]? = some true
def b2n (b : Bool) : Nat := if b then 1 else 0
def wgt (out : List V4) (seen : List Bool) : Nat := (out.map ht4).sum + (seen.map b2n).sum
/-- How things stand between two rounds. `but`: the one that is being looked at. -/
structure VInv (code : List Ins) (out : List V4) (seen : List Bool) (q : List Nat) (but : Option Nat) : Prop where
  olen : out.length = code.length
  slen : seen.length = code.length
  bare : ∀ i,Bare4 (rowF out i)
  qvis : ∀ i ∈ q,i < code.length ∧ Vis seen i
  come : ∀ i,Vis seen i → i < code.length → Come (succs code) i
  start : le4 one4 (rowF out 0)
  least : ∀ F,Holds code F → ∀ i,le4 (rowF out i) (F i)
  flow : ∀ i c l k,Vis seen i → i ∉ q → some i ≠ but → code[i]? = some c → (succs code)[i]? = some l → (k : Nat) < code.length → (k : Int) ∈ l → seen[k]? = some true ∧ le4 (doV c (rowF out i)) (rowF out k)
  qlen : q.length ≤ wgt out seen + 1
/-- The one that is looked at: so far. -/
def VDone (code : List Ins) (out : List V4) (seen : List Bool) (q : List Nat) (i : Nat) (c : Ins) (l : List Int) (x : V4) (j : Nat) : Prop :=
  i ∈ q ∨ (x = doV c (rowF out i) ∧ ∀ k : Nat,k < code.length → (k : Int) ∈ l.take j → seen[k]? = some true ∧ le4 x (rowF out k))
theorem qFf {out : List V4} {i : Nat} {x : V4} (h : out[i]? = some x) : rowF out i = x := by simp [rowF,h]
theorem rowF_set {out : List V4} {i j : Nat} {x : V4} (hi : i < out.length) : rowF (out.set i x) j = if j = i then x else rowF out j := by
  unfold rowF
  by_cases hj : j = i
  · subst hj; simp [hi]
  · rw [List.getElem?_set_ne (Ne.symm hj),if_neg hj]
theorem wgt_le {out : List V4} {seen : List Bool} {n : Nat} (ho : out.length = n) (hs : seen.length = n) (hb : ∀ i,Bare4 (rowF out i)) : wgt out seen ≤ 9 * n := by
  have h1 := sum_le ht4 8 out fun x hx => by
    obtain ⟨i,hi,rfl⟩ := List.getElem_of_mem hx
    have := hb i
    rw [qFf (x := out[i]) (by simp [hi])] at this
    exact this.ht
  have h2 := sum_le b2n 1 seen fun x _ => by unfold b2n; split <;> omega
  unfold wgt; omega
theorem succs_mem {code : List Ins} {i : Nat} {l : List Int} (h : (succs code)[i]? = some l) : i < code.length := by
  have := (List.getElem?_eq_some_iff.1 h).1
  rwa [qDc] at this
/-- At first. -/
theorem VInv.init {code : List Ins} {m : Nat} (hm : code.length = m + 1) : VInv code (one4 :: List.replicate m zero4) (List.replicate code.length false) [0] none := by
  have hr : ∀ i,rowF (one4 :: List.replicate m zero4) i = if i = 0 then one4 else zero4 := by
    intro i
    cases i with
    | zero => rfl
    | succ i =>
      unfold rowF
      rw [List.getElem?_cons_succ,List.getElem?_replicate,if_neg (show ¬ i + 1 = 0 by omega)]
      split <;> rfl
  have hv : ∀ i,Vis (List.replicate code.length false) i → i = 0 := by
    rintro i (h | h)
    · exact h
    · rw [List.getElem?_replicate] at h
      split at h <;> simp at h
  refine ⟨by simp [hm],by simp,?_,?_,?_,?_,?_,?_,by simp⟩
  · intro i; rw [hr]; split
    · exact bare_one4
    · exact bare_zero
  · intro i hi
    simp at hi; subst hi
    exact ⟨by omega,.inl rfl⟩
  · intro i hi _
    rw [hv i hi]
    exact .start (by rw [qDc]; omega)
  · rw [hr]; exact .refl _
  · intro F hF i
    rw [hr]; split
    · rename_i e; rw [e]; exact hF.start
    · exact zero_le _
  · intro i c l k hi hn
    rw [hv i hi] at hn
    simp at hn
/-- One is taken. -/
theorem VInv.pop {code : List Ins} {out : List V4} {seen : List Bool} {i : Nat} {q : List Nat} {c : Ins} {l : List Int} (v : VInv code out seen (i :: q) none) (hc : code[i]? = some c) (hl : (succs code)[i]? = some l) :
    VInv code out seen q (some i) ∧ VDone code out seen q i c l (doV c (rowF out i)) 0 := by
  refine ⟨⟨v.olen,v.slen,v.bare,fun j hj => v.qvis j (by simp [hj]),v.come,v.start,v.least,?_,?_⟩,.inr ⟨rfl,fun k _ hk => by simp at hk⟩⟩
  · intro i' c' l' k hv hn hb
    refine v.flow i' c' l' k hv ?_ (by simp)
    simp only [List.mem_cons,not_or]
    exact ⟨fun e => hb (by rw [e]),hn⟩
  · have := v.qlen; simp at this; omega
/-- All of one is done. -/
theorem VInv.done {code : List Ins} {out : List V4} {seen : List Bool} {i j : Nat} {q : List Nat} {c : Ins} {l : List Int} {x : V4} (v : VInv code out seen q (some i)) (d : VDone code out seen q i c l x j) (hj : l.length ≤ j) (hc : code[i]? = some c) (hl : (succs code)[i]? = some l) :
    VInv code out seen q none := by
  refine ⟨v.olen,v.slen,v.bare,v.qvis,v.come,v.start,v.least,?_,v.qlen⟩
  intro i' c' l' k hv hn _ hc' hl' hk hkl
  by_cases hi : i' = i
  · subst hi
    rw [hc] at hc'; cases hc'
    rw [hl] at hl'; cases hl'
    rcases d with d | ⟨d1,d2⟩
    · exact absurd d hn
    · rw [← d1]
      exact d2 k hk (by rw [List.take_of_length_le hj]; exact hkl)
  · exact v.flow i' c' l' k hv hn (fun e => hi (Option.some.inj e)) hc' hl' hk hkl
/-- One way is looked at,and nothing is new. -/
theorem VDone.same {code : List Ins} {out : List V4} {seen : List Bool} {i j k : Nat} {q : List Nat} {c : Ins} {l : List Int} {x o : V4} (v : VInv code out seen q (some i)) (d : VDone code out seen q i c l x j) (hx : Bare4 x) (hk : l[j]? = some (k : Int)) (ho : out[k]? = some o) (hm : meet4 o x = o) (hs : seen[k]? = some true) :
    VDone code out seen q i c l x (j + 1) := by
  rcases d with d | ⟨d1,d2⟩
  · exact .inl d
  · refine .inr ⟨d1,fun k' hk' hm' => ?_⟩
    rw [List.take_add_one,hk] at hm'
    simp only [Option.toList_some,List.mem_append,List.mem_singleton] at hm'
    rcases hm' with hm' | hm'
    · exact d2 k' hk' hm'
    · have : k' = k := by omega
      subst this
      refine ⟨hs,?_⟩
      rw [qFf ho,← hm]
      exact meet4_right hx
theorem VDone.out {code : List Ins} {out : List V4} {seen : List Bool} {i j : Nat} {q : List Nat} {c : Ins} {l : List Int} {x : V4} {k : Int} (d : VDone code out seen q i c l x j) (hk : l[j]? = some k) (ho : k < 0 ∨ code.length ≤ k) :
    VDone code out seen q i c l x (j + 1) := by
  rcases d with d | ⟨d1,d2⟩
  · exact .inl d
  · refine .inr ⟨d1,fun k' hk' hm' => ?_⟩
    rw [List.take_add_one,hk] at hm'
    simp only [Option.toList_some,List.mem_append,List.mem_singleton] at hm'
    rcases hm' with hm' | hm'
    · exact d2 k' hk' hm'
    · omega
theorem seen_set {seen : List Bool} {k i : Nat} (hk : k < seen.length) : (seen.set k true)[i]? = if i = k then some true else seen[i]? := by
  by_cases hi : i = k
  · subst hi; simp [hk]
  · rw [List.getElem?_set_ne (Ne.symm hi),if_neg hi]
/-- Something new is known. -/
theorem VInv.new {code : List Ins} {out : List V4} {seen : List Bool} {i j k : Nat} {q : List Nat} {c : Ins} {l : List Int} {x o : V4} {s : Bool} (v : VInv code out seen q (some i)) (d : VDone code out seen q i c l x j) (hx : Bare4 x) (hk : l[j]? = some (k : Int)) (ho : out[k]? = some o) (hs : seen[k]? = some s)
    (hi : Vis seen i) (hl : (succs code)[i]? = some l) (hc : code[i]? = some c) (hF : ∀ F,Holds code F → le4 x (doV c (F i))) (hnew : meet4 o x ≠ o ∨ s = false) :
    VInv code (out.set k (meet4 o x)) (seen.set k true) (q ++ [k]) (some i) ∧ VDone code (out.set k (meet4 o x)) (seen.set k true) (q ++ [k]) i c l x (j + 1) ∧ wgt out seen < wgt (out.set k (meet4 o x)) (seen.set k true) := by
  have hko := (List.getElem?_eq_some_iff.1 ho).1
  have hks := (List.getElem?_eq_some_iff.1 hs).1
  have hkc : k < code.length := by rw [← v.olen]; exact hko
  have hob : Bare4 o := by rw [← qFf ho]; exact v.bare k
  have hic : i < code.length := succs_mem hl
  have hyb := meet4_bare o x
  obtain ⟨y,hy⟩ : ∃ y,y = meet4 o x := ⟨_,rfl⟩
  have hoy : le4 o y := by rw [hy]; exact meet4_left hob
  have hxy : le4 x y := by rw [hy]; exact meet4_right hx
  rw [← hy] at hyb hnew ⊢
  have hR : ∀ i',rowF (out.set k y) i' = if i' = k then y else rowF out i' := fun i' => rowF_set hko
  have hS : ∀ i',(seen.set k true)[i']? = if i' = k then some true else seen[i']? := fun i' => seen_set hks
  have hup : ∀ i',le4 (rowF out i') (rowF (out.set k y) i') := fun i' => by
    rw [hR]; split
    · rename_i e; rw [e,qFf ho]; exact hoy
    · exact .refl _
  have hb' : ∀ i',Bare4 (rowF (out.set k y) i') := fun i' => by
    rw [hR]; split
    · exact hyb
    · exact v.bare i'
  have hvis : ∀ i',Vis (seen.set k true) i' ↔ Vis seen i' ∨ i' = k := fun i' => by
    unfold Vis; rw [hS]
    by_cases e : i' = k
    · simp [e]
    · simp [e]
  have hw : wgt out seen < wgt (out.set k y) (seen.set k true) := by
    have w1 := sum_set ht4 out k o y ho
    have w2 := sum_set b2n seen k s true hs
    have w3 := hoy.ht hob hyb
    have w4 : b2n true = 1 := rfl
    have w5 : b2n s ≤ 1 := by unfold b2n; split <;> omega
    unfold wgt
    rcases hnew with hn | hn
    · have := w3.2 (Ne.symm hn); omega
    · subst hn
      have w6 : b2n false = 0 := rfl
      omega
  refine ⟨⟨by simp [v.olen],by simp [v.slen],hb',?_,?_,v.start.trans (v.bare 0) (hb' 0) (hup 0),?_,?_,?_⟩,?_,hw⟩
  · intro i' hi'
    rw [hvis]
    rcases List.mem_append.1 hi' with e | e
    · exact ⟨(v.qvis i' e).1,.inl (v.qvis i' e).2⟩
    · simp at e; subst e; exact ⟨hkc,.inr rfl⟩
  · intro i' hi' hlt
    rcases (hvis i').1 hi' with e | e
    · exact v.come i' e hlt
    · rw [e]
      exact .step (v.come i hi hic) hl (List.mem_of_getElem? hk) (by rw [qDc]; exact hkc)
  · intro F hF' i'
    rw [hR]; split
    · rename_i e
      have h1 : le4 o (F k) := by rw [← qFf ho]; exact v.least F hF' k
      have h2 : le4 x (F k) := (hF F hF').trans qHd (hF'.bare k) (hF'.flow i k _ hkc ⟨v.come i hi hic,c,l,hc,hl,List.mem_of_getElem? hk,rfl⟩)
      rw [e,hy]
      exact meet4_least hob hx h1 h2
    · exact v.least F hF' i'
  · intro i' c' l' k' hv hn hb hc' hl' hk' hkl
    simp only [List.mem_append,List.mem_singleton,not_or] at hn
    have hv' : Vis seen i' := by
      rcases (hvis i').1 hv with e | e
      · exact e
      · exact absurd e hn.2
    have := v.flow i' c' l' k' hv' hn.1 hb hc' hl' hk' hkl
    refine ⟨by rw [hS,this.1]; simp,?_⟩
    rw [hR i',if_neg hn.2]
    exact this.2.trans (v.bare k') (hb' k') (hup k')
  · have := v.qlen; simp; omega
  · by_cases hik : i = k
    · exact .inl (by simp [hik])
    · rcases d with d | ⟨d1,d2⟩
      · exact .inl (by simp [d])
      · refine .inr ⟨by rw [hR,if_neg hik]; exact d1,fun k' hk' hm' => ?_⟩
        rw [List.take_add_one,hk] at hm'
        simp only [Option.toList_some,List.mem_append,List.mem_singleton] at hm'
        rcases hm' with hm' | hm'
        · have := d2 k' hk' hm'
          exact ⟨by rw [hS,this.1]; simp,this.2.trans (v.bare k') (hb' k') (hup k')⟩
        · have : k' = k := by omega
          subst this
          exact ⟨by rw [hS]; simp,by rw [hR,if_pos rfl]; exact hxy⟩
/-- At the end. -/
theorem VInv.end {code : List Ins} {out : List V4} {seen : List Bool} (h0 : 0 < code.length) (v : VInv code out seen [] none) : Least code out := by
  have hvis : ∀ i,Come (succs code) i → Vis seen i := by
    intro i hi
    induction hi with
    | start => exact .inl rfl
    | step hi hl hj hlt ih =>
      rename_i i j l
      have hic := succs_mem hl
      exact .inr (v.flow i code[i] l j ih (by simp) (by simp) (by simp [hic]) hl (by rw [qDc] at hlt; exact hlt) hj).1
  refine ⟨v.olen,fun _ => ⟨v.bare,v.start,?_⟩,v.least⟩
  rintro i k x hk ⟨hi,c,l,hc,hl,hkl,rfl⟩
  exact (v.flow i c l k (hvis i hi) (by simp) (by simp) hc hl hk hkl).2
end Pm
