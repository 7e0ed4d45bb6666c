/- The run of a program: one instruction,without the program.
   No condition: plain lemmas. -/

import Derived.Test.YtmdnkninbkcmkaaZGPmSound5
import Derived.Test.YtmdnkninbkcmkaaZGPmLive2
import Derived.Test.YtmdnkninbkcmkaaZGPmFold7
namespace Pm
set_option linter.unusedSimpArgs false
set_option linter.unusedVariables false
open Go Am

/-- What is shared by threads. -/
structure G where
  began : List Int
  vars : List Int
  atoms : List Int
  locks : List Int
  queue : List (List Int)
  closed : List Int
  groups : List Int
  onces : List Int
  told : List Int
  trap : Int
/-- A step,as it is told of. -/
structure Ev where
  thread : Int
  pc : Int
  op : Nat
  obj : Int
  value : Int
  mode : Int
def gI (l : List Int) (x : Int) : Int := l[x.toNat]?.getD 0
def sI (l : List Int) (x v : Int) : List Int := l.set x.toNat v
def gL (l : List (List Int)) (x : Int) : List Int := l[x.toNat]?.getD []
def w64 (x : Int) : Int := IntKind.i64.wrap x
def numI (b : Bool) : Int := if b = true then 1 else 0
/-- What an instruction comes to. -/
structure Xr where
  pc : Int
  r : List Int
  g : G
  e : Ev
def execSync (k pc : Int) (i : Ins) (r : List Int) (g : G) : Xr :=
  let e : Ev := ⟨k,pc,i.op,i.a,0,0⟩
  match i.op with
  | 12 => ⟨pc + 1,r,{ g with trap := gI g.began i.a,began := sI g.began i.a 1 },e⟩
  | 13 => ⟨pc + 1,r,{ g with locks := sI g.locks i.a (-1) },e⟩
  | 14 => ⟨pc + 1,r,if gI g.locks i.a = -1 then { g with trap := 0,locks := sI g.locks i.a 0 } else { g with trap := 1 },e⟩
  | 15 => ⟨pc + 1,r,{ g with locks := sI g.locks i.a (w64 (gI g.locks i.a + 1)) },e⟩
  | 16 => ⟨pc + 1,r,if gI g.locks i.a < 1 then { g with trap := 1 } else { g with trap := 0,locks := sI g.locks i.a (w64 (gI g.locks i.a - 1)) },e⟩
  | 18 => ⟨pc + 1,r,{ g with atoms := sI g.atoms i.a (gI r i.b) },{ e with value := gI r i.b }⟩
  | 20 => ⟨pc + 1,r,if gI g.closed i.a = 0 then { g with trap := 0,queue := g.queue.set i.a.toNat (gL g.queue i.a ++ [gI r i.b]) } else { g with trap := gI g.closed i.a },{ e with value := gI r i.b }⟩
  | 23 => ⟨pc + 1,r,{ g with trap := gI g.closed i.a,closed := sI g.closed i.a 1 },e⟩
  | 24 => ⟨pc + 1,r,if w64 (gI g.groups i.a + i.b) < 0 then { g with trap := 1 } else { g with trap := 0,groups := sI g.groups i.a (w64 (gI g.groups i.a + i.b)) },{ e with value := i.b }⟩
  | 27 => ⟨pc + 1,r,if gI g.onces i.a = 1 then { g with trap := 0,onces := sI g.onces i.a 2 } else { g with trap := 1 },e⟩
  | 17 => ⟨pc + 1,sI r i.a (gI g.atoms i.b),g,{ e with obj := i.b,value := gI g.atoms i.b }⟩
  | 19 => ⟨pc + 1,sI r i.a (gI g.atoms i.b),{ g with atoms := sI g.atoms i.b (w64 (gI g.atoms i.b + gI r i.c)) },{ e with obj := i.b,value := gI g.atoms i.b }⟩
  | 21 => match gL g.queue i.b with
    | v :: q => ⟨pc + 1,sI r i.a v,{ g with queue := g.queue.set i.b.toNat q },{ e with obj := i.b,value := v,mode := 1 }⟩
    | [] => ⟨pc + 1,sI r i.a 0,g,{ e with obj := i.b,mode := if gI g.closed i.b = 1 then 2 else 0 }⟩
  | 22 => match gL g.queue i.b with
    | v :: q => ⟨pc + 1,sI (sI r i.a v) i.c 1,{ g with queue := g.queue.set i.b.toNat q },{ e with obj := i.b,value := v,mode := 1 }⟩
    | [] => ⟨pc + 1,sI (sI r i.a 0) i.c 0,g,{ e with obj := i.b,mode := if gI g.closed i.b = 1 then 2 else 0 }⟩
  | 26 => if gI g.onces i.b = 0 then ⟨pc + 1,sI r i.a 1,{ g with onces := sI g.onces i.b 1 },{ e with obj := i.b,mode := 1 }⟩ else ⟨pc + 1,sI r i.a 0,g,{ e with obj := i.b }⟩
  | 25 => ⟨pc + 1,r,g,e⟩
  | _ => ⟨pc + 1,r,g,{ e with obj := 0 }⟩
def exec (k pc : Int) (i : Ins) (r : List Int) (g : G) : Xr :=
  let e : Ev := ⟨k,pc,i.op,0,0,0⟩
  match i.op with
  | 1 => ⟨pc + 1,sI r i.a i.b,g,e⟩
  | 2 => ⟨pc + 1,sI r i.a (gI r i.b),g,e⟩
  | 3 => ⟨pc + 1,sI r i.a (w64 (gI r i.b + gI r i.c)),g,e⟩
  | 4 => ⟨pc + 1,sI r i.a (w64 (gI r i.b - gI r i.c)),g,e⟩
  | 5 => ⟨pc + 1,sI r i.a (w64 (gI r i.b * gI r i.c)),g,e⟩
  | 6 => ⟨pc + 1,sI r i.a (numI (decide (gI r i.b < gI r i.c))),g,e⟩
  | 7 => ⟨pc + 1,sI r i.a (gI g.vars i.b),g,{ e with obj := i.b,value := gI g.vars i.b }⟩
  | 8 => ⟨pc + 1,r,{ g with vars := sI g.vars i.a (gI r i.b) },{ e with obj := i.a,value := gI r i.b }⟩
  | 9 => ⟨pc + 1,r,{ g with told := g.told ++ [gI r i.a] },{ e with value := gI r i.a }⟩
  | 10 => ⟨i.a,r,g,e⟩
  | 11 => ⟨if gI r i.a = 0 then i.b else pc + 1,r,g,e⟩
  | _ => execSync k pc i r g

/-! ### What an instruction reads and sets -/
theorem regs_bit {w : Nat} {i : Ins} {j : Nat} : ∀ n,(regsOf w i n).testBit j = true ↔ ∃ k,k < n ∧ wordAt i.op k = w ∧ (bitN (numAt i k)).testBit j = true
  | 0 => by simp [regsOf]
  | n + 1 => by
    rw [regsOf_succ]
    have ih := regs_bit (w := w) (i := i) (j := j) n
    split
    · rename_i h
      rw [Nat.testBit_or,Bool.or_eq_true,ih]
      constructor
      · rintro (⟨k,h1,h2,h3⟩ | h3)
        · exact ⟨k,by omega,h2,h3⟩
        · exact ⟨n,by omega,h,h3⟩
      · rintro ⟨k,h1,h2,h3⟩
        rcases Nat.lt_or_ge k n with h4 | h4
        · exact .inl ⟨k,h4,h2,h3⟩
        · obtain rfl : k = n := by omega
          exact .inr h3
    · rename_i h
      rw [ih]
      constructor
      · rintro ⟨k,h1,h2,h3⟩; exact ⟨k,by omega,h2,h3⟩
      · rintro ⟨k,h1,h2,h3⟩
        rcases Nat.lt_or_ge k n with h4 | h4
        · exact ⟨k,h4,h2,h3⟩
        · obtain rfl : k = n := by omega
          exact absurd h2 h
theorem bitN_bit {x : Int} (h0 : 0 ≤ x) (h4 : x < 4) {j : Nat} : (bitN x).testBit j = true ↔ j = x.toNat := by
  unfold bitN
  rw [if_pos ⟨h0,by omega⟩,Nat.testBit_two_pow]
  simp [eq_comm]
theorem InsOk.numOf {p : Prog} {n : Nat} {i : Ins} (h : InsOk p n i) {k : Nat} (hk : k < 3) : NumOk p n (wordAt i.op k) (numAt i k) := by
  have : k = 0 ∨ k = 1 ∨ k = 2 := by omega
  rcases this with rfl | rfl | rfl
  · exact h.a
  · exact h.b
  · exact h.c
theorem InsOk.reg {p : Prog} {n : Nat} {i : Ins} (h : InsOk p n i) {k w : Nat} (hk : k < 3) (hw : wordAt i.op k = w) (h23 : w = 2 ∨ w = 3) : 0 ≤ numAt i k ∧ numAt i k < 4 := by
  have := h.numOf hk
  rw [hw] at this
  have h2 := this.2 (by omega) (by omega)
  have e : manyP p n w = 4 := by unfold manyP; rw [if_pos h23]
  rw [e] at h2
  exact ⟨h2.1,h2.2.1⟩
theorem InsOk.bit {p : Prog} {n : Nat} {i : Ins} (h : InsOk p n i) {w j : Nat} (h23 : w = 2 ∨ w = 3) : (regsOf w i 3).testBit j = true ↔ ∃ k,k < 3 ∧ wordAt i.op k = w ∧ j = (numAt i k).toNat := by
  rw [regs_bit]
  constructor
  · rintro ⟨k,h1,h2,h3⟩
    obtain ⟨g1,g2⟩ := h.reg h1 h2 h23
    exact ⟨k,h1,h2,(bitN_bit g1 g2).1 h3⟩
  · rintro ⟨k,h1,h2,h3⟩
    obtain ⟨g1,g2⟩ := h.reg h1 h2 h23
    exact ⟨k,h1,h2,(bitN_bit g1 g2).2 h3⟩
theorem three (P : Nat → Prop) : (∃ k,k < 3 ∧ P k) ↔ P 0 ∨ P 1 ∨ P 2 := by
  constructor
  · rintro ⟨k,h1,h2⟩
    have : k = 0 ∨ k = 1 ∨ k = 2 := by omega
    rcases this with rfl | rfl | rfl
    · exact .inl h2
    · exact .inr (.inl h2)
    · exact .inr (.inr h2)
  · rintro (h | h | h)
    · exact ⟨0,by omega,h⟩
    · exact ⟨1,by omega,h⟩
    · exact ⟨2,by omega,h⟩
/-- Its registers by places. -/
theorem InsOk.reads {p : Prog} {n : Nat} {i : Ins} (h : InsOk p n i) {r r' : List Int} (hr : ∀ j : Nat,(usesOf i).testBit j = true → r[j]? = r'[j]?) :
    (wordAt i.op 0 = 3 → gI r i.a = gI r' i.a) ∧ (wordAt i.op 1 = 3 → gI r i.b = gI r' i.b) ∧ (wordAt i.op 2 = 3 → gI r i.c = gI r' i.c) := by
  refine ⟨fun hw => ?_,fun hw => ?_,fun hw => ?_⟩ <;> unfold gI
  · have e : r[i.a.toNat]? = r'[i.a.toNat]? := hr _ ((h.bit (.inr rfl)).2 ⟨0,by omega,hw,rfl⟩)
    rw [e]
  · have e : r[i.b.toNat]? = r'[i.b.toNat]? := hr _ ((h.bit (.inr rfl)).2 ⟨1,by omega,hw,rfl⟩)
    rw [e]
  · have e : r[i.c.toNat]? = r'[i.c.toNat]? := hr _ ((h.bit (.inr rfl)).2 ⟨2,by omega,hw,rfl⟩)
    rw [e]
theorem sI_len (l : List Int) (x v : Int) : (sI l x v).length = l.length := by simp [sI]
theorem sI_at (l : List Int) (x v : Int) (j : Nat) : (sI l x v)[j]? = if j = x.toNat then (if j < l.length then some v else none) else l[j]? := by
  unfold sI
  rw [List.getElem?_set]
  by_cases h : j = x.toNat
  · subst h; simp
  · rw [if_neg h,if_neg (Ne.symm h)]
theorem sI_same {r r' : List Int} (hl : r.length = r'.length) {x v : Int} {j : Nat} (h : r[j]? = r'[j]? ∨ j = x.toNat) : (sI r x v)[j]? = (sI r' x v)[j]? := by
  rw [sI_at,sI_at,hl]
  split
  · rfl
  · rename_i hn
    rcases h with h | h
    · exact h
    · exact absurd h hn
theorem sI_off {r : List Int} {x v : Int} {j : Nat} (h : j ≠ x.toNat) : (sI r x v)[j]? = r[j]? := by rw [sI_at,if_neg h]
theorem sI_two {r r' : List Int} (hl : r.length = r'.length) {x v y u : Int} {j : Nat} (h : r[j]? = r'[j]? ∨ j = x.toNat ∨ j = y.toNat) : (sI (sI r x v) y u)[j]? = (sI (sI r' x v) y u)[j]? := by
  refine sI_same (by rw [sI_len,sI_len,hl]) ?_
  rcases h with h | h | h
  · exact .inl (sI_same hl (.inl h))
  · exact .inl (sI_same hl (.inr h))
  · exact .inr h
/-- It depends on what it reads alone. -/
structure Dep (r r' : List Int) (s : Nat) (x x' : Xr) : Prop where
  pc : x.pc = x'.pc
  g : x.g = x'.g
  e : x.e = x'.e
  regs : ∀ j : Nat,(r[j]? = r'[j]? ∨ s.testBit j = true) → x.r[j]? = x'.r[j]?
  len : x.r.length = r.length
  stay : ∀ j : Nat,s.testBit j = false → x.r[j]? = r[j]?
theorem exec_dep {p : Prog} {n : Nat} {i : Ins} (ho : InsOk p n i) {r r' : List Int} (hl : r.length = r'.length) {k pc : Int} {g : G} (hr : ∀ j : Nat,(usesOf i).testBit j = true → r[j]? = r'[j]?) : Dep r r' (setsOf i) (exec k pc i r g) (exec k pc i r' g) := by
  obtain ⟨u0,u1,u2⟩ := ho.reads hr
  have hs : ∀ j : Nat,(setsOf i).testBit j = true ↔ ∃ k,k < 3 ∧ wordAt i.op k = 2 ∧ j = (numAt i k).toNat := fun j => ho.bit (.inl rfl)
  simp only [three] at hs
  have h27 := ho.op
  clear ho hr
  obtain ⟨op,a,b,c⟩ := i
  obtain ⟨s,hse⟩ : ∃ s,s = setsOf ⟨op,a,b,c⟩ := ⟨_,rfl⟩
  rw [← hse] at hs ⊢
  clear hse
  have n0 : numAt ⟨op,a,b,c⟩ 0 = a := rfl
  have n1 : numAt ⟨op,a,b,c⟩ 1 = b := rfl
  have n2 : numAt ⟨op,a,b,c⟩ 2 = c := rfl
  simp only [n0,n1,n2] at hs
  simp only at u0 u1 u2 hs h27
  clear n0 n1 n2
  rcases op_le27 h27 with rfl | rfl | rfl | rfl | rfl | rfl | rfl | rfl | rfl | rfl | rfl | rfl | rfl | rfl | rfl | rfl | rfl | rfl | rfl | rfl | rfl | rfl | rfl | rfl | rfl | rfl | rfl | rfl <;>
    simp [wordAt,wordsOf] at u0 u1 u2 hs
  all_goals
    try simp only [exec,execSync,u0,u1,u2]
  all_goals
    repeat' split
  all_goals
    refine ⟨?_,?_,?_,fun j h => ?_,?_,fun j h => ?_⟩
  all_goals
    first
    | rfl
    | (refine h.elim id fun h => ?_; rw [hs] at h; exact absurd h (by simp))
    | exact sI_same hl (h.imp id (hs j).1)
    | exact sI_two hl (h.imp id (hs j).1)
    | exact sI_len _ _ _
    | exact (sI_len _ _ _).trans (sI_len _ _ _)
    | exact sI_off fun e => by have := (hs j).2 e; rw [h] at this; cases this
    | exact (sI_off fun e => by have := (hs j).2 (.inr e); rw [h] at this; cases this).trans (sI_off fun e => by have := (hs j).2 (.inl e); rw [h] at this; cases this)
end Pm

/- The run of a program: its states and steps; two runs side by side; without the program.
   No condition: plain lemmas. -/

namespace Pm
set_option linter.unusedSimpArgs false
set_option linter.unusedVariables false
open Go Am

theorem next_mem {i : Nat} {c : Ins} : (c.op = 10 → c.a ∈ nextsOf i c) ∧ (c.op = 11 → c.b ∈ nextsOf i c) ∧ (c.op ≠ 10 → ((i + 1 : Nat) : Int) ∈ nextsOf i c) := by
  have h2 : ∀ x y : Int,x ∈ cmpct (srt [x,y]) ∧ y ∈ cmpct (srt [x,y]) := by
    intro x y
    unfold srt
    simp only
    split
    · unfold cmpct; simp only; split
      · rename_i h; subst h; simp
      · simp
    · unfold cmpct; simp only; split
      · rename_i h; subst h; simp
      · simp
  refine ⟨fun h => ?_,fun h => ?_,fun h => ?_⟩
  · unfold nextsOf
    rw [if_pos h]
    simp [srt,cmpct]
  · unfold nextsOf
    rw [if_neg (by omega),if_pos h]
    exact (h2 _ _).2
  · unfold nextsOf
    rw [if_neg h]
    split
    · exact (h2 _ _).1
    · simp [srt,cmpct]
theorem InsOk.place {p : Prog} {n : Nat} {i : Ins} (h : InsOk p n i) {k : Nat} (hk : k < 3) (hw : wordAt i.op k = 5) : 0 ≤ numAt i k ∧ numAt i k ≤ n := by
  have := h.numOf hk
  rw [hw] at this
  have h2 := this.2 (by omega) (by omega)
  have e : manyP p n 5 = n + 1 := rfl
  rw [e] at h2
  exact ⟨h2.1,by omega⟩
/-- Where it leads. -/
theorem exec_next {p : Prog} {n i : Nat} {c : Ins} (ho : InsOk p n c) (hi : i < n) (k : Int) (r : List Int) (g : G) : ∃ j : Nat,(exec k i c r g).pc = j ∧ (j : Int) ∈ nextsOf i c ∧ j ≤ n := by
  obtain ⟨m1,m2,m3⟩ := next_mem (i := i) (c := c)
  have h27 := ho.op
  have on : c.op ≠ 10 → c.op ≠ 11 → (exec k i c r g).pc = ((i + 1 : Nat) : Int) := by
    intro n1 n2
    obtain ⟨op,a,b,d⟩ := c
    simp only at h27 n1 n2
    rcases op_le27 h27 with rfl | rfl | rfl | rfl | rfl | rfl | rfl | rfl | rfl | rfl | rfl | rfl | rfl | rfl | rfl | rfl | rfl | rfl | rfl | rfl | rfl | rfl | rfl | rfl | rfl | rfl | rfl | rfl
    all_goals first
      | exact absurd rfl n1
      | exact absurd rfl n2
      | rfl
      | (simp only [exec,execSync]; split <;> rfl)
  by_cases h10 : c.op = 10
  · obtain ⟨h0,h1⟩ := ho.place (k := 0) (by omega) (by rw [h10]; rfl)
    have e : numAt c 0 = c.a := rfl
    rw [e] at h0 h1
    refine ⟨c.a.toNat,?_,?_,by omega⟩
    · unfold exec; rw [h10]; simp only; omega
    · rw [show ((c.a.toNat : Nat) : Int) = c.a by omega]; exact m1 h10
  · by_cases h11 : c.op = 11
    · obtain ⟨h0,h1⟩ := ho.place (k := 1) (by omega) (by rw [h11]; rfl)
      have e : numAt c 1 = c.b := rfl
      rw [e] at h0 h1
      by_cases hz : gI r c.a = 0
      · refine ⟨c.b.toNat,?_,?_,by omega⟩
        · unfold exec; rw [h11]; simp only; rw [if_pos hz]; omega
        · rw [show ((c.b.toNat : Nat) : Int) = c.b by omega]; exact m2 h11
      · refine ⟨i + 1,?_,m3 h10,by omega⟩
        unfold exec; rw [h11]; simp only; rw [if_neg hz]; omega
    · exact ⟨i + 1,on h10 h11,m3 h10,by omega⟩

/-! ### States -/
structure MS where
  at_ : List Int
  r : List (List Int)
  g : G
def blockedM (chans : List Int) (g : G) (i : Ins) : Bool :=
  match i.op with
  | 13 => decide (gI g.locks i.a ≠ 0)
  | 15 => decide (gI g.locks i.a = -1)
  | 20 => decide (gI g.closed i.a = 0 ∧ ((gL g.queue i.a).length : Int) = gI chans i.a)
  | 21 => decide (gI g.closed i.b = 0 ∧ (gL g.queue i.b).length = 0)
  | 25 => decide (0 < gI g.groups i.a)
  | 26 => decide (gI g.onces i.b = 1)
  | _ => false
def insAt (p : Prog) (s : MS) (k : Nat) : Option Ins := (p.threads[k]?).bind fun t => (s.at_[k]?).bind fun a => t[a.toNat]?
/-- Whether a thread can go on. -/
def canM (p : Prog) (s : MS) (k : Int) : Bool :=
  decide (0 ≤ k) && decide (k < s.at_.length) && decide (gI s.g.began k ≠ 0) && decide (s.g.trap ≠ 1) && match insAt p s k.toNat with | some i => !blockedM p.chans s.g i | none => false
def goM (p : Prog) (s : MS) (k : Int) (i : Ins) : Xr := exec k (gI s.at_ k) i (gL s.r k) s.g
def ev0 : Ev := ⟨0,0,0,0,0,0⟩
def stepM (p : Prog) (s : MS) (k : Int) : MS × Ev × Bool :=
  if canM p s k = true then
    match insAt p s k.toNat with
    | some i => let x := goM p s k i; (⟨sI s.at_ k x.pc,s.r.set k.toNat x.r,x.g⟩,x.e,true)
    | none => (s,ev0,false)
  else (s,ev0,false)
theorem canM_ins {p : Prog} {s : MS} {k : Int} (h : canM p s k = true) : ∃ n : Nat,k = n ∧ n < s.at_.length ∧ ∃ i,insAt p s n = some i ∧ blockedM p.chans s.g i = false := by
  unfold canM at h
  simp only [Bool.and_eq_true,decide_eq_true_eq] at h
  obtain ⟨⟨⟨⟨h0,h1⟩,h2⟩,h3⟩,h4⟩ := h
  refine ⟨k.toNat,by omega,by omega,?_⟩
  cases hi : insAt p s k.toNat with
  | none => rw [hi] at h4; cases h4
  | some i => rw [hi] at h4; exact ⟨i,rfl,by simpa using h4⟩
theorem stepM_go {p : Prog} {s : MS} {k : Int} {i : Ins} (h : canM p s k = true) (hi : insAt p s k.toNat = some i) : stepM p s k = (⟨sI s.at_ k (goM p s k i).pc,s.r.set k.toNat (goM p s k i).r,(goM p s k i).g⟩,(goM p s k i).e,true) := by
  unfold stepM
  rw [if_pos h,hi]
theorem stepM_no {p : Prog} {s : MS} {k : Int} (h : canM p s k = false) : stepM p s k = (s,ev0,false) := by
  unfold stepM
  rw [if_neg (by rw [h]; simp)]
theorem insAt_of {p : Prog} {s : MS} {k : Nat} {i : Ins} (h : insAt p s k = some i) : ∃ t a,p.threads[k]? = some t ∧ s.at_[k]? = some a ∧ t[a.toNat]? = some i := by
  unfold insAt at h
  cases ht : p.threads[k]? with
  | none => rw [ht] at h; cases h
  | some t =>
    rw [ht] at h
    simp only [Option.bind_some] at h
    cases ha : s.at_[k]? with
    | none => rw [ha] at h; cases h
    | some a => rw [ha] at h; exact ⟨t,a,rfl,rfl,h⟩

/-! ### States that may be -/
structure Shape (p : Prog) (s : MS) : Prop where
  at_ : s.at_.length = p.threads.length
  r : s.r.length = p.threads.length
  r4 : ∀ x ∈ s.r,x.length = 4
  pc : ∀ (k : Nat) (a : Int) (t : List Ins),s.at_[k]? = some a → p.threads[k]? = some t → 0 ≤ a ∧ a ≤ t.length
  began : s.g.began.length = p.threads.length
  vars : (s.g.vars.length : Int) = p.vars
  atoms : (s.g.atoms.length : Int) = p.atoms
  locks : (s.g.locks.length : Int) = p.locks
  groups : (s.g.groups.length : Int) = p.groups
  onces : (s.g.onces.length : Int) = p.onces
  queue : s.g.queue.length = p.chans.length
  closed : s.g.closed.length = p.chans.length
  room : ∀ (j : Nat) (l : List Int),s.g.queue[j]? = some l → (l.length : Int) ≤ gI p.chans j
/-- What an instruction leaves as it was,and how much more it tells. -/
structure Kin (chans : List Int) (g g' : G) : Prop where
  began : g'.began.length = g.began.length
  vars : g'.vars.length = g.vars.length
  atoms : g'.atoms.length = g.atoms.length
  locks : g'.locks.length = g.locks.length
  groups : g'.groups.length = g.groups.length
  onces : g'.onces.length = g.onces.length
  queue : g'.queue.length = g.queue.length
  closed : g'.closed.length = g.closed.length
  told : g'.told.length ≤ g.told.length + 1
  room : (∀ (j : Nat) (l : List Int),g.queue[j]? = some l → (l.length : Int) ≤ gI chans j) → ∀ (j : Nat) (l : List Int),g'.queue[j]? = some l → (l.length : Int) ≤ gI chans j
theorem Kin.refl (chans : List Int) (g : G) : Kin chans g g := ⟨rfl,rfl,rfl,rfl,rfl,rfl,rfl,rfl,by omega,fun h => h⟩
theorem room_set {chans : List Int} {q : List (List Int)} {x : Int} (hx : 0 ≤ x) {l' : List Int} (hl : (l'.length : Int) ≤ gI chans x) (h : ∀ (j : Nat) (l : List Int),q[j]? = some l → (l.length : Int) ≤ gI chans j) :
    ∀ (j : Nat) (l : List Int),(q.set x.toNat l')[j]? = some l → (l.length : Int) ≤ gI chans j := by
  intro j l hj
  rw [List.getElem?_set] at hj
  split at hj
  · rename_i e
    split at hj
    · cases hj
      have : (j : Int) = x := by omega
      rw [this]; exact hl
    · cases hj
  · exact h j l hj
theorem qIj {q : List (List Int)} {x : Int} (h0 : 0 ≤ x) (h : x < q.length) : q[x.toNat]? = some (gL q x) := by
  have hl : x.toNat < q.length := by omega
  unfold gL
  rw [List.getElem?_eq_getElem hl]
  rfl
theorem room_snoc {chans : List Int} {q : List (List Int)} {x v : Int} (hx : 0 ≤ x ∧ x < q.length) (hc : ¬ ((gL q x).length : Int) = gI chans x) (h : ∀ (j : Nat) (l : List Int),q[j]? = some l → (l.length : Int) ≤ gI chans j) :
    ∀ (j : Nat) (l : List Int),(q.set x.toNat (gL q x ++ [v]))[j]? = some l → (l.length : Int) ≤ gI chans j := by
  refine room_set hx.1 ?_ h
  have := h _ _ (qIj hx.1 hx.2)
  rw [show ((x.toNat : Nat) : Int) = x by omega] at this
  simp
  omega
theorem room_tail {chans : List Int} {q : List (List Int)} {x v : Int} {l : List Int} (hx : 0 ≤ x ∧ x < q.length) (hc : gL q x = v :: l) (h : ∀ (j : Nat) (l : List Int),q[j]? = some l → (l.length : Int) ≤ gI chans j) :
    ∀ (j : Nat) (l' : List Int),(q.set x.toNat l)[j]? = some l' → (l'.length : Int) ≤ gI chans j := by
  refine room_set hx.1 ?_ h
  have := h _ _ (qIj hx.1 hx.2)
  rw [show ((x.toNat : Nat) : Int) = x by omega,hc] at this
  simp at this
  omega
theorem exec_kin {p : Prog} {n : Nat} {i : Ins} (ho : InsOk p n i) {k pc : Int} {r : List Int} {g : G} (hb : blockedM p.chans g i = false) (hq : g.queue.length = p.chans.length) : Kin p.chans g (exec k pc i r g).g := by
  have h27 := ho.op
  have w9 : ∀ k,k < 3 → wordAt i.op k = 9 → 0 ≤ numAt i k ∧ numAt i k < p.chans.length := by
    intro k hk hw
    have := ho.numOf hk
    rw [hw] at this
    have h2 := this.2 (by omega) (by omega)
    exact ⟨h2.1,h2.2.1⟩
  obtain ⟨op,a,b,c⟩ := i
  have w0 := w9 0 (by omega)
  have w1 := w9 1 (by omega)
  have e0 : numAt ⟨op,a,b,c⟩ 0 = a := rfl
  have e1 : numAt ⟨op,a,b,c⟩ 1 = b := rfl
  rw [e0] at w0
  rw [e1] at w1
  clear w9 e0 e1 ho
  simp only at h27 w0 w1
  rcases op_le27 h27 with rfl | rfl | rfl | rfl | rfl | rfl | rfl | rfl | rfl | rfl | rfl | rfl | rfl | rfl | rfl | rfl | rfl | rfl | rfl | rfl | rfl | rfl | rfl | rfl | rfl | rfl | rfl | rfl
  all_goals simp [wordAt,wordsOf] at w0 w1
  all_goals simp only [exec,execSync]
  all_goals repeat' split
  all_goals first
    | exact Kin.refl _ _
    | (refine ⟨?_,?_,?_,?_,?_,?_,?_,?_,?_,?_⟩ <;> first | exact sI_len _ _ _ | rfl | exact Nat.le_succ _ | (simp; done) | exact fun h => h | skip)
  · refine room_snoc (by omega) fun e => ?_
    rename_i hz
    simp [blockedM,hz,e] at hb
  · exact room_tail (by omega) (by assumption)
  · exact room_tail (by omega) (by assumption)
theorem exec_r4 {p : Prog} {n : Nat} {i : Ins} (ho : InsOk p n i) (k pc : Int) (r : List Int) (g : G) : (exec k pc i r g).r.length = r.length := (exec_dep ho (r := r) (r' := r) rfl fun _ _ => rfl).len
/-- What a step needs to know of where it stands. -/
structure At (p : Prog) (s : MS) (k : Nat) (t : List Ins) (i : Nat) (c : Ins) (r : List Int) : Prop where
  thr : p.threads[k]? = some t
  pc : s.at_[k]? = some (i : Int)
  ins : t[i]? = some c
  regs : s.r[k]? = some r
  r4 : r.length = 4
  ok : InsOk p t.length c
  gpc : gI s.at_ k = i
  gr : gL s.r k = r
theorem Shape.at' {p : Prog} {s : MS} (hp : SoundP p) (h : Shape p s) {k : Int} (hc : canM p s k = true) : ∃ (n : Nat) (t : List Ins) (i : Nat) (c : Ins) (r : List Int),k = n ∧ At p s n t i c r ∧ blockedM p.chans s.g c = false ∧ stepM p s k = (⟨s.at_.set n (exec n i c r s.g).pc,s.r.set n (exec n i c r s.g).r,(exec n i c r s.g).g⟩,(exec n i c r s.g).e,true) := by
  obtain ⟨n,rfl,hn,c,hi,hb⟩ := canM_ins hc
  obtain ⟨t,a,h1,h2,h3⟩ := insAt_of hi
  obtain ⟨g0,g1⟩ := h.pc n a t h2 h1
  obtain ⟨i,rfl⟩ : ∃ i : Nat,a = i := ⟨a.toNat,by omega⟩
  have hnr : n < s.r.length := by rw [h.r,← h.at_]; exact hn
  have hr : s.r[n]? = some s.r[n] := List.getElem?_eq_getElem hnr
  have hg : gI s.at_ (n : Int) = i := by unfold gI; rw [show ((n : Int)).toNat = n by omega,h2]; rfl
  have hgr : gL s.r (n : Int) = s.r[n] := by unfold gL; rw [show ((n : Int)).toNat = n by omega,hr]; rfl
  have hins : insAt p s ((n : Int)).toNat = some c := hi
  refine ⟨n,t,i,c,s.r[n],rfl,⟨h1,h2,h3,hr,h.r4 _ (List.getElem_mem _),((hp.code t (List.mem_of_getElem? h1)).2 c (List.mem_of_getElem? h3)),hg,hgr⟩,hb,?_⟩
  rw [stepM_go hc hins]
  unfold goM sI
  rw [hg,hgr]
  rfl
theorem stepM_shape {p : Prog} {s : MS} (hp : SoundP p) (h : Shape p s) (k : Int) : Shape p (stepM p s k).1 ∧ (stepM p s k).1.g.told.length ≤ s.g.told.length + 1 := by
  cases hc : canM p s k with
  | false => rw [stepM_no hc]; exact ⟨h,Nat.le_succ _⟩
  | true =>
    obtain ⟨n,t,i,c,r,rfl,A,hb,e⟩ := h.at' hp hc
    rw [e]
    have hk := exec_kin A.ok (k := n) (pc := i) (r := r) hb h.queue
    have hr := exec_r4 A.ok n i r s.g
    obtain ⟨j,hj,_,hjl⟩ := exec_next A.ok (List.getElem?_eq_some_iff.1 A.ins).1 n r s.g
    refine ⟨⟨by simp [h.at_],by simp [h.r],fun x hx => ?_,fun m a t' h1 h2 => ?_,by rw [hk.began,h.began],by rw [hk.vars,h.vars],by rw [hk.atoms,h.atoms],by rw [hk.locks,h.locks],by rw [hk.groups,h.groups],by rw [hk.onces,h.onces],by rw [hk.queue,h.queue],by rw [hk.closed,h.closed],hk.room h.room⟩,hk.told⟩
    · rcases List.mem_or_eq_of_mem_set hx with hx | rfl
      · exact h.r4 x hx
      · rw [hr,A.r4]
    · rw [List.getElem?_set] at h1
      split at h1
      · rename_i e
        subst e
        split at h1
        · cases h1
          rw [A.thr] at h2; cases h2
          rw [hj]; omega
        · cases h1
      · exact h.pc m a t' h1 h2
/-! ### Where a run begins -/
def newM (p : Prog) : MS :=
  let n := p.threads.length
  ⟨List.replicate n 0,List.replicate n [0,0,0,0],⟨(List.replicate n 0).set 0 1,List.replicate p.vars.toNat 0,List.replicate p.atoms.toNat 0,List.replicate p.locks.toNat 0,List.replicate p.chans.length [],List.replicate p.chans.length 0,List.replicate p.groups.toNat 0,List.replicate p.onces.toNat 0,[],0⟩⟩
theorem newM_shape {p : Prog} (hp : SoundP p) : Shape p (newM p) := by
  have h1 := hp.vars; have h2 := hp.atoms; have h3 := hp.locks; have h4 := hp.groups; have h5 := hp.onces
  unfold In4 at h2 h3 h4 h5
  refine ⟨by simp [newM],by simp [newM],fun x hx => ?_,fun k a t hk ht => ?_,by simp [newM],by simp [newM]; omega,by simp [newM]; omega,by simp [newM]; omega,by simp [newM]; omega,by simp [newM]; omega,by simp [newM],by simp [newM],fun j l hj => ?_⟩
  · simp only [newM] at hx
    rw [(List.mem_replicate.1 hx).2]; rfl
  · have : a = 0 := by
      simp only [newM] at hk
      have := List.mem_of_getElem? hk
      exact (List.mem_replicate.1 this).2
    subst this
    omega
  · have hl : l = [] := by
      simp only [newM] at hj
      exact (List.mem_replicate.1 (List.mem_of_getElem? hj)).2
    have hlt : j < p.chans.length := by
      have := (List.getElem?_eq_some_iff.1 hj).1
      simpa [newM] using this
    have hc := hp.chan _ (List.getElem_mem hlt)
    have hg : gI p.chans j = p.chans[j] := by unfold gI; rw [show ((j : Int)).toNat = j by omega,List.getElem?_eq_getElem hlt]; rfl
    rw [hl,hg]
    simp; omega
def runM (p : Prog) (s : MS) (ks : List Int) : MS := ks.foldl (fun s k => (stepM p s k).1) s
/-- What a run comes to. -/
def endedM (p : Prog) (s : MS) (k : Nat) : Prop := gI s.g.began k = 1 → ∀ t,p.threads[k]? = some t → (t.length : Int) ≤ gI s.at_ k
open Classical in
noncomputable def statusM (p : Prog) (s : MS) : Nat :=
  if s.g.trap = 1 then 3 else if ∃ k : Nat,k < s.at_.length ∧ canM p s k = true then 0 else if ∀ k : Nat,k < s.at_.length → endedM p s k then 1 else 2
end Pm

/- Two runs side by side: registers that are not read,numbers that are known,code that was folded; without the program.
   No condition: plain lemmas. -/

namespace Pm
set_option linter.unusedSimpArgs false
set_option linter.unusedVariables false
open Go Am

/-- Two states that stand at the same places,share the same,and whose registers are related thread by thread. -/
structure Sim (Rel : Nat → Nat → List Int → List Int → Prop) (s t : MS) : Prop where
  at_ : t.at_ = s.at_
  g : t.g = s.g
  regs : ∀ (k i : Nat) (r r' : List Int),s.at_[k]? = some (i : Int) → s.r[k]? = some r → t.r[k]? = some r' → Rel k i r r'
structure Pair (p q : Prog) (Rel : Nat → Nat → List Int → List Int → Prop) : Prop where
  thr : q.threads.length = p.threads.length
  len : ∀ (k : Nat) (t t' : List Ins),p.threads[k]? = some t → q.threads[k]? = some t' → t'.length = t.length
  chans : q.chans = p.chans
  one : ∀ (k : Nat) (t t' : List Ins) (i : Nat) (c c' : Ins) (r r' : List Int) (g : G),p.threads[k]? = some t → q.threads[k]? = some t' → t[i]? = some c → t'[i]? = some c' → r.length = 4 → r'.length = 4 → Rel k i r r' →
    blockedM p.chans g c' = blockedM p.chans g c ∧ (exec k i c' r' g).pc = (exec k i c r g).pc ∧ (exec k i c' r' g).g = (exec k i c r g).g ∧ ∀ j : Nat,(exec k i c r g).pc = j → Rel k j (exec k i c r g).r (exec k i c' r' g).r
section
variable {p q : Prog} {Rel : Nat → Nat → List Int → List Int → Prop} {s t : MS}
theorem Pair.back {k : Nat} {tp : List Ins} (P : Pair p q Rel) (h : p.threads[k]? = some tp) : ∃ tq,q.threads[k]? = some tq ∧ tq.length = tp.length := by
  have hl := (List.getElem?_eq_some_iff.1 h).1
  have hq : q.threads[k]? = some (q.threads[k]'(by rw [P.thr]; exact hl)) := List.getElem?_eq_getElem _
  exact ⟨_,hq,P.len k _ _ h hq⟩
theorem Sim.can (P : Pair p q Rel) (hp : SoundP p) (hs : Shape p s) (ht : Shape q t) (h : Sim Rel s t) (k : Int) : canM q t k = canM p s k := by
  unfold canM
  rw [h.at_,h.g]
  by_cases h0 : 0 ≤ k ∧ k < s.at_.length
  · obtain ⟨n,rfl⟩ : ∃ n : Nat,k = n := ⟨k.toNat,by omega⟩
    have hn : n < s.at_.length := by omega
    rw [show ((n : Int)).toNat = n by omega]
    have hnt : n < p.threads.length := by rw [← hs.at_]; exact hn
    have e1 : p.threads[n]? = some p.threads[n] := List.getElem?_eq_getElem hnt
    obtain ⟨tq,e2,el⟩ := P.back e1
    have ea : s.at_[n]? = some s.at_[n] := List.getElem?_eq_getElem hn
    obtain ⟨g0,g1⟩ := hs.pc n _ _ ea e1
    obtain ⟨i,hi⟩ : ∃ i : Nat,s.at_[n] = i := ⟨s.at_[n].toNat,by omega⟩
    rw [hi] at ea
    have ip : insAt p s n = p.threads[n][i]? := by unfold insAt; rw [e1,ea]; simp
    have iq : insAt q t n = tq[i]? := by unfold insAt; rw [e2,h.at_,ea]; simp
    rw [ip,iq]
    cases hc : p.threads[n][i]? with
    | none =>
      have : tq[i]? = none := by
        rw [List.getElem?_eq_none_iff] at hc ⊢; omega
      rw [this]
    | some c =>
      have hlt := (List.getElem?_eq_some_iff.1 hc).1
      have hc' : tq[i]? = some (tq[i]'(by omega)) := List.getElem?_eq_getElem _
      rw [hc']
      have hnr : n < s.r.length := by rw [hs.r]; exact hnt
      have hnr' : n < t.r.length := by rw [ht.r,P.thr]; exact hnt
      have r1 : s.r[n]? = some s.r[n] := List.getElem?_eq_getElem hnr
      have r2 : t.r[n]? = some t.r[n] := List.getElem?_eq_getElem hnr'
      obtain ⟨o1,_⟩ := P.one n _ _ i c _ _ _ s.g e1 e2 hc hc' (hs.r4 _ (List.getElem_mem hnr)) (ht.r4 _ (List.getElem_mem hnr')) (h.regs n i _ _ ea r1 r2)
      simp only
      rw [P.chans,o1]
  · have : (decide (0 ≤ k) && decide (k < (s.at_.length : Int))) = false := by
      rw [Bool.and_eq_false_iff]
      simp only [decide_eq_false_iff_not]
      omega
    rw [this]
    simp only [Bool.false_and]
theorem Sim.step (P : Pair p q Rel) (hp : SoundP p) (hq : SoundP q) (hs : Shape p s) (ht : Shape q t) (h : Sim Rel s t) (k : Int) : Sim Rel (stepM p s k).1 (stepM q t k).1 ∧ (stepM q t k).2.2 = (stepM p s k).2.2 := by
  have hcan := h.can P hp hs ht k
  cases hc : canM p s k with
  | false =>
    rw [stepM_no hc,stepM_no (by rw [hcan,hc])]
    exact ⟨h,rfl⟩
  | true =>
    obtain ⟨n,tp,i,c,r,rfl,A,hb,e⟩ := hs.at' hp hc
    obtain ⟨n',tq,i',c',r',en,A',hb',e'⟩ := ht.at' hq (by rw [hcan,hc])
    obtain rfl : n = n' := by omega
    have hi : i' = i := by have := A'.pc; rw [h.at_,A.pc] at this; injection this with this; omega
    subst hi
    obtain ⟨_,o2,o3,o4⟩ := P.one n tp tq i' c c' r r' s.g A.thr A'.thr A.ins A'.ins A.r4 A'.r4 (h.regs n i' r r' A.pc A.regs A'.regs)
    rw [e,e',h.g]
    refine ⟨⟨?_,o3,fun m j x x' h1 h2 h3 => ?_⟩,rfl⟩
    · show t.at_.set n _ = s.at_.set n _
      rw [h.at_,o2]
    · simp only at h1 h2 h3
      rw [List.getElem?_set] at h1 h2 h3
      split at h1
      · rename_i em
        subst em
        split at h1
        · rw [if_pos rfl] at h2 h3
          split at h2
          · split at h3
            · cases h2; cases h3
              exact o4 j (by injection h1)
            · cases h3
          · cases h2
        · cases h1
      · rename_i em
        rw [if_neg em] at h2 h3
        exact h.regs m j x x' h1 h2 h3
theorem Sim.run (P : Pair p q Rel) (hp : SoundP p) (hq : SoundP q) : ∀ (ks : List Int) {s t : MS},Shape p s → Shape q t → Sim Rel s t → Sim Rel (runM p s ks) (runM q t ks)
  | [],s,t,hs,ht,h => h
  | k :: ks,s,t,hs,ht,h => Sim.run P hp hq ks (stepM_shape hp hs k).1 (stepM_shape hq ht k).1 (h.step P hp hq hs ht k).1
open Classical in
theorem Sim.status (P : Pair p q Rel) (hp : SoundP p) (hs : Shape p s) (ht : Shape q t) (h : Sim Rel s t) : statusM q t = statusM p s := by
  unfold statusM
  have e1 : (∃ k : Nat,k < t.at_.length ∧ canM q t k = true) ↔ ∃ k : Nat,k < s.at_.length ∧ canM p s k = true := by
    constructor
    · rintro ⟨k,h1,h2⟩; exact ⟨k,by rw [← h.at_]; exact h1,by rw [← h.can P hp hs ht]; exact h2⟩
    · rintro ⟨k,h1,h2⟩; exact ⟨k,by rw [h.at_]; exact h1,by rw [h.can P hp hs ht]; exact h2⟩
  have e2 : (∀ k : Nat,k < t.at_.length → endedM q t k) ↔ ∀ k : Nat,k < s.at_.length → endedM p s k := by
    constructor
    · intro hh k hk hb tp htp
      obtain ⟨tq,k1,k2⟩ := P.back htp
      have := hh k (by rw [h.at_]; exact hk) (by rw [h.g]; exact hb) tq k1
      rw [h.at_] at this
      omega
    · intro hh k hk hb tq htq
      have hl := (List.getElem?_eq_some_iff.1 htq).1
      rw [P.thr] at hl
      have htp : p.threads[k]? = some p.threads[k] := List.getElem?_eq_getElem hl
      have hlen := P.len k _ _ htp htq
      have := hh k (by rw [← h.at_]; exact hk) (by rw [← h.g]; exact hb) _ htp
      rw [h.at_]
      omega
  rw [h.g]
  simp only [e1,e2]
end

/-! ### A register that is not read -/
theorem exec_live {p : Prog} {t : List Ins} {n i : Nat} {c : Ins} (ho : InsOk p n c) (hc : t[i]? = some c) (hi : i < n) {r r' : List Int} (h4 : r.length = 4) (h4' : r'.length = 4) (h : ∀ j : Nat,Lv t j i → r[j]? = r'[j]?) (k : Int) (g : G) :
    (exec k i c r' g).pc = (exec k i c r g).pc ∧ (exec k i c r' g).g = (exec k i c r g).g ∧ ∀ m : Nat,(exec k i c r g).pc = m → ∀ j : Nat,Lv t j m → (exec k i c r g).r[j]? = (exec k i c r' g).r[j]? := by
  have d := exec_dep ho (r := r) (r' := r') (k := k) (pc := i) (g := g) (by rw [h4,h4']) fun j hj => h j (.use hc hj)
  refine ⟨d.pc.symm,d.g.symm,fun m hm j hj => d.regs j ?_⟩
  obtain ⟨m',e1,e2,_⟩ := exec_next ho hi k r g
  have : m = m' := by omega
  subst this
  cases hs : (setsOf c).testBit j with
  | true => exact .inr rfl
  | false => exact .inl (h j (.pass hc hs e2 hj))
/-! ### Numbers that are known -/
def SatV (v : Val) (x : Int) : Prop := v = oneV x ∨ v = anyV
def Sat (l : V4) (r : List Int) : Prop := ∀ j : Nat,j < 4 → SatV (l.at j) (gI r j)
theorem SatV.mono {a b : Val} {x : Int} (h : SatV a x) (hl : leV a b) : SatV b x := by
  rcases hl with rfl | rfl | rfl
  · rcases h with h | h <;> cases h
  · exact h
  · exact .inr rfl
theorem SatV.bare {v : Val} {x : Int} (h : SatV v x) : SatV (bareV v) x := by
  rcases h with rfl | rfl
  · exact .inl rfl
  · exact .inr rfl
theorem SatV.num {v : Val} {x : Int} (h : SatV v x) (hk : v.kind = 1) : v.n = x := by
  rcases h with rfl | rfl
  · rfl
  · cases hk
theorem Sat.mono {a b : V4} {r : List Int} (h : Sat a r) (hl : le4 a b) : Sat b r := fun j hj => (h j hj).mono (at_mono hl _)
theorem Sat.at' {l : V4} {r : List Int} (h : Sat l r) {x : Int} (h0 : 0 ≤ x) (h4 : x < 4) : SatV (l.at x) (gI r x) := by
  have := h x.toNat (by omega)
  rw [show ((x.toNat : Nat) : Int) = x by omega] at this
  exact this
theorem Sat.get {l : V4} {r : List Int} (h : Sat l r) {x : Int} (h0 : 0 ≤ x) (h4 : x < 4) : SatV (getV l x) (gI r x) := (h.at' h0 h4).bare
def reckonI (op : Nat) (x y : Int) : Int := if op = 3 then w64 (x + y) else if op = 4 then w64 (x - y) else if op = 5 then w64 (x * y) else numI (decide (x < y))
theorem SatV.reckon {op : Nat} {a b : Val} {x y : Int} (ha : SatV a x) (hb : SatV b y) (h : op = 3 ∨ op = 4 ∨ op = 5 ∨ op = 6) : SatV (reckonV op a b) (reckonI op x y) := by
  rcases ha with rfl | rfl
  · rcases hb with rfl | rfl
    · rcases h with rfl | rfl | rfl | rfl
      · exact .inl rfl
      · exact .inl rfl
      · exact .inl rfl
      · show SatV (if x < y then oneV 1 else oneV 0) (numI (decide (x < y)))
        by_cases hlt : x < y
        · rw [if_pos hlt]; simp [numI,hlt]; exact .inl rfl
        · rw [if_neg hlt]; simp [numI,hlt]; exact .inl rfl
    · exact .inr rfl
  · rcases hb with rfl | rfl
    · exact .inr rfl
    · exact .inr rfl
theorem gI_sI {r : List Int} {x v : Int} (h0 : 0 ≤ x) (h4 : x < r.length) : gI (sI r x v) x = v := by
  have hl : x.toNat < r.length := by omega
  unfold gI sI
  rw [List.getElem?_set_self hl]
  rfl
/-- What an instruction that reckons gives. -/
def valI (c : Ins) (r : List Int) : Int := if c.op = 1 then c.b else if c.op = 2 then gI r c.b else reckonI c.op (gI r c.b) (gI r c.c)
theorem exec_reckon {c : Ins} (h : 1 ≤ c.op ∧ c.op ≤ 6) (k pc : Int) (r : List Int) (g : G) : (exec k pc c r g).pc = pc + 1 ∧ (exec k pc c r g).r = sI r c.a (valI c r) ∧ (exec k pc c r g).g = g := by
  obtain ⟨op,a,b,d⟩ := c
  simp only at h
  have : op = 1 ∨ op = 2 ∨ op = 3 ∨ op = 4 ∨ op = 5 ∨ op = 6 := by omega
  rcases this with rfl | rfl | rfl | rfl | rfl | rfl <;> exact ⟨rfl,rfl,rfl⟩
theorem InsOk.reckon {p : Prog} {n : Nat} {c : Ins} (h : InsOk p n c) (ho : 1 ≤ c.op ∧ c.op ≤ 6) : (0 ≤ c.a ∧ c.a < 4) ∧ (2 ≤ c.op → 0 ≤ c.b ∧ c.b < 4) ∧ (3 ≤ c.op → 0 ≤ c.c ∧ c.c < 4) := by
  have a0 : wordAt c.op 0 = 2 → 0 ≤ c.a ∧ c.a < 4 := fun e => h.reg (k := 0) (by omega) e (.inl rfl)
  have a1 : wordAt c.op 1 = 3 → 0 ≤ c.b ∧ c.b < 4 := fun e => h.reg (k := 1) (by omega) e (.inr rfl)
  have a2 : wordAt c.op 2 = 3 → 0 ≤ c.c ∧ c.c < 4 := fun e => h.reg (k := 2) (by omega) e (.inr rfl)
  have : c.op = 1 ∨ c.op = 2 ∨ c.op = 3 ∨ c.op = 4 ∨ c.op = 5 ∨ c.op = 6 := by omega
  rcases this with e | e | e | e | e | e <;> rw [e] at a0 a1 a2 ⊢
  · exact ⟨a0 rfl,fun h => by omega,fun h => by omega⟩
  · exact ⟨a0 rfl,fun _ => a1 rfl,fun h => by omega⟩
  · exact ⟨a0 rfl,fun _ => a1 rfl,fun _ => a2 rfl⟩
  · exact ⟨a0 rfl,fun _ => a1 rfl,fun _ => a2 rfl⟩
  · exact ⟨a0 rfl,fun _ => a1 rfl,fun _ => a2 rfl⟩
  · exact ⟨a0 rfl,fun _ => a1 rfl,fun _ => a2 rfl⟩
theorem valOf_sat {p : Prog} {n : Nat} {c : Ins} (ho : InsOk p n c) (h : 1 ≤ c.op ∧ c.op ≤ 6) {l : V4} {r : List Int} (hs : Sat l r) : SatV (valOf c l) (valI c r) := by
  obtain ⟨_,hb,hc⟩ := ho.reckon h
  unfold valOf valI
  by_cases h1 : c.op = 1
  · rw [if_pos h1,if_pos h1]; exact .inl rfl
  · rw [if_neg h1,if_neg h1]
    by_cases h2 : c.op = 2
    · rw [if_pos h2,if_pos h2]
      have := hb (by omega)
      exact hs.get this.1 this.2
    · rw [if_neg h2,if_neg h2]
      have h3 : c.op = 3 ∨ c.op = 4 ∨ c.op = 5 ∨ c.op = 6 := by omega
      rw [if_pos h3]
      have b := hb (by omega)
      have d := hc (by omega)
      exact (hs.get b.1 b.2).reckon (hs.get d.1 d.2) h3
theorem doV_at (c : Ins) (l : V4) {j : Nat} (hj : j < 4) : (doV c l).at j = doR c l j := by
  have : j = 0 ∨ j = 1 ∨ j = 2 ∨ j = 3 := by omega
  rcases this with rfl | rfl | rfl | rfl <;> rfl
theorem doV_sat {p : Prog} {n : Nat} {c : Ins} (ho : InsOk p n c) {l : V4} {r : List Int} (h4 : r.length = 4) (hs : Sat l r) (k pc : Int) (g : G) : Sat (doV c l) (exec k pc c r g).r := by
  intro j hj
  rw [doV_at c l hj]
  unfold doR
  rw [hasB_nat (by omega)]
  have d := exec_dep ho (r := r) (r' := r) (k := k) (pc := pc) (g := g) rfl fun _ _ => rfl
  cases hb : (setsOf c).testBit j with
  | false =>
    rw [if_neg (by simp)]
    have e := d.stay j hb
    have : gI (exec k pc c r g).r j = gI r j := by unfold gI; rw [show ((j : Int)).toNat = j by omega,e]
    rw [this]
    exact (hs j hj).bare
  | true =>
    rw [if_pos rfl]
    by_cases h16 : 1 ≤ c.op ∧ c.op ≤ 6
    · obtain ⟨_,e2,_⟩ := exec_reckon h16 k pc r g
      obtain ⟨⟨a0,a1⟩,_⟩ := ho.reckon h16
      obtain ⟨m,hm,hw,hj2⟩ := (ho.bit (w := 2) (.inl rfl)).1 hb
      have hja : (j : Int) = c.a := by
        have : m = 0 := by
          have : c.op = 1 ∨ c.op = 2 ∨ c.op = 3 ∨ c.op = 4 ∨ c.op = 5 ∨ c.op = 6 := by omega
          have hm3 : m = 0 ∨ m = 1 ∨ m = 2 := by omega
          rcases this with e | e | e | e | e | e <;> rw [e] at hw <;> rcases hm3 with rfl | rfl | rfl <;> first | rfl | (simp [wordAt,wordsOf] at hw)
        subst this
        have : j = c.a.toNat := hj2
        omega
      rw [e2,hja,gI_sI a0 (by omega)]
      exact valOf_sat ho h16 hs
    · have : valOf c l = anyV := by unfold valOf; rw [if_neg (by omega),if_neg (by omega),if_neg (by omega)]
      rw [this]
      exact .inr rfl
/-- What is known where a thread stands. -/
def KnowsAt (V : List V4) (t : List Ins) (i : Nat) (r : List Int) : Prop := i < t.length → Come (succs t) i ∧ Sat (rowF V i) r
theorem KnowsAt.next {p : Prog} {V : List V4} {t : List Ins} {i : Nat} {c : Ins} {r : List Int} (hV : Least t V) (ho : InsOk p t.length c) (hc : t[i]? = some c) (h4 : r.length = 4) (h : KnowsAt V t i r) (k : Int) (g : G) {j : Nat} (hj : (exec k i c r g).pc = j) : KnowsAt V t j (exec k i c r g).r := by
  intro hlt
  have hi := (List.getElem?_eq_some_iff.1 hc).1
  obtain ⟨h1,h2⟩ := h hi
  obtain ⟨m,e1,e2,_⟩ := exec_next ho hi k r g
  obtain rfl : j = m := by omega
  have hl : (succs t)[i]? = some (nextsOf i c) := by rw [qGp,hc]; rfl
  refine ⟨.step h1 hl e2 (by rw [qDc]; exact hlt),?_⟩
  exact (doV_sat ho h4 h2 k i g).mono ((hV.holds (by omega)).flow i j _ hlt ⟨h1,c,_,hc,hl,e2,rfl⟩)
theorem sat_one : Sat one4 [0,0,0,0] := fun j hj => by
  have : j = 0 ∨ j = 1 ∨ j = 2 ∨ j = 3 := by omega
  rcases this with rfl | rfl | rfl | rfl <;> exact .inl rfl
theorem KnowsAt.start {V : List V4} {t : List Ins} (hV : Least t V) : KnowsAt V t 0 [0,0,0,0] := fun h => ⟨.start (by rw [qDc]; exact h),sat_one.mono (hV.holds h).start⟩
theorem newM_at {p : Prog} {k : Nat} {i : Nat} (h : (newM p).at_[k]? = some (i : Int)) : i = 0 := by
  have := (List.mem_replicate.1 (List.mem_of_getElem? h)).2
  omega
theorem newM_r {p : Prog} {k : Nat} {r : List Int} (h : (newM p).r[k]? = some r) : r = [0,0,0,0] := (List.mem_replicate.1 (List.mem_of_getElem? h)).2
/-! ### What is folded -/
theorem fold_exec {p : Prog} {n : Nat} {c : Ins} (ho : InsOk p n c) {l : V4} {r : List Int} (h4 : r.length = 4) (hs : Sat l r) (k pc : Int) (g : G) (chans : List Int) :
    blockedM chans g (foldIns c l) = blockedM chans g c ∧ (exec k pc (foldIns c l) r g).pc = (exec k pc c r g).pc ∧ (exec k pc (foldIns c l) r g).r = (exec k pc c r g).r ∧ (exec k pc (foldIns c l) r g).g = (exec k pc c r g).g := by
  unfold foldIns
  by_cases ha : 0 ≤ c.a ∧ c.a < 4
  · rw [if_pos ha]
    by_cases h1 : (2 ≤ c.op ∧ c.op ≤ 6) ∧ ((doV c l).at c.a).kind = 1
    · rw [if_pos h1]
      have h16 : 1 ≤ c.op ∧ c.op ≤ 6 := by omega
      obtain ⟨e1,e2,e3⟩ := exec_reckon h16 k pc r g
      have hv := ((doV_sat ho h4 hs k pc g).at' ha.1 ha.2).num h1.2
      rw [e2,gI_sI ha.1 (by omega)] at hv
      refine ⟨?_,?_,?_,?_⟩
      · have hb : ∀ o : Nat,o ≤ 6 → ∀ a b d : Int,blockedM chans g ⟨o,a,b,d⟩ = false := by
          intro o ho a b d
          have : o = 0 ∨ o = 1 ∨ o = 2 ∨ o = 3 ∨ o = 4 ∨ o = 5 ∨ o = 6 := by omega
          rcases this with rfl | rfl | rfl | rfl | rfl | rfl | rfl <;> rfl
        obtain ⟨op,a,b,d⟩ := c
        rw [hb 1 (by omega),hb op h16.2]
      · rw [e1]; rfl
      · rw [e2,hv]; rfl
      · rw [e3]; rfl
    · rw [if_neg h1]
      by_cases h2 : c.op = 11 ∧ (l.at c.a).kind = 1
      · rw [if_pos h2]
        have hv := (hs.at' ha.1 ha.2).num h2.2
        obtain ⟨op,a,b,d⟩ := c
        obtain ⟨rfl,h3⟩ := h2
        simp only at hv ha
        rw [hv]
        by_cases hz : gI r a = 0
        · rw [if_pos hz]
          refine ⟨rfl,?_,rfl,rfl⟩
          simp only [exec,hz,if_true]
        · rw [if_neg hz]
          refine ⟨rfl,?_,rfl,rfl⟩
          simp only [exec,hz,if_false,nopI,execSync]
      · rw [if_neg h2]; exact ⟨rfl,rfl,rfl,rfl⟩
  · rw [if_neg ha]; exact ⟨rfl,rfl,rfl,rfl⟩
/-- What is not read may be left out. -/
theorem idle_exec {p : Prog} {n i : Nat} {code : List Ins} {b : List Nat} {c : Ins} (ho : InsOk p n c) (hc : code[i]? = some c) (hb : Behinds code b) {r : List Int} (k : Int) (g : G) (chans : List Int) :
    blockedM chans g (idleIns c (gN b i)) = blockedM chans g c ∧ (exec k i (idleIns c (gN b i)) r g).pc = (exec k i c r g).pc ∧ (exec k i (idleIns c (gN b i)) r g).g = (exec k i c r g).g ∧
      ∀ m : Nat,(exec k i c r g).pc = m → ∀ j : Nat,Lv code j m → (exec k i (idleIns c (gN b i)) r g).r[j]? = (exec k i c r g).r[j]? := by
  unfold idleIns
  by_cases h : c.op ≤ 6 ∧ hasB (gN b i) c.a = false
  · rw [if_pos h]
    have d := exec_dep ho (r := r) (r' := r) (k := k) (pc := i) (g := g) rfl fun _ _ => rfl
    have hi := (List.getElem?_eq_some_iff.1 hc).1
    by_cases h0 : c.op = 0
    · obtain ⟨op,a,b',d'⟩ := c
      simp only at h0
      subst h0
      exact ⟨rfl,rfl,rfl,fun m hm j hj => rfl⟩
    · have h16 : 1 ≤ c.op ∧ c.op ≤ 6 := by omega
      obtain ⟨e1,e2,e3⟩ := exec_reckon h16 k i r g
      obtain ⟨⟨a0,a1⟩,_⟩ := ho.reckon h16
      refine ⟨?_,?_,?_,fun m hm j hj => ?_⟩
      · have hbl : ∀ o : Nat,o ≤ 6 → ∀ a b d : Int,blockedM chans g ⟨o,a,b,d⟩ = false := by
          intro o ho a b d
          have : o = 0 ∨ o = 1 ∨ o = 2 ∨ o = 3 ∨ o = 4 ∨ o = 5 ∨ o = 6 := by omega
          rcases this with rfl | rfl | rfl | rfl | rfl | rfl | rfl <;> rfl
        obtain ⟨op,a,b',d'⟩ := c
        rw [show nopI = ⟨0,0,0,0⟩ from rfl,hbl 0 (by omega),hbl op h16.2]
      · rw [e1]; rfl
      · rw [e3]; rfl
      · show r[j]? = _
        rw [e2,sI_off]
        rintro rfl
        have hm1 : m = i + 1 := by rw [e1] at hm; omega
        subst hm1
        have hbit := (hb.bit i c.a.toNat).2 ⟨hi,i + 1,by rw [nexts_succs hc]; exact next_mem.2.2 (by omega),hj⟩
        have := h.2
        rw [show c.a = ((c.a.toNat : Nat) : Int) by omega,hasB_nat (by omega),hbit] at this
        cases this
  · rw [if_neg h]; exact ⟨rfl,rfl,rfl,fun m hm j hj => rfl⟩
structure FoldsT (t : List Ins) (v : List V4) (o : List Ins) (b : List Nat) (out : List Ins) : Prop where
  least : Least t v
  a : FoldA t v o
  behind : Behinds o b
  b : FoldB o b out
def RelF (p : Prog) (V : Nat → List V4) (O : Nat → List Ins) (k i : Nat) (r r' : List Int) : Prop := (∀ t,p.threads[k]? = some t → KnowsAt (V k) t i r) ∧ ∀ j : Nat,Lv (O k) j i → r[j]? = r'[j]?
theorem pair_fold {p q : Prog} (hp : SoundP p) (ht : q.threads.length = p.threads.length) (hch : q.chans = p.chans) {V : Nat → List V4} {O : Nat → List Ins} {B : Nat → List Nat} (hF : ∀ k t t',p.threads[k]? = some t → q.threads[k]? = some t' → FoldsT t (V k) (O k) (B k) t') : Pair p q (RelF p V O) := by
  refine ⟨ht,fun k t t' h h' => ?_,hch,fun k t t' i c c' r r' g ht ht' hc hc' h4 h4' ⟨hr,hr2⟩ => ?_⟩
  · have F := hF k t t' h h'
    rw [F.b.len,F.a.len]
  · have F := hF k t t' ht ht'
    have hi := (List.getElem?_eq_some_iff.1 hc).1
    have ho := (hp.code t (List.mem_of_getElem? ht)).2 c (List.mem_of_getElem? hc)
    obtain ⟨hcome,hsat⟩ := hr t ht hi
    have hy := F.a.come i c hc hcome
    have hyo : InsOk p t.length (foldIns c (rowF (V k) i)) := fold_ok ho
    have hz := F.b.each i _ hy
    rw [hc'] at hz
    injection hz with hz
    obtain ⟨a1,a2,a3,a4⟩ := fold_exec ho h4 hsat k i g p.chans
    obtain ⟨b1,b2,b3⟩ := exec_live hyo hy hi h4 h4' hr2 k g
    obtain ⟨c1,c2,c3,c4⟩ := idle_exec hyo hy F.behind (r := r') k g p.chans
    rw [hz]
    refine ⟨by rw [c1,a1],by rw [c2,b1,a2],by rw [c3,b2,a4],fun j hj => ⟨fun t' ht' => ?_,fun m hm => ?_⟩⟩
    · rw [ht] at ht'; cases ht'
      exact (hr t ht).next F.least ho hc h4 k g hj
    · rw [← a3,b3 j (by rw [a2]; exact hj) m hm]
      exact (c4 j (by rw [b1,a2]; exact hj) m hm).symm
theorem newM_same {p q : Prog} (h1 : q.vars = p.vars) (h2 : q.atoms = p.atoms) (h3 : q.locks = p.locks) (h4 : q.chans = p.chans) (h5 : q.groups = p.groups) (h6 : q.onces = p.onces) (hl : q.threads.length = p.threads.length) : newM q = newM p := by
  unfold newM
  rw [h1,h2,h3,h4,h5,h6,hl]
theorem sim_fold {p q : Prog} (he : newM q = newM p) {V : Nat → List V4} {O : Nat → List Ins} (hV : ∀ k t,p.threads[k]? = some t → Least t (V k)) : Sim (RelF p V O) (newM p) (newM q) := by
  rw [he]
  refine ⟨rfl,rfl,fun k i r r' h1 h2 h3 => ?_⟩
  rw [h2] at h3; cases h3
  refine ⟨fun t ht => ?_,fun j _ => rfl⟩
  rw [newM_at h1,newM_r h2]
  exact .start (hV k t ht)
end Pm
