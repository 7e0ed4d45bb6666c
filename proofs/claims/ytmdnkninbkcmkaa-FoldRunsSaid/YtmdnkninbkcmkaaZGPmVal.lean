/- Numbers that are known: what each small function of the chapter gives.
   No condition: plain lemmas. -/

import Derived.Test.YtmdnkninbkcmkaaZGPmBox
import Derived.Test.YtmdnkninbkcmkaaZGPmCfgC
import Derived.Test.YtmdnkninbkcmkaaZGPmIr2
namespace Pm
set_option linter.unusedSimpArgs false
set_option linter.unusedVariables false
open Go Am
open Go.Proofs.Try (prog)

structure Val where
  kind : Nat
  n : Int
deriving DecidableEq
def cV (v : Val) : List Value := [v8 v.kind,vI v.n]
instance : Flat cV 2 := ⟨fun _ => rfl⟩
structure V4 where
  a : Val
  b : Val
  c : Val
  d : Val
deriving DecidableEq
def c4 (x : V4) : List Value := [v8 x.a.kind,vI x.a.n,v8 x.b.kind,vI x.b.n,v8 x.c.kind,vI x.c.n,v8 x.d.kind,vI x.d.n]
instance : Flat c4 8 := ⟨fun _ => rfl⟩
def vV (v : Val) : Value := .agg #[v8 v.kind,vI v.n]
def vK (x : V4) : Value := .agg #[v8 x.a.kind,vI x.a.n,v8 x.b.kind,vI x.b.n,v8 x.c.kind,vI x.c.n,v8 x.d.kind,vI x.d.n]
def noV : Val := ⟨0,0⟩
def oneV (n : Int) : Val := ⟨1,n⟩
def anyV : Val := ⟨2,0⟩
def bareV (v : Val) : Val := if v.kind = 0 then noV else if v.kind = 1 then v else anyV
def meetV (a b : Val) : Val := if (bareV a).kind = 0 then bareV b else if (bareV b).kind = 0 ∨ bareV a = bareV b then bareV a else anyV
def V4.at (x : V4) (r : Int) : Val := if r = 0 then x.a else if r = 1 then x.b else if r = 2 then x.c else if r = 3 then x.d else noV
def getV (x : V4) (r : Int) : Val := bareV (x.at r)
def reckonV (op : Nat) (a b : Val) : Val :=
  if a.kind = 0 ∨ b.kind = 0 then noV else if a.kind = 2 ∨ b.kind = 2 then anyV
  else if op = 3 then oneV (IntKind.i64.wrap (a.n + b.n)) else if op = 4 then oneV (IntKind.i64.wrap (a.n - b.n)) else if op = 5 then oneV (IntKind.i64.wrap (a.n * b.n))
  else if a.n < b.n then oneV 1 else oneV 0
def meet4 (x y : V4) : V4 := ⟨meetV x.a y.a,meetV x.b y.b,meetV x.c y.c,meetV x.d y.d⟩

section
variable {h : Heap} {K : Value → Heap → Prop}
theorem qGl {v : Val} (hk : K (vV (bareV v)) h) : PCall prog 71 [vV v] h K := by
  refine Pure.go (Pure.agg (cs := cV (bareV v)) rfl fun h => ?_) hk
  refine call_vBare (by simp) ?_
  by_cases h0 : v.kind = 0
  · simp [qAk,qAn,qAl,qAi,qAg,qAe,qAb,qAd,qAa,qAj,qAf,qAc,BodyK,resVs,resV,retV,qAm,qAh,qAr,qAq,qAp,qAo,c_vBare,vV,cV,bareV,h0,noV]
  · by_cases h1 : v.kind = 1
    · simp [qAk,qAn,qAl,qAi,qAg,qAe,qAb,qAd,qAa,qAj,qAf,qAc,BodyK,resVs,resV,retV,qAm,qAh,qAr,qAq,qAp,qAo,c_vBare,vV,cV,bareV,h0,h1,noV]
    · simp [qAk,qAn,qAl,qAi,qAg,qAe,qAb,qAd,qAa,qAj,qAf,qAc,BodyK,resVs,resV,retV,qAm,qAh,qAr,qAq,qAp,qAo,c_vBare,vV,cV,bareV,h0,h1,anyV]
theorem qEx {n : Int} (hk : K (vV (oneV n)) h) : PCall prog 47 [vI n] h K := by
  refine Pure.go (Pure.agg (cs := cV (oneV n)) rfl fun h => ?_) hk
  refine call_vOne (by simp) ?_
  simp [qAk,qAn,qAl,qAi,qAg,qAe,qAb,qAd,qAa,qAj,qAf,qAc,BodyK,resVs,resV,retV,qAm,qAh,qAr,qAq,qAp,qAo,c_vOne,vV,cV,oneV]
theorem bareV_eq {v : Val} : bareV v = bareV v ∧ ((bareV v).kind = 0 → bareV v = noV) ∧ (bareV v).kind ≤ 2 := by
  unfold bareV
  refine ⟨rfl,?_,?_⟩ <;> split <;> simp [noV,anyV] <;> split <;> simp_all
theorem vMeet_call {v w : Val} (hk : K (vV (meetV v w)) h) : PCall prog 50 [vV v,vV w] h K := by
  refine Pure.go (Pure.agg (cs := cV (meetV v w)) rfl fun h => ?_) hk
  refine call_vMeet (by simp) ?_
  have c1 : (bareV v).kind ≤ 2 := bareV_eq.2.2
  have c2 : (bareV w).kind ≤ 2 := bareV_eq.2.2
  simp [qAk,qAn,qAl,qAi,qAg,qAe,qAb,qAd,qAa,qAj,qAf,qAc,BodyK,resVs,resV,retV,qAm,qAh,qAr,qAq,qAp,qAo,c_vMeet]
  simp [qAk,qAn,qAl,qAi,qAg,qAe,qAb,qAd,qAa,qAj,qAf,qAc,BodyK,resVs,resV,retV,qAm,qAh,qAr,qAq,qAp,qAo,vV]
  refine qGl ?_
  simp [qAk,qAn,qAl,qAi,qAg,qAe,qAb,qAd,qAa,qAj,qAf,qAc,BodyK,resVs,resV,retV,qAm,qAh,qAr,qAq,qAp,qAo,callK_def,vV]
  refine qGl ?_
  obtain ⟨p,hp⟩ : ∃ p,p = bareV v := ⟨_,rfl⟩
  obtain ⟨q,hq⟩ : ∃ q,q = bareV w := ⟨_,rfl⟩
  simp only [meetV,← hp,← hq] at *
  by_cases h0 : p.kind = 0
  · simp [qAk,qAn,qAl,qAi,qAg,qAe,qAb,qAd,qAa,qAj,qAf,qAc,BodyK,resVs,resV,retV,qAm,qAh,qAr,qAq,qAp,qAo,callK_def,vV,h0,cV]
  · by_cases h1 : q.kind = 0
    · simp [qAk,qAn,qAl,qAi,qAg,qAe,qAb,qAd,qAa,qAj,qAf,qAc,BodyK,resVs,resV,retV,qAm,qAh,qAr,qAq,qAp,qAo,callK_def,vV,h0,h1,cV]
    · by_cases h2 : p = q
      · subst h2
        simp [qAk,qAn,qAl,qAi,qAg,qAe,qAb,qAd,qAa,qAj,qAf,qAc,BodyK,resVs,resV,retV,qAm,qAh,qAr,qAq,qAp,qAo,callK_def,vV,h0,cV]
      · by_cases h3 : p.kind = q.kind
        · have h4 : ¬ p.n = q.n := fun e => h2 (by cases p; cases q; simp_all)
          simp [qAk,qAn,qAl,qAi,qAg,qAe,qAb,qAd,qAa,qAj,qAf,qAc,BodyK,resVs,resV,retV,qAm,qAh,qAr,qAq,qAp,qAo,callK_def,vV,h0,h1,h2,h3,h4,cV,anyV]
        · have h3' : ¬ (p.kind : Int) = q.kind := by omega
          simp [qAk,qAn,qAl,qAi,qAg,qAe,qAb,qAd,qAa,qAj,qAf,qAc,BodyK,resVs,resV,retV,qAm,qAh,qAr,qAq,qAp,qAo,callK_def,vV,h0,h1,h2,h3,h3',cV,anyV]
theorem at_cases {r : Int} (h0 : 0 ≤ r) (h4 : r < 4) : r = 0 ∨ r = 1 ∨ r = 2 ∨ r = 3 := by omega
theorem vGet_call {x : V4} {r : Int} (hk : K (vV (getV x r)) h) : PCall prog 68 [vK x,vI r] h K := by
  refine Pure.go (Pure.agg (cs := cV (getV x r)) rfl fun h => ?_) hk
  refine call_vGet (by simp) ?_
  by_cases h0 : r < 0
  · have e : getV x r = noV := by unfold getV V4.at; rw [if_neg (by omega),if_neg (by omega),if_neg (by omega),if_neg (by omega)]; rfl
    simp [qAk,qAn,qAl,qAi,qAg,qAe,qAb,qAd,qAa,qAj,qAf,qAc,BodyK,resVs,resV,retV,qAm,qAh,qAr,qAq,qAp,qAo,c_vGet,vK,h0,e,cV,noV]
  · by_cases h4 : 4 ≤ r
    · have e : getV x r = noV := by unfold getV V4.at; rw [if_neg (by omega),if_neg (by omega),if_neg (by omega),if_neg (by omega)]; rfl
      simp [qAk,qAn,qAl,qAi,qAg,qAe,qAb,qAd,qAa,qAj,qAf,qAc,BodyK,resVs,resV,retV,qAm,qAh,qAr,qAq,qAp,qAo,c_vGet,vK,h0,h4,e,cV,noV]
    · rcases at_cases (r := r) (by omega) (by omega) with rfl | rfl | rfl | rfl <;>
      · simp [qAk,qAn,qAl,qAi,qAg,qAe,qAb,qAd,qAa,qAj,qAf,qAc,BodyK,resVs,resV,retV,qAm,qAh,qAr,qAq,qAp,qAo,c_vGet,vK,getV,V4.at]
        refine qGl ?_
        simp [qAk,qAn,qAl,qAi,qAg,qAe,qAb,qAd,qAa,qAj,qAf,qAc,BodyK,resVs,resV,retV,qAm,qAh,qAr,qAq,qAp,qAo,callK_def,vV,cV]
theorem vReckon_call {op : Nat} {v w : Val} (hk : K (vV (reckonV op v w)) h) : PCall prog 69 [v8 op,vV v,vV w] h K := by
  refine Pure.go (Pure.agg (cs := cV (reckonV op v w)) rfl fun h => ?_) hk
  refine call_vReckon (by simp) ?_
  by_cases h0 : v.kind = 0
  · simp [qAk,qAn,qAl,qAi,qAg,qAe,qAb,qAd,qAa,qAj,qAf,qAc,BodyK,resVs,resV,retV,qAm,qAh,qAr,qAq,qAp,qAo,c_vReckon,vV,h0,cV,reckonV,noV]
  · by_cases h1 : w.kind = 0
    · simp [qAk,qAn,qAl,qAi,qAg,qAe,qAb,qAd,qAa,qAj,qAf,qAc,BodyK,resVs,resV,retV,qAm,qAh,qAr,qAq,qAp,qAo,c_vReckon,vV,h0,h1,cV,reckonV,noV]
    · by_cases h2 : v.kind = 2
      · simp [qAk,qAn,qAl,qAi,qAg,qAe,qAb,qAd,qAa,qAj,qAf,qAc,BodyK,resVs,resV,retV,qAm,qAh,qAr,qAq,qAp,qAo,c_vReckon,vV,h0,h1,h2,cV,reckonV,anyV]
      · by_cases h3 : w.kind = 2
        · simp [qAk,qAn,qAl,qAi,qAg,qAe,qAb,qAd,qAa,qAj,qAf,qAc,BodyK,resVs,resV,retV,qAm,qAh,qAr,qAq,qAp,qAo,c_vReckon,vV,h0,h1,h2,h3,cV,reckonV,anyV]
        · by_cases o3 : op = 3
          · simp [qAk,qAn,qAl,qAi,qAg,qAe,qAb,qAd,qAa,qAj,qAf,qAc,BodyK,resVs,resV,retV,qAm,qAh,qAr,qAq,qAp,qAo,c_vReckon,vV,h0,h1,h2,h3,o3]
            refine qEx ?_
            simp [qAk,qAn,qAl,qAi,qAg,qAe,qAb,qAd,qAa,qAj,qAf,qAc,BodyK,resVs,resV,retV,qAm,qAh,qAr,qAq,qAp,qAo,callK_def,vV,cV,reckonV,h0,h1,h2,h3,o3]
          · by_cases o4 : op = 4
            · simp [qAk,qAn,qAl,qAi,qAg,qAe,qAb,qAd,qAa,qAj,qAf,qAc,BodyK,resVs,resV,retV,qAm,qAh,qAr,qAq,qAp,qAo,c_vReckon,vV,h0,h1,h2,h3,o4]
              refine qEx ?_
              simp [qAk,qAn,qAl,qAi,qAg,qAe,qAb,qAd,qAa,qAj,qAf,qAc,BodyK,resVs,resV,retV,qAm,qAh,qAr,qAq,qAp,qAo,callK_def,vV,cV,reckonV,h0,h1,h2,h3,o4]
            · by_cases o5 : op = 5
              · simp [qAk,qAn,qAl,qAi,qAg,qAe,qAb,qAd,qAa,qAj,qAf,qAc,BodyK,resVs,resV,retV,qAm,qAh,qAr,qAq,qAp,qAo,c_vReckon,vV,h0,h1,h2,h3,o5]
                refine qEx ?_
                simp [qAk,qAn,qAl,qAi,qAg,qAe,qAb,qAd,qAa,qAj,qAf,qAc,BodyK,resVs,resV,retV,qAm,qAh,qAr,qAq,qAp,qAo,callK_def,vV,cV,reckonV,h0,h1,h2,h3,o5]
              · by_cases hl : v.n < w.n
                · simp [qAk,qAn,qAl,qAi,qAg,qAe,qAb,qAd,qAa,qAj,qAf,qAc,BodyK,resVs,resV,retV,qAm,qAh,qAr,qAq,qAp,qAo,c_vReckon,vV,h0,h1,h2,h3,o3,o4,o5,hl]
                  refine qEx ?_
                  simp [qAk,qAn,qAl,qAi,qAg,qAe,qAb,qAd,qAa,qAj,qAf,qAc,BodyK,resVs,resV,retV,qAm,qAh,qAr,qAq,qAp,qAo,callK_def,vV,cV,reckonV,h0,h1,h2,h3,o3,o4,o5,hl]
                · simp [qAk,qAn,qAl,qAi,qAg,qAe,qAb,qAd,qAa,qAj,qAf,qAc,BodyK,resVs,resV,retV,qAm,qAh,qAr,qAq,qAp,qAo,c_vReckon,vV,h0,h1,h2,h3,o3,o4,o5,hl]
                  refine qEx ?_
                  simp [qAk,qAn,qAl,qAi,qAg,qAe,qAb,qAd,qAa,qAj,qAf,qAc,BodyK,resVs,resV,retV,qAm,qAh,qAr,qAq,qAp,qAo,callK_def,vV,cV,reckonV,h0,h1,h2,h3,o3,o4,o5,hl]
set_option maxHeartbeats 1000000 in
theorem vmeet_call {x y : V4} (hk : K (vK (meet4 x y)) h) : PCall prog 49 [vK x,vK y] h K := by
  refine Pure.go (Pure.agg (cs := c4 (meet4 x y)) rfl fun h => ?_) hk
  refine call_vmeet (by simp) ?_
  simp [qAk,qAn,qAl,qAi,qAg,qAe,qAb,qAd,qAa,qAj,qAf,qAc,BodyK,resVs,resV,retV,qAm,qAh,qAr,qAq,qAp,qAo,c_vmeet,vK]
  refine loop_n 5 ?_
  rw [qDi]
  simp [qAk,qAn,qAl,qAi,qAg,qAe,qAb,qAd,qAa,qAj,qAf,qAc,BodyK,resVs,resV,retV,qAm,qAh,qAr,qAq,qAp,qAo]
  refine vMeet_call (v := x.a) (w := y.a) ?_
  obtain ⟨ma,ea⟩ : ∃ m,m = meetV x.a y.a := ⟨_,rfl⟩
  simp [qAk,qAn,qAl,qAi,qAg,qAe,qAb,qAd,qAa,qAj,qAf,qAc,BodyK,resVs,resV,retV,qAm,qAh,qAr,qAq,qAp,qAo,callK_def,vV,← ea]
  rw [qDi]
  simp [qAk,qAn,qAl,qAi,qAg,qAe,qAb,qAd,qAa,qAj,qAf,qAc,BodyK,resVs,resV,retV,qAm,qAh,qAr,qAq,qAp,qAo]
  refine vMeet_call (v := x.b) (w := y.b) ?_
  obtain ⟨mb,eb⟩ : ∃ m,m = meetV x.b y.b := ⟨_,rfl⟩
  simp [qAk,qAn,qAl,qAi,qAg,qAe,qAb,qAd,qAa,qAj,qAf,qAc,BodyK,resVs,resV,retV,qAm,qAh,qAr,qAq,qAp,qAo,callK_def,vV,← eb]
  rw [qDi]
  simp [qAk,qAn,qAl,qAi,qAg,qAe,qAb,qAd,qAa,qAj,qAf,qAc,BodyK,resVs,resV,retV,qAm,qAh,qAr,qAq,qAp,qAo]
  refine vMeet_call (v := x.c) (w := y.c) ?_
  obtain ⟨mc,ec⟩ : ∃ m,m = meetV x.c y.c := ⟨_,rfl⟩
  simp [qAk,qAn,qAl,qAi,qAg,qAe,qAb,qAd,qAa,qAj,qAf,qAc,BodyK,resVs,resV,retV,qAm,qAh,qAr,qAq,qAp,qAo,callK_def,vV,← ec]
  rw [qDi]
  simp [qAk,qAn,qAl,qAi,qAg,qAe,qAb,qAd,qAa,qAj,qAf,qAc,BodyK,resVs,resV,retV,qAm,qAh,qAr,qAq,qAp,qAo]
  refine vMeet_call (v := x.d) (w := y.d) ?_
  obtain ⟨md,ed⟩ : ∃ m,m = meetV x.d y.d := ⟨_,rfl⟩
  simp [qAk,qAn,qAl,qAi,qAg,qAe,qAb,qAd,qAa,qAj,qAf,qAc,BodyK,resVs,resV,retV,qAm,qAh,qAr,qAq,qAp,qAo,callK_def,vV,← ed]
  rw [qDi]
  simp [qAk,qAn,qAl,qAi,qAg,qAe,qAb,qAd,qAa,qAj,qAf,qAc,BodyK,resVs,resV,retV,qAm,qAh,qAr,qAq,qAp,qAo,c4,meet4,← ea,← eb,← ec,← ed]
end
end Pm
/- Numbers that are known: what is known behind an instruction.
   No condition: plain lemmas. -/
namespace Pm
set_option linter.unusedSimpArgs false
set_option linter.unusedVariables false
open Go Am
open Go.Proofs.Try (prog)

def valOf (i : Ins) (l : V4) : Val :=
  if i.op = 1 then oneV i.b else if i.op = 2 then getV l i.b else if i.op = 3 ∨ i.op = 4 ∨ i.op = 5 ∨ i.op = 6 then reckonV i.op (getV l i.b) (getV l i.c) else anyV
def doR (i : Ins) (l : V4) (r : Int) : Val := if hasB (setsOf i) r = true then valOf i l else bareV (l.at r)
def doV (i : Ins) (l : V4) : V4 := ⟨doR i l 0,doR i l 1,doR i l 2,doR i l 3⟩
/-- The first of one,the rest of another. -/
def mixV (k : Nat) (x y : V4) : V4 := ⟨if 0 < k then x.a else y.a,if 1 < k then x.b else y.b,if 2 < k then x.c else y.c,if 3 < k then x.d else y.d⟩
def zero8 : List Value := [.int .u8 0,.int .i64 0,.int .u8 0,.int .i64 0,.int .u8 0,.int .i64 0,.int .u8 0,.int .i64 0]
section
variable {h : Heap} {K : Value → Heap → Prop}
set_option maxHeartbeats 4000000 in
theorem vDo_call {i : Ins} {l : V4} (ho : i.op ≤ 255) (hk : K (vK (doV i l)) h) : PCall prog 48 [.agg (vIns i).toArray,vK l] h K := by
  refine Pure.go (Pure.agg (cs := c4 (doV i l)) rfl fun h => ?_) hk
  refine call_vDo (by simp) ?_
  simp [-qAv,qAk,qAn,qAl,qAi,qAg,qAe,qAb,qAd,qAa,qAj,qAf,qAc,BodyK,resVs,resV,retV,qAm,qAh,qAr,qAq,qAp,qAo,c_vDo,vIns,vK]
  refine seq_rule (fun fr h' => fr 0 = .agg #[v8 i.op,vI i.a,vI i.b,vI i.c] ∧ fr 2 = .pointer (some ⟨h.length,0,some 0⟩) ∧ fr 3 = .pointer (some ⟨h.length + 1,0,some 0⟩) ∧ fr 4 = .pointer (some ⟨h.length + 2,0,some 0⟩) ∧ fr 5 = .pointer (some ⟨h.length + 3,0,some 0⟩) ∧ h' = h ++ [bx (vIns i) 4,bx (c4 l) 2,bx zero8 2,bx (cV (valOf i l)) 2]) ?_ ?_
  · by_cases o1 : i.op = 1
    · simp [qAk,qAn,qAl,qAi,qAg,qAe,qAb,qAd,qAa,qAj,qAf,qAc,BodyK,resVs,resV,retV,qAm,qAh,qAr,qAq,qAp,qAo,o1]
      refine qEx ?_
      simp [qAk,qAn,qAl,qAi,qAg,qAe,qAb,qAd,qAa,qAj,qAf,qAc,BodyK,resVs,resV,retV,qAm,qAh,qAr,qAq,qAp,qAo,callK_def,vV,o1,vIns,c4,zero8,cV,valOf]
    · by_cases o2 : i.op = 2
      · simp [qAk,qAn,qAl,qAi,qAg,qAe,qAb,qAd,qAa,qAj,qAf,qAc,BodyK,resVs,resV,retV,qAm,qAh,qAr,qAq,qAp,qAo,o2]
        refine vGet_call (x := l) ?_
        simp [qAk,qAn,qAl,qAi,qAg,qAe,qAb,qAd,qAa,qAj,qAf,qAc,BodyK,resVs,resV,retV,qAm,qAh,qAr,qAq,qAp,qAo,callK_def,vV,o2,vIns,c4,zero8,cV,valOf]
      · by_cases o3 : i.op = 3 ∨ i.op = 4 ∨ i.op = 5 ∨ i.op = 6
        · obtain ⟨o,ho'⟩ : ∃ o,o = i.op := ⟨_,rfl⟩
          rw [← ho'] at o1 o2 o3
          have e1 : valOf i l = reckonV o (getV l i.b) (getV l i.c) := by unfold valOf; rw [← ho',if_neg o1,if_neg o2,if_pos o3]
          rw [e1,← ho']
          rcases o3 with rfl | rfl | rfl | rfl <;>
          · simp [qAk,qAn,qAl,qAi,qAg,qAe,qAb,qAd,qAa,qAj,qAf,qAc,BodyK,resVs,resV,retV,qAm,qAh,qAr,qAq,qAp,qAo,o1,o2]
            refine vGet_call (x := l) ?_
            simp [qAk,qAn,qAl,qAi,qAg,qAe,qAb,qAd,qAa,qAj,qAf,qAc,BodyK,resVs,resV,retV,qAm,qAh,qAr,qAq,qAp,qAo,callK_def,vV]
            refine vGet_call (x := l) ?_
            simp [qAk,qAn,qAl,qAi,qAg,qAe,qAb,qAd,qAa,qAj,qAf,qAc,BodyK,resVs,resV,retV,qAm,qAh,qAr,qAq,qAp,qAo,callK_def,vV]
            refine vReckon_call (v := getV l i.b) (w := getV l i.c) ?_
            simp [qAk,qAn,qAl,qAi,qAg,qAe,qAb,qAd,qAa,qAj,qAf,qAc,BodyK,resVs,resV,retV,qAm,qAh,qAr,qAq,qAp,qAo,callK_def,vV,vIns,c4,zero8,cV,← ho']
        · have o3' : ¬ i.op = 3 := fun e => o3 (by simp [e])
          have o4' : ¬ i.op = 4 := fun e => o3 (by simp [e])
          have o5' : ¬ i.op = 5 := fun e => o3 (by simp [e])
          have o6' : ¬ i.op = 6 := fun e => o3 (by simp [e])
          simp [qAk,qAn,qAl,qAi,qAg,qAe,qAb,qAd,qAa,qAj,qAf,qAc,BodyK,resVs,resV,retV,qAm,qAh,qAr,qAq,qAp,qAo,o1,o2,o3',o4',o5',o6',vIns,c4,zero8,cV,valOf,anyV]
          rfl
  · rintro fr _ ⟨f0,f2,f3,f4,f5,rfl⟩
    have hse := regsOf_lt 2 i 3
    simp [-qAv,qAk,qAn,qAl,qAi,qAg,qAe,qAb,qAd,qAa,qAj,qAf,qAc,BodyK,resVs,resV,retV,qAm,qAh,qAr,qAq,qAp,qAo,f0,f2,f3,f4,f5,vIns]
    refine irSets_call ho ?_
    obtain ⟨se,hse0⟩ : ∃ s,s = setsOf i := ⟨_,rfl⟩
    have hsl : se < big := by rw [hse0]; exact hse
    rw [← hse0]
    obtain ⟨w,hw⟩ : ∃ w,w = valOf i l := ⟨_,rfl⟩
    have hdr : ∀ r,doR i l r = if hasB se r = true then w else bareV (l.at r) := fun r => by rw [hse0,hw]; rfl
    rw [← hw]
    obtain ⟨y,hy⟩ : ∃ y,y = doV i l := ⟨_,rfl⟩
    have ya : y.a = if hasB se 0 = true then w else bareV l.a := by rw [hy]; exact hdr 0
    have yb : y.b = if hasB se 1 = true then w else bareV l.b := by rw [hy]; exact hdr 1
    have yc : y.c = if hasB se 2 = true then w else bareV l.c := by rw [hy]; exact hdr 2
    have yd : y.d = if hasB se 3 = true then w else bareV l.d := by rw [hy]; exact hdr 3
    rw [← hy]
    simp [-qAv,qAk,qAn,qAl,qAi,qAg,qAe,qAb,qAd,qAa,qAj,qAf,qAc,BodyK,resVs,resV,retV,qAm,qAh,qAr,qAq,qAp,qAo,callK_def,f0,f2,f3,f4,f5,c4]
    rw [qAv]
    simp [-qAv,qAk,qAn,qAl,qAi,qAg,qAe,qAb,qAd,qAa,qAj,qAf,qAc,BodyK,resVs,resV,retV,qAm,qAh,qAr,qAq,qAp,qAo,f0,f2,f3,f4,f5]
    refine qGv (σ := Nat × List Ob) (fun x fr h' => x.1 ≤ 4 ∧ fr 3 = .pointer (some ⟨h.length + 1,0,some 0⟩) ∧ fr 4 = .pointer (some ⟨h.length + 2,0,some 0⟩) ∧ fr 5 = .pointer (some ⟨h.length + 3,0,some 0⟩) ∧ fr 6 = vU se ∧ fr 41 = vK l ∧ fr 42 = vI x.1 ∧
      h' = h ++ (bx (vIns i) 4 :: bx (c4 (mixV x.1 y l)) 2 :: bx zero8 2 :: bx (cV w) 2 :: x.2)) (fun x => 4 - x.1) ?_ (0,[]) ⟨by simp,by simp [f3],by simp [f4],by simp [f5],by simp,by simp [vK],by simp,rfl⟩
    rintro ⟨k,ex⟩ fr _ ⟨hk4,f3,f4,f5,f6,f41,f42,rfl⟩
    simp only at hk4 f42
    obtain rfl | rfl | rfl | rfl | rfl : k = 0 ∨ k = 1 ∨ k = 2 ∨ k = 3 ∨ k = 4 := by omega
    · simp [qAk,qAn,qAl,qAi,qAg,qAe,qAb,qAd,qAa,qAj,qAf,qAc,BodyK,resVs,resV,retV,qAm,qAh,qAr,qAq,qAp,qAo,f3,f4,f5,f6,f41,f42,vK,c4,mixV]
      refine qGl (v := l.a) ?_
      obtain ⟨b,hb⟩ : ∃ b,b = bareV l.a := ⟨_,rfl⟩
      rw [← hb] at ya ⊢
      simp [qAk,qAn,qAl,qAi,qAg,qAe,qAb,qAd,qAa,qAj,qAf,qAc,BodyK,resVs,resV,retV,qAm,qAh,qAr,qAq,qAp,qAo,callK_def,f3,f4,f5,f6,f41,f42,vV,c4,mixV]
      refine bHas_call hsl ?_
      cases hh : hasB se 0 with
      | true =>
        rw [hh,if_pos rfl] at ya
        simp [qAk,qAn,qAl,qAi,qAg,qAe,qAb,qAd,qAa,qAj,qAf,qAc,BodyK,resVs,resV,retV,qAm,qAh,qAr,qAq,qAp,qAo,callK_def,f3,f4,f5,f6,f41,f42,vV,c4,mixV,cV]
        refine .go (1,ex ++ [bx [v8 l.a.kind,vI l.a.n] 2]) (by simp) ⟨by simp,by simp [f3],by simp [f4],by simp [f5],by simp [f6],by simp [f41,vK],by simp,by simp [mixV,c4,cV,vIns,← ya]⟩
      | false =>
        rw [hh,if_neg (by simp)] at ya
        simp [qAk,qAn,qAl,qAi,qAg,qAe,qAb,qAd,qAa,qAj,qAf,qAc,BodyK,resVs,resV,retV,qAm,qAh,qAr,qAq,qAp,qAo,callK_def,f3,f4,f5,f6,f41,f42,vV,c4,mixV,cV]
        refine .go (1,ex ++ [bx [v8 l.a.kind,vI l.a.n] 2]) (by simp) ⟨by simp,by simp [f3],by simp [f4],by simp [f5],by simp [f6],by simp [f41,vK],by simp,by simp [mixV,c4,cV,vIns,← ya]⟩
    · simp [qAk,qAn,qAl,qAi,qAg,qAe,qAb,qAd,qAa,qAj,qAf,qAc,BodyK,resVs,resV,retV,qAm,qAh,qAr,qAq,qAp,qAo,f3,f4,f5,f6,f41,f42,vK,c4,mixV]
      refine qGl (v := l.b) ?_
      obtain ⟨b,hb⟩ : ∃ b,b = bareV l.b := ⟨_,rfl⟩
      rw [← hb] at yb ⊢
      simp [qAk,qAn,qAl,qAi,qAg,qAe,qAb,qAd,qAa,qAj,qAf,qAc,BodyK,resVs,resV,retV,qAm,qAh,qAr,qAq,qAp,qAo,callK_def,f3,f4,f5,f6,f41,f42,vV,c4,mixV]
      refine bHas_call hsl ?_
      cases hh : hasB se 1 with
      | true =>
        rw [hh,if_pos rfl] at yb
        simp [qAk,qAn,qAl,qAi,qAg,qAe,qAb,qAd,qAa,qAj,qAf,qAc,BodyK,resVs,resV,retV,qAm,qAh,qAr,qAq,qAp,qAo,callK_def,f3,f4,f5,f6,f41,f42,vV,c4,mixV,cV]
        refine .go (2,ex ++ [bx [v8 l.b.kind,vI l.b.n] 2]) (by simp) ⟨by simp,by simp [f3],by simp [f4],by simp [f5],by simp [f6],by simp [f41,vK],by simp,by simp [mixV,c4,cV,vIns,← yb]⟩
      | false =>
        rw [hh,if_neg (by simp)] at yb
        simp [qAk,qAn,qAl,qAi,qAg,qAe,qAb,qAd,qAa,qAj,qAf,qAc,BodyK,resVs,resV,retV,qAm,qAh,qAr,qAq,qAp,qAo,callK_def,f3,f4,f5,f6,f41,f42,vV,c4,mixV,cV]
        refine .go (2,ex ++ [bx [v8 l.b.kind,vI l.b.n] 2]) (by simp) ⟨by simp,by simp [f3],by simp [f4],by simp [f5],by simp [f6],by simp [f41,vK],by simp,by simp [mixV,c4,cV,vIns,← yb]⟩
    · simp [qAk,qAn,qAl,qAi,qAg,qAe,qAb,qAd,qAa,qAj,qAf,qAc,BodyK,resVs,resV,retV,qAm,qAh,qAr,qAq,qAp,qAo,f3,f4,f5,f6,f41,f42,vK,c4,mixV]
      refine qGl (v := l.c) ?_
      obtain ⟨b,hb⟩ : ∃ b,b = bareV l.c := ⟨_,rfl⟩
      rw [← hb] at yc ⊢
      simp [qAk,qAn,qAl,qAi,qAg,qAe,qAb,qAd,qAa,qAj,qAf,qAc,BodyK,resVs,resV,retV,qAm,qAh,qAr,qAq,qAp,qAo,callK_def,f3,f4,f5,f6,f41,f42,vV,c4,mixV]
      refine bHas_call hsl ?_
      cases hh : hasB se 2 with
      | true =>
        rw [hh,if_pos rfl] at yc
        simp [qAk,qAn,qAl,qAi,qAg,qAe,qAb,qAd,qAa,qAj,qAf,qAc,BodyK,resVs,resV,retV,qAm,qAh,qAr,qAq,qAp,qAo,callK_def,f3,f4,f5,f6,f41,f42,vV,c4,mixV,cV]
        refine .go (3,ex ++ [bx [v8 l.c.kind,vI l.c.n] 2]) (by simp) ⟨by simp,by simp [f3],by simp [f4],by simp [f5],by simp [f6],by simp [f41,vK],by simp,by simp [mixV,c4,cV,vIns,← yc]⟩
      | false =>
        rw [hh,if_neg (by simp)] at yc
        simp [qAk,qAn,qAl,qAi,qAg,qAe,qAb,qAd,qAa,qAj,qAf,qAc,BodyK,resVs,resV,retV,qAm,qAh,qAr,qAq,qAp,qAo,callK_def,f3,f4,f5,f6,f41,f42,vV,c4,mixV,cV]
        refine .go (3,ex ++ [bx [v8 l.c.kind,vI l.c.n] 2]) (by simp) ⟨by simp,by simp [f3],by simp [f4],by simp [f5],by simp [f6],by simp [f41,vK],by simp,by simp [mixV,c4,cV,vIns,← yc]⟩
    · simp [qAk,qAn,qAl,qAi,qAg,qAe,qAb,qAd,qAa,qAj,qAf,qAc,BodyK,resVs,resV,retV,qAm,qAh,qAr,qAq,qAp,qAo,f3,f4,f5,f6,f41,f42,vK,c4,mixV]
      refine qGl (v := l.d) ?_
      obtain ⟨b,hb⟩ : ∃ b,b = bareV l.d := ⟨_,rfl⟩
      rw [← hb] at yd ⊢
      simp [qAk,qAn,qAl,qAi,qAg,qAe,qAb,qAd,qAa,qAj,qAf,qAc,BodyK,resVs,resV,retV,qAm,qAh,qAr,qAq,qAp,qAo,callK_def,f3,f4,f5,f6,f41,f42,vV,c4,mixV]
      refine bHas_call hsl ?_
      cases hh : hasB se 3 with
      | true =>
        rw [hh,if_pos rfl] at yd
        simp [qAk,qAn,qAl,qAi,qAg,qAe,qAb,qAd,qAa,qAj,qAf,qAc,BodyK,resVs,resV,retV,qAm,qAh,qAr,qAq,qAp,qAo,callK_def,f3,f4,f5,f6,f41,f42,vV,c4,mixV,cV]
        refine .go (4,ex ++ [bx [v8 l.d.kind,vI l.d.n] 2]) (by simp) ⟨by simp,by simp [f3],by simp [f4],by simp [f5],by simp [f6],by simp [f41,vK],by simp,by simp [mixV,c4,cV,vIns,← yd]⟩
      | false =>
        rw [hh,if_neg (by simp)] at yd
        simp [qAk,qAn,qAl,qAi,qAg,qAe,qAb,qAd,qAa,qAj,qAf,qAc,BodyK,resVs,resV,retV,qAm,qAh,qAr,qAq,qAp,qAo,callK_def,f3,f4,f5,f6,f41,f42,vV,c4,mixV,cV]
        refine .go (4,ex ++ [bx [v8 l.d.kind,vI l.d.n] 2]) (by simp) ⟨by simp,by simp [f3],by simp [f4],by simp [f5],by simp [f6],by simp [f41,vK],by simp,by simp [mixV,c4,cV,vIns,← yd]⟩
    · simp [qAk,qAn,qAl,qAi,qAg,qAe,qAb,qAd,qAa,qAj,qAf,qAc,BodyK,resVs,resV,retV,qAm,qAh,qAr,qAq,qAp,qAo,f3,f4,f5,f6,f41,f42,vK,c4,mixV,zero8]
end
end Pm
/- Numbers that are known,by the document: what is known behind an instruction.
   No condition: plain lemmas. -/
namespace Pm
set_option linter.unusedSimpArgs false
set_option linter.unusedVariables false
open Go Am
open Go.Proofs.Try (prog)

section
variable {h : Heap} {K : Value → Heap → Prop}
def zero4 : V4 := ⟨noV,noV,noV,noV⟩
end
end Pm
