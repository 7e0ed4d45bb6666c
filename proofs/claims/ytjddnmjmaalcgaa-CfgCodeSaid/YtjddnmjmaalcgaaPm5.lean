/- The pure machine: laws by which code is walked.
   No condition: plain lemmas. -/
import Derived.Test.YtjddnmjmaalcgaaPm4
namespace Pm
set_option linter.unusedSimpArgs false
set_option linter.unusedVariables false
open Go Am

/-! ### More is shown of more -/
theorem pOp_q {P : Program} {K : Fr → Heap → Prop} {is : List AIns} {d : Option Nat} {fl : List QOp} {o : QOp} {fr : Fr} {h : Heap} (hm : ¬ ∃ e b, o = .fn (.yield e) [.tmp b]) :
    pOp P K is d fl (.q o) fr h = (match pqop o fr h with | some v => pOps P K is (updO fr d v) h | none => False) := by
  rw [pOp]
  · rfl
  · intro e b x
    exact hm ⟨e, b, x⟩
mutual
theorem pOps_mono {P : Program} {K K' : Fr → Heap → Prop} (h : ∀ fr H, K fr H → K' fr H) : ∀ (is : List AIns) (fr : Fr) (H : Heap), pOps P K is fr H → pOps P K' is fr H
  | [], fr, H, x => by rw [pOps] at x ⊢; exact h fr H x
  | ⟨d, g, o, fl⟩ :: is, fr, H, x => by
    rw [pOps] at x ⊢
    split at x
    · rename_i hg; rw [if_pos hg]; exact pOp_mono h is d fl o fr H x
    · rename_i hg; rw [if_neg hg]; exact pOps_mono h is _ _ x
theorem pOp_mono {P : Program} {K K' : Fr → Heap → Prop} (h : ∀ fr H, K fr H → K' fr H) : ∀ (is : List AIns) (d : Option Nat) (fl : List QOp) (o : AOp) (fr : Fr) (H : Heap), pOp P K is d fl o fr H → pOp P K' is d fl o fr H
  | is, d, fl, .q o, fr, H, x => by
    by_cases hm : ∃ e b, o = .fn (.yield e) [.tmp b]
    · obtain ⟨e, b, rfl⟩ := hm
      simp only [pOp] at x ⊢
      split at x
      · exact pOps_mono h is _ _ x
      · exact x.elim
    · rw [pOp_q hm] at x ⊢
      split at x
      · exact pOps_mono h is _ _ x
      · exact x.elim
  | is, d, fl, .e o, fr, H, x => by
    simp only [pOp] at x ⊢
    split at x
    · exact ⟨x.1, pOps_mono h is _ _ x.2⟩
    · exact x.elim
  | is, d, fl, .call f args, fr, H, x => by
    simp only [pOp] at x ⊢
    exact x.mono fun v H' y => ⟨y.1, pOps_mono h is _ _ y.2⟩
  | is, d, fl, .callv g args, fr, H, x => by
    simp only [pOp] at x ⊢
    split at x
    · exact ⟨x.1, x.2.mono fun v H' y => ⟨y.1, pOps_mono h is _ _ y.2⟩⟩
    · exact x.elim
end
theorem pwp_mono {P : Program} : ∀ (c : AC) (Q Q' : Exit → Fr → Heap → Prop), (∀ e fr H, Q e fr H → Q' e fr H) → ∀ fr H, pwp P c Q fr H → pwp P c Q' fr H
  | .skip, _, _, h, _, _, x => h _ _ _ x
  | .ops is, _, _, h, fr, H, x => pOps_mono (h .normal) is fr H x
  | .seq a b, _, _, h, fr, H, x => pwp_mono a _ _ (SeqK_mono (pwp_mono b _ _ h) h) fr H x
  | .cond c a b, _, _, h, fr, H, x => condK_mono (pwp_mono a _ _ h) (pwp_mono b _ _ h) _ fr H x
  | .block id a, _, _, h, fr, H, x => pwp_mono a _ _ (BlockK_mono h) fr H x
  | .loop a, _, _, h, fr, H, ⟨n, x⟩ => ⟨n, rounds_mono (fun _ _ => pwp_mono a _ _) h n fr H x⟩
  | .exit _, _, _, h, _, _, x => h _ _ _ x
  | .label _, _, _, h, _, _, x => h _ _ _ x
  | .goto _, _, _, h, _, _, x => h _ _ _ x
  | .scope l a r, _, _, h, fr, H, ⟨n, x⟩ => ⟨n, pwp_mono a _ _ (JumpK_mono (jumps_mono (fun _ _ => pwp_mono r _ _) h n) h) fr H x⟩
  | .ret, _, _, h, _, _, x => h _ _ _ x

/-- A loop: what holds ahead of each round, with a number that falls. -/
theorem loop_rule {P : Program} {a : AC} {Q : Exit → Fr → Heap → Prop} (I : Nat → Fr → Heap → Prop) (step : ∀ n fr H, I n fr H → pwp P a (SeqK (fun fr H => ∃ k, k < n ∧ I k fr H) Q) fr H) {n : Nat} {fr : Fr} {H : Heap} (h : I n fr H) :
    pwp P (.loop a) Q fr H := by
  have key : ∀ (n : Nat), ∀ fr H, I n fr H → rounds (pwp P a) Q (n + 1) fr H := by
    intro n
    induction n using Nat.strongRecOn with
    | ind n ih =>
      intro fr H h
      refine pwp_mono a _ _ (SeqK_mono ?_ fun _ _ _ x => x) fr H (step n fr H h)
      rintro fr H ⟨k, hk, hI⟩
      exact rounds_more (fun _ _ => pwp_mono a _ _) (k + 1) n fr H (by omega) (ih k hk fr H hI)
  exact ⟨n + 1, key n fr H h⟩

/-- A label that is jumped back to. -/
theorem scope_rule {P : Program} {l : Nat} {a r : AC} {Q : Exit → Fr → Heap → Prop} (I : Nat → Fr → Heap → Prop) (step : ∀ n fr H, I n fr H → pwp P r (JumpK l (fun fr H => ∃ k, k < n ∧ I k fr H) Q) fr H) {fr : Fr} {H : Heap} {b : Nat}
    (h : pwp P a (JumpK l (fun fr H => ∃ k, k < b ∧ I k fr H) Q) fr H) : pwp P (.scope l a r) Q fr H := by
  have key : ∀ (n : Nat), ∀ fr H, I n fr H → jumps (pwp P r) l Q (n + 1) fr H := by
    intro n
    induction n using Nat.strongRecOn with
    | ind n ih =>
      intro fr H h
      refine pwp_mono r _ _ (JumpK_mono ?_ fun _ _ _ x => x) fr H (step n fr H h)
      rintro fr H ⟨k, hk, hI⟩
      exact jumps_more (fun _ _ => pwp_mono r _ _) (k + 1) n fr H (by omega) (ih k hk fr H hI)
  refine ⟨b, pwp_mono a _ _ (JumpK_mono ?_ fun _ _ _ x => x) fr H h⟩
  rintro fr H ⟨k, hk, hI⟩
  exact jumps_more (fun _ _ => pwp_mono r _ _) (k + 1) b fr H (by omega) (key k fr H hI)


/-! ### Forms that are walked by rewriting -/
def qK (P : Program) (K : Fr → Heap → Prop) (is : List AIns) (d : Option Nat) (fr : Fr) (H : Heap) (o : Option Value) : Prop := match o with | some v => pOps P K is (updO fr d v) H | none => False
def eK (P : Program) (K : Fr → Heap → Prop) (is : List AIns) (d : Option Nat) (fl : List QOp) (fr : Fr) (o : Option (Value × Heap)) : Prop := match o with | some x => fl = [] ∧ pOps P K is (updO fr d x.1) x.2 | none => False
def zK (P : Program) (K : Fr → Heap → Prop) (is : List AIns) (b : Nat) (fr : Fr) (o : Option (Value × Heap)) : Prop := match o with | some x => pOps P K is (upd fr b x.1) x.2 | none => False
def callK (P : Program) (K : Fr → Heap → Prop) (is : List AIns) (d : Option Nat) (fl : List QOp) (fr : Fr) (v : Value) (H' : Heap) : Prop := fl = [] ∧ pOps P K is (updO fr d v) H'
def cK (P : Program) (a b : AC) (Q : Exit → Fr → Heap → Prop) (fr : Fr) (H : Heap) (v : Value) : Prop := match v with | .bool t => if t = true then pwp P a Q fr H else pwp P b Q fr H | _ => False
def gK (P : Program) (K : Fr → Heap → Prop) (w : Bool) (i : AIns) (is : List AIns) (fr : Fr) (H : Heap) (v : Value) : Prop :=
  if (match v with | .bool c => c == w | _ => false) = true then pOps P K (i :: is) fr H else pOps P K is (updO fr i.dst (.tuple #[])) H
section
variable {P : Program} {K : Fr → Heap → Prop} {is : List AIns} {d : Option Nat} {fl : List QOp} {fr fr' : Fr} {H H' : Heap} {a b : AC} {Q : Exit → Fr → Heap → Prop}
@[congr] theorem qK_congr {o o' : Option Value} (h : o = o') : qK P K is d fr H o = qK P K is d fr H o' := by rw [h]
@[congr] theorem eK_congr {o o' : Option (Value × Heap)} (h : o = o') : eK P K is d fl fr o = eK P K is d fl fr o' := by rw [h]
@[congr] theorem zK_congr {b : Nat} {o o' : Option (Value × Heap)} (h : o = o') : zK P K is b fr o = zK P K is b fr o' := by rw [h]
@[congr] theorem callK_congr {v v' : Value} (h : v = v') (k : H = H') : callK P K is d fl fr v H = callK P K is d fl fr v' H' := by rw [h, k]
@[congr] theorem SeqK_congr {f : Fr → Heap → Prop} {e e' : Exit} (h : e = e') (k : fr = fr') (l : H = H') : SeqK f Q e fr H = SeqK f Q e' fr' H' := by rw [h, k, l]
@[congr] theorem BlockK_congr {i : Nat} {e e' : Exit} (h : e = e') (k : fr = fr') (l : H = H') : BlockK i Q e fr H = BlockK i Q e' fr' H' := by rw [h, k, l]
@[congr] theorem JumpK_congr {i : Nat} {f : Fr → Heap → Prop} {e e' : Exit} (h : e = e') (k : fr = fr') (l : H = H') : JumpK i f Q e fr H = JumpK i f Q e' fr' H' := by rw [h, k, l]
@[congr] theorem cK_congr {v v' : Value} (h : v = v') : cK P a b Q fr H v = cK P a b Q fr H v' := by rw [h]
@[congr] theorem gK_congr {w : Bool} {i : AIns} {v v' : Value} (h : v = v') : gK P K w i is fr H v = gK P K w i is fr H v' := by rw [h]
@[simp] theorem qK_some {v : Value} : qK P K is d fr H (some v) = pOps P K is (updO fr d v) H := Eq.trans rfl rfl
@[simp] theorem eK_some {v : Value} : eK P K is d fl fr (some (v, H')) = (fl = [] ∧ pOps P K is (updO fr d v) H') := Eq.trans rfl rfl
@[simp] theorem zK_some {b : Nat} {v : Value} : zK P K is b fr (some (v, H')) = pOps P K is (upd fr b v) H' := Eq.trans rfl rfl
@[simp] theorem cK_true : cK P a b Q fr H (.bool true) = pwp P a Q fr H := by simp only [cK, if_true]
@[simp] theorem cK_false : cK P a b Q fr H (.bool false) = pwp P b Q fr H := by simp only [cK, Bool.false_eq_true, if_false]
@[simp] theorem gK_tt {i : AIns} : gK P K true i is fr H (.bool true) = pOps P K (i :: is) fr H := if_pos rfl
@[simp] theorem gK_ff {i : AIns} : gK P K false i is fr H (.bool false) = pOps P K (i :: is) fr H := if_pos rfl
@[simp] theorem gK_tf {i : AIns} : gK P K true i is fr H (.bool false) = pOps P K is (updO fr i.dst (.tuple #[])) H := if_neg (by simp)
@[simp] theorem gK_ft {i : AIns} : gK P K false i is fr H (.bool true) = pOps P K is (updO fr i.dst (.tuple #[])) H := if_neg (by simp)
@[simp] theorem gK_u {w : Bool} {i : AIns} {vs : Array Value} : gK P K w i is fr H (.tuple vs) = pOps P K is (updO fr i.dst (.tuple #[])) H := if_neg (by simp)
theorem callK_def {v : Value} : callK P K is d fl fr v H' = (fl = [] ∧ pOps P K is (updO fr d v) H') := Eq.trans rfl rfl
theorem eK_optK {o : Option (Value × Heap)} : eK P K is d fl fr o = optK o fun x => fl = [] ∧ pOps P K is (updO fr d x.1) x.2 := by cases o <;> rfl
theorem zK_optK {b : Nat} {o : Option (Value × Heap)} : zK P K is b fr o = optK o fun x => pOps P K is (upd fr b x.1) x.2 := by cases o <;> rfl
theorem cK_dec {c : Prop} [Decidable c] (h1 : c → pwp P a Q fr H) (h2 : ¬ c → pwp P b Q fr H) : cK P a b Q fr H (.bool (decide c)) := by
  by_cases h : c
  · simp [h, h1 h]
  · simp [h, h2 h]
theorem cK_of {t : Bool} (h1 : t = true → pwp P a Q fr H) (h2 : t = false → pwp P b Q fr H) : cK P a b Q fr H (.bool t) := by
  cases t
  · simpa using h2 rfl
  · simpa using h1 rfl
@[congr] theorem pwp_congr {c : AC} (h : fr = fr') (k : H = H') : pwp P c Q fr H = pwp P c Q fr' H' := by rw [h, k]
@[congr] theorem pOps_congr (h : fr = fr') (k : H = H') : pOps P K is fr H = pOps P K is fr' H' := by rw [h, k]
@[simp] theorem pwp_skip : pwp P .skip Q fr H = Q .normal fr H := Eq.trans rfl rfl
@[simp] theorem pwp_ops : pwp P (.ops is) Q fr H = pOps P (Q .normal) is fr H := Eq.trans rfl rfl
@[simp] theorem pwp_seq : pwp P (.seq a b) Q fr H = pwp P a (SeqK (pwp P b Q) Q) fr H := Eq.trans rfl rfl
@[simp] theorem pwp_cond {c : Operand} : pwp P (.cond c a b) Q fr H = cK P a b Q fr H (ev fr c) := by
  simp only [pwp]
  cases ev fr c <;> rfl
@[simp] theorem pwp_block {id : Nat} : pwp P (.block id a) Q fr H = pwp P a (BlockK id Q) fr H := Eq.trans rfl rfl
@[simp] theorem pwp_exit {i : Nat} : pwp P (.exit i) Q fr H = Q (.exit i) fr H := Eq.trans rfl rfl
@[simp] theorem pwp_label {i : Nat} : pwp P (.label i) Q fr H = Q .normal fr H := Eq.trans rfl rfl
@[simp] theorem pwp_goto {i : Nat} : pwp P (.goto i) Q fr H = Q (.goto i) fr H := Eq.trans rfl rfl
@[simp] theorem pwp_ret : pwp P .ret Q fr H = Q .ret fr H := Eq.trans rfl rfl
@[simp] theorem pOps_nil : pOps P K [] fr H = K fr H := by rw [pOps]
@[simp] theorem pOps_g {t : Nat} {w : Bool} {o : AOp} : pOps P K (⟨d, some (t, w), o, fl⟩ :: is) fr H = gK P K w ⟨d, none, o, fl⟩ is fr H (fr t) := by
  have e : wantA fr (some (t, w)) = (match fr t with | .bool c => c == w | _ => false) := by
    simp only [wantA]; cases fr t <;> rfl
  unfold gK
  rw [pOps, e]
  generalize (match fr t with | .bool c => c == w | _ => false) = x
  cases x
  · rfl
  · rw [if_pos rfl, if_pos rfl, pOps, if_pos (show wantA fr none = true from rfl)]
@[simp] theorem pOps_call {f : FuncId} {args : List Operand} : pOps P K (⟨d, none, .call f args, fl⟩ :: is) fr H = PCall P f (args.map (ev fr)) H (callK P K is d fl fr) := by
  rw [pOps, if_pos (show wantA fr none = true from rfl), pOp]; rfl
@[congr] theorem PCall_congr {f : FuncId} {args args' : List Value} {K : Value → Heap → Prop} (h : args = args') (k : H = H') : PCall P f args H K = PCall P f args' H' K := by rw [h, k]
theorem pOps_callv {g : Operand} {args : List Operand} {f : FuncId} {first caps : Array Value} (hg : ev fr g = .func (.func f) first caps) (hc : callable P f = true) : pOps P K (⟨d, none, .callv g args, fl⟩ :: is) fr H = PCall P f (first.toList ++ args.map (ev fr) ++ caps.toList) H (callK P K is d fl fr) := by
  rw [pOps, if_pos (show wantA fr none = true from rfl), pOp, hg]
  simp [hc]; rfl
@[simp] theorem pOps_frz {d : Option Nat} {e b : Nat} : pOps P K (⟨d, none, .q (.fn (.yield e) [.tmp b]), fl⟩ :: is) fr H = zK P K is b fr (frzV H e (fr b)) := by
  rw [pOps, if_pos (show wantA fr none = true from rfl), pOp]; cases frzV H e (fr b) <;> rfl
@[simp] theorem pOps_val {x : Operand} : pOps P K (⟨d, none, .q (.val x), fl⟩ :: is) fr H = pOps P K is (updO fr d (ev fr x)) H := by
  rw [pOps, if_pos (show wantA fr none = true from rfl), pOp_q (by rintro ⟨_, _, x⟩; cases x)]; rfl
@[simp] theorem pOps_pick {c a b : Operand} : pOps P K (⟨d, none, .q (.pick c a b), fl⟩ :: is) fr H = qK P K is d fr H (pickV (ev fr a) (ev fr b) (ev fr c)) := by
  rw [pOps, if_pos (show wantA fr none = true from rfl), pOp_q (by rintro ⟨_, _, x⟩; cases x)]; rfl
@[simp] theorem pOps_build {z : List Value} {ps : List (Nat × Nat × Operand)} : pOps P K (⟨d, none, .q (.build z ps), fl⟩ :: is) fr H = qK P K is d fr H ((fillL z (ps.map fun p => (p.1, p.2.1, ev fr p.2.2))).map fun l => .agg l.toArray) := by
  rw [pOps, if_pos (show wantA fr none = true from rfl), pOp_q (by rintro ⟨_, _, x⟩; cases x)]; rfl
@[simp] theorem pOps_load {x : Operand} : pOps P K (⟨d, none, .q (.load x), fl⟩ :: is) fr H = qK P K is d fr H (pLd H (ev fr x)) := by
  rw [pOps, if_pos (show wantA fr none = true from rfl), pOp_q (by rintro ⟨_, _, x⟩; cases x)]; rfl
@[simp] theorem pOps_loadA {n : Nat} {x : Operand} : pOps P K (⟨d, none, .q (.loadA n x), fl⟩ :: is) fr H = qK P K is d fr H (pLdA H n (ev fr x)) := by
  rw [pOps, if_pos (show wantA fr none = true from rfl), pOp_q (by rintro ⟨_, _, x⟩; cases x)]; rfl
@[simp] theorem pOps_bin {op : BinOp} {x y : Operand} : pOps P K (⟨d, none, .q (.bin op x y), fl⟩ :: is) fr H = qK P K is d fr H (binV op (ev fr x) (ev fr y)) := by
  rw [pOps, if_pos (show wantA fr none = true from rfl), pOp_q (by rintro ⟨_, _, x⟩; cases x)]; rfl
@[simp] theorem pOps_eqB {g : Bool} {x y : Operand} : pOps P K (⟨d, none, .q (.eqB g x y), fl⟩ :: is) fr H = qK P K is d fr H (eqBV g (ev fr x) (ev fr y)) := by
  rw [pOps, if_pos (show wantA fr none = true from rfl), pOp_q (by rintro ⟨_, _, x⟩; cases x)]; rfl
@[simp] theorem pOps_not {x : Operand} : pOps P K (⟨d, none, .q (.not x), fl⟩ :: is) fr H = qK P K is d fr H (notV (ev fr x)) := by
  rw [pOps, if_pos (show wantA fr none = true from rfl), pOp_q (by rintro ⟨_, _, x⟩; cases x)]; rfl
@[simp] theorem pOps_neg {x : Operand} : pOps P K (⟨d, none, .q (.neg x), fl⟩ :: is) fr H = qK P K is d fr H (negV (ev fr x)) := by
  rw [pOps, if_pos (show wantA fr none = true from rfl), pOp_q (by rintro ⟨_, _, x⟩; cases x)]; rfl
@[simp] theorem pOps_conv {k : IntKind} {x : Operand} : pOps P K (⟨d, none, .q (.conv k x), fl⟩ :: is) fr H = qK P K is d fr H (convV k (ev fr x)) := by
  rw [pOps, if_pos (show wantA fr none = true from rfl), pOp_q (by rintro ⟨_, _, x⟩; cases x)]; rfl
@[simp] theorem pOps_cut {e : Nat} {x : Operand} {lo hi : Option Operand} : pOps P K (⟨d, none, .q (.cut e x lo hi), fl⟩ :: is) fr H = qK P K is d fr H (pCut H e (ev fr x) (lo.map (ev fr)) (hi.map (ev fr))) := by
  rw [pOps, if_pos (show wantA fr none = true from rfl), pOp_q (by rintro ⟨_, _, x⟩; cases x)]; rfl
@[simp] theorem pOps_fieldA {off : Nat} {x : Operand} : pOps P K (⟨d, none, .q (.fieldA off x), fl⟩ :: is) fr H = qK P K is d fr H (pField off (ev fr x)) := by
  rw [pOps, if_pos (show wantA fr none = true from rfl), pOp_q (by rintro ⟨_, _, x⟩; cases x)]; rfl
@[simp] theorem pOps_part {n : Option Nat} {off : Nat} {x : Operand} : pOps P K (⟨d, none, .q (.part n off x), fl⟩ :: is) fr H = qK P K is d fr H (partV n off (ev fr x)) := by
  rw [pOps, if_pos (show wantA fr none = true from rfl), pOp_q (by rintro ⟨_, _, x⟩; cases x)]; rfl
@[simp] theorem pOps_idxA {e : Nat} {x i : Operand} : pOps P K (⟨d, none, .q (.idxA e x i), fl⟩ :: is) fr H = qK P K is d fr H (pIdxA e (ev fr x) (ev fr i)) := by
  rw [pOps, if_pos (show wantA fr none = true from rfl), pOp_q (by rintro ⟨_, _, x⟩; cases x)]; rfl
@[simp] theorem pOps_idxP {l e : Nat} {x i : Operand} : pOps P K (⟨d, none, .q (.idxP l e x i), fl⟩ :: is) fr H = qK P K is d fr H (pIdxP l e (ev fr x) (ev fr i)) := by
  rw [pOps, if_pos (show wantA fr none = true from rfl), pOp_q (by rintro ⟨_, _, x⟩; cases x)]; rfl
@[simp] theorem pOps_idx {n : Option Nat} {l e : Nat} {x i : Operand} : pOps P K (⟨d, none, .q (.idx n l e x i), fl⟩ :: is) fr H = qK P K is d fr H (idxV n l e (ev fr x) (ev fr i)) := by
  rw [pOps, if_pos (show wantA fr none = true from rfl), pOp_q (by rintro ⟨_, _, x⟩; cases x)]; rfl
@[simp] theorem pOps_ext {x : Operand} {i : Nat} : pOps P K (⟨d, none, .q (.ext x i), fl⟩ :: is) fr H = qK P K is d fr H (extV i (ev fr x)) := by
  rw [pOps, if_pos (show wantA fr none = true from rfl), pOp_q (by rintro ⟨_, _, x⟩; cases x)]; rfl
@[simp] theorem pOps_len {x : Operand} : pOps P K (⟨d, none, .q (.len x), fl⟩ :: is) fr H = qK P K is d fr H (pLen (ev fr x)) := by
  rw [pOps, if_pos (show wantA fr none = true from rfl), pOp_q (by rintro ⟨_, _, x⟩; cases x)]; rfl
@[simp] theorem pOps_lenS {x : Operand} : pOps P K (⟨d, none, .q (.lenS x), fl⟩ :: is) fr H = qK P K is d fr H (lenSV (ev fr x)) := by
  rw [pOps, if_pos (show wantA fr none = true from rfl), pOp_q (by rintro ⟨_, _, x⟩; cases x)]; rfl
@[simp] theorem pOps_idxS {x i : Operand} : pOps P K (⟨d, none, .q (.idxS x i), fl⟩ :: is) fr H = qK P K is d fr H (idxSV (ev fr x) (ev fr i)) := by
  rw [pOps, if_pos (show wantA fr none = true from rfl), pOp_q (by rintro ⟨_, _, x⟩; cases x)]; rfl
@[simp] theorem pOps_ptrCk {x : Operand} : pOps P K (⟨d, none, .q (.ptrCk x), fl⟩ :: is) fr H = qK P K is d fr H (pPtr (ev fr x)) := by
  rw [pOps, if_pos (show wantA fr none = true from rfl), pOp_q (by rintro ⟨_, _, x⟩; cases x)]; rfl
@[simp] theorem pOps_eqS {g : Bool} {x y : Operand} : pOps P K (⟨d, none, .q (.eqS g x y), fl⟩ :: is) fr H = qK P K is d fr H (eqSV g (ev fr x) (ev fr y)) := by
  rw [pOps, if_pos (show wantA fr none = true from rfl), pOp_q (by rintro ⟨_, _, x⟩; cases x)]; rfl
@[simp] theorem pOps_eqA {ks : List Nat} {g : Bool} {x y : Operand} : pOps P K (⟨d, none, .q (.eqA ks g x y), fl⟩ :: is) fr H = qK P K is d fr H (eqAV ks g (ev fr x) (ev fr y)) := by
  rw [pOps, if_pos (show wantA fr none = true from rfl), pOp_q (by rintro ⟨_, _, x⟩; cases x)]; rfl
@[simp] theorem pOps_mm {mx : Bool} {x : Operand} {ys : List Operand} : pOps P K (⟨d, none, .q (.mm mx x ys), fl⟩ :: is) fr H = qK P K is d fr H (mmV mx (ev fr x) (ys.map (ev fr))) := by
  rw [pOps, if_pos (show wantA fr none = true from rfl), pOp_q (by rintro ⟨_, _, x⟩; cases x)]; rfl
@[simp] theorem pOps_fn {f : FuncId} {cs : List Operand} : pOps P K (⟨d, none, .q (.fn (.func f) cs), fl⟩ :: is) fr H = pOps P K is (updO fr d (.func (.func f) #[] (cs.map (ev fr)).toArray)) H := by
  rw [pOps, if_pos (show wantA fr none = true from rfl), pOp_q (by rintro ⟨_, _, x⟩; cases x)]; rfl
theorem pOps_e {o : EOp} : pOps P K (⟨d, none, .e o, fl⟩ :: is) fr H = eK P K is d fl fr (peop o fr H) := by
  rw [pOps, if_pos (show wantA fr none = true from rfl), pOp]; cases peop o fr H <;> rfl
@[simp] theorem pOps_new {z : List Value} {e : Nat} : pOps P K (⟨d, none, .e (.new z e), fl⟩ :: is) fr H = eK P K is d fl fr (some (.pointer (some ⟨H.length, 0, some 0⟩), Am.newRow H z e)) := pOps_e
@[simp] theorem pOps_box {n e : Nat} {x : Operand} : pOps P K (⟨d, none, .e (.box n e x), fl⟩ :: is) fr H = eK P K is d fl fr (match cellsOf (ev fr x) with | some vs => if vs.length = n then some (.pointer (some ⟨H.length, 0, some 0⟩), Am.newRow H vs e) else none | none => none) := pOps_e
@[simp] theorem pOps_lit {z : List Value} {e len : Nat} {ps : List (Nat × Nat × Operand)} : pOps P K (⟨d, none, .e (.lit z e len ps), fl⟩ :: is) fr H = eK P K is d fl fr ((fillL z (ps.map fun p => (p.1, p.2.1, ev fr p.2.2))).map fun l => (.slice (some ⟨H.length, 0, none⟩) len 0, Am.newRow H l e)) := pOps_e
@[simp] theorem pOps_make {z : List Value} {e : Nat} {l c : Operand} : pOps P K (⟨d, none, .e (.make z e l c), fl⟩ :: is) fr H = eK P K is d fl fr (makeV H z e (ev fr l) (ev fr c)) := pOps_e
@[simp] theorem pOps_store {n : Nat} {p x : Operand} : pOps P K (⟨d, none, .e (.store n p x), fl⟩ :: is) fr H = eK P K is d fl fr ((storeV H n (ev fr p) (ev fr x)).map fun H => (.tuple #[], H)) := pOps_e
@[simp] theorem pOps_app {e : Nat} {s x : Operand} : pOps P K (⟨d, none, .e (.app e s x), fl⟩ :: is) fr H = eK P K is d fl fr (pApp H e (ev fr s) (ev fr x)) := pOps_e
@[simp] theorem pOps_clear {z : List Value} {x : Operand} : pOps P K (⟨d, none, .e (.clear z x), fl⟩ :: is) fr H = eK P K is d fl fr ((clearV H z (ev fr x)).map fun H => (.tuple #[], H)) := pOps_e
@[simp] theorem pOps_copy {e : Nat} {dd s : Operand} : pOps P K (⟨d, none, .e (.copy e dd s), fl⟩ :: is) fr H = eK P K is d fl fr (pCopy H e (ev fr dd) (ev fr s)) := pOps_e
end
/-- Once more round, with less left. -/
def Next {σ : Type} (I : σ → Fr → Heap → Prop) (μ : σ → Nat) (x : σ) (fr : Fr) (h : Heap) : Prop := ∃ y, μ y < μ x ∧ I y fr h
@[congr] theorem Next_congr {σ : Type} {I : σ → Fr → Heap → Prop} {μ : σ → Nat} {x : σ} {fr fr' : Fr} {h h' : Heap} (e : fr = fr') (k : h = h') : Next I μ x fr h = Next I μ x fr' h' := by rw [e, k]
theorem Next.go {σ : Type} {I : σ → Fr → Heap → Prop} {μ : σ → Nat} {x : σ} {fr : Fr} {h : Heap} (y : σ) (h1 : μ y < μ x) (h2 : I y fr h) : Next I μ x fr h := ⟨y, h1, h2⟩
/-- A loop, by what changes in it. -/
theorem loop_r {P : Program} {a : AC} {Q : Exit → Fr → Heap → Prop} {fr : Fr} {h : Heap} {σ : Type} (I : σ → Fr → Heap → Prop) (μ : σ → Nat) (step : ∀ x fr h, I x fr h → pwp P a (SeqK (Next I μ x) Q) fr h) (x : σ) (h0 : I x fr h) : pwp P (.loop a) Q fr h := by
  refine loop_rule (fun n fr h => ∃ x, μ x = n ∧ I x fr h) ?_ (n := μ x) ⟨x, rfl, h0⟩
  rintro n fr h ⟨x, rfl, hx⟩
  refine pwp_mono a _ _ (SeqK_mono ?_ fun _ _ _ x => x) fr h (step x fr h hx)
  rintro fr h ⟨y, h1, h2⟩
  exact ⟨_, h1, y, rfl, h2⟩
/-- What holds between two parts. -/
theorem seq_rule {P : Program} {a b : AC} {Q : Exit → Fr → Heap → Prop} {fr : Fr} {h : Heap} (M : Fr → Heap → Prop) (h1 : pwp P a (SeqK M Q) fr h) (h2 : ∀ fr h, M fr h → pwp P b Q fr h) : pwp P (.seq a b) Q fr h :=
  pwp_mono a _ _ (SeqK_mono h2 fun _ _ _ x => x) fr h h1
end Pm
