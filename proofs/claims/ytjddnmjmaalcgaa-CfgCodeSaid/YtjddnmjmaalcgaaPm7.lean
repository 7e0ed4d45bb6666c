/- The pure machine: short forms of instructions, for codes that are printed.
   No condition: plain lemmas. -/
import Derived.Test.YtjddnmjmaalcgaaPm6
namespace Pm
set_option linter.unusedSimpArgs false
set_option linter.unusedVariables false
open Go Am

/-- A slot into a slot; a number into one. -/
def V (d x : Nat) : AIns := ⟨some d, none, .q (.val (.tmp x)), []⟩
def N (d : Nat) (n : Int) : AIns := ⟨some d, none, .q (.val (.const (.int .i64 n))), []⟩
def T (d : Nat) (b : Bool) : AIns := ⟨some d, none, .q (.val (.const (.bool b))), []⟩
def E (d : Nat) : AIns := ⟨some d, none, .q (.val (.const (.slice none 0 0))), []⟩
def B (d : Nat) (o : BinOp) (x y : Nat) : AIns := ⟨some d, none, .q (.bin o (.tmp x) (.tmp y)), []⟩
def Bn (d : Nat) (o : BinOp) (x : Nat) (n : Int) : AIns := ⟨some d, none, .q (.bin o (.tmp x) (.const (.int .i64 n))), []⟩
def Bk (d : Nat) (o : BinOp) (x : Nat) (k : IntKind) (n : Int) : AIns := ⟨some d, none, .q (.bin o (.tmp x) (.const (.int k n))), []⟩
def L (d x : Nat) : AIns := ⟨some d, none, .q (.load (.tmp x)), []⟩
def LA (d n x : Nat) : AIns := ⟨some d, none, .q (.loadA n (.tmp x)), []⟩
def X (d e x i : Nat) : AIns := ⟨some d, none, .q (.idxA e (.tmp x) (.tmp i)), []⟩
def Ln (d x : Nat) : AIns := ⟨some d, none, .q (.len (.tmp x)), []⟩
def F (d o x : Nat) : AIns := ⟨some d, none, .q (.part none o (.tmp x)), []⟩
def FA (d o x : Nat) : AIns := ⟨some d, none, .q (.fieldA o (.tmp x)), []⟩
def S (p x : Nat) : AIns := ⟨none, none, .e (.store 1 (.tmp p) (.tmp x)), []⟩
def Ap (d e s x : Nat) : AIns := ⟨some d, none, .e (.app e (.tmp s) (.tmp x)), []⟩
def Pk (d c x : Nat) (b : Bool) : AIns := ⟨some d, none, .q (.pick (.tmp c) (.tmp x) (.const (.bool b))), []⟩
def Cv' (d : Nat) (k : IntKind) (x : Nat) : AIns := ⟨some d, none, .q (.conv k (.tmp x)), []⟩
def Nt (d x : Nat) : AIns := ⟨some d, none, .q (.not (.tmp x)), []⟩
def Z (e b : Nat) : AIns := ⟨none, none, .q (.fn (.yield e) [.tmp b]), []⟩
def Gd (t : Nat) (w : Bool) (i : AIns) : AIns := ⟨i.dst, some (t, w), i.op, i.fl⟩
def O (l : List AIns) (c : AC) : AC := .seq (.ops l) c

@[simp] theorem V_dst (d x : Nat) : (V d x).dst = some d := Eq.trans rfl rfl
@[simp] theorem V_guard (d x : Nat) : (V d x).guard = none := Eq.trans rfl rfl
@[simp] theorem N_dst (d : Nat) (n : Int) : (N d n).dst = some d := Eq.trans rfl rfl
@[simp] theorem N_guard (d : Nat) (n : Int) : (N d n).guard = none := Eq.trans rfl rfl
@[simp] theorem T_dst (d : Nat) (b : Bool) : (T d b).dst = some d := Eq.trans rfl rfl
@[simp] theorem T_guard (d : Nat) (b : Bool) : (T d b).guard = none := Eq.trans rfl rfl
@[simp] theorem E_dst (d : Nat) : (E d).dst = some d := Eq.trans rfl rfl
@[simp] theorem E_guard (d : Nat) : (E d).guard = none := Eq.trans rfl rfl
@[simp] theorem B_dst (d : Nat) (o : BinOp) (x y : Nat) : (B d o x y).dst = some d := Eq.trans rfl rfl
@[simp] theorem B_guard (d : Nat) (o : BinOp) (x y : Nat) : (B d o x y).guard = none := Eq.trans rfl rfl
@[simp] theorem Bn_dst (d : Nat) (o : BinOp) (x : Nat) (n : Int) : (Bn d o x n).dst = some d := Eq.trans rfl rfl
@[simp] theorem Bn_guard (d : Nat) (o : BinOp) (x : Nat) (n : Int) : (Bn d o x n).guard = none := Eq.trans rfl rfl
@[simp] theorem Bk_dst (d : Nat) (o : BinOp) (x : Nat) (k : IntKind) (n : Int) : (Bk d o x k n).dst = some d := Eq.trans rfl rfl
@[simp] theorem Bk_guard (d : Nat) (o : BinOp) (x : Nat) (k : IntKind) (n : Int) : (Bk d o x k n).guard = none := Eq.trans rfl rfl
@[simp] theorem L_dst (d x : Nat) : (L d x).dst = some d := Eq.trans rfl rfl
@[simp] theorem L_guard (d x : Nat) : (L d x).guard = none := Eq.trans rfl rfl
@[simp] theorem LA_dst (d n x : Nat) : (LA d n x).dst = some d := Eq.trans rfl rfl
@[simp] theorem LA_guard (d n x : Nat) : (LA d n x).guard = none := Eq.trans rfl rfl
@[simp] theorem X_dst (d e x i : Nat) : (X d e x i).dst = some d := Eq.trans rfl rfl
@[simp] theorem X_guard (d e x i : Nat) : (X d e x i).guard = none := Eq.trans rfl rfl
@[simp] theorem Ln_dst (d x : Nat) : (Ln d x).dst = some d := Eq.trans rfl rfl
@[simp] theorem Ln_guard (d x : Nat) : (Ln d x).guard = none := Eq.trans rfl rfl
@[simp] theorem F_dst (d o x : Nat) : (F d o x).dst = some d := Eq.trans rfl rfl
@[simp] theorem F_guard (d o x : Nat) : (F d o x).guard = none := Eq.trans rfl rfl
@[simp] theorem FA_dst (d o x : Nat) : (FA d o x).dst = some d := Eq.trans rfl rfl
@[simp] theorem FA_guard (d o x : Nat) : (FA d o x).guard = none := Eq.trans rfl rfl
@[simp] theorem Pk_dst (d c x : Nat) (b : Bool) : (Pk d c x b).dst = some d := Eq.trans rfl rfl
@[simp] theorem Pk_guard (d c x : Nat) (b : Bool) : (Pk d c x b).guard = none := Eq.trans rfl rfl
@[simp] theorem Cv1_dst (d : Nat) (k : IntKind) (x : Nat) : (Cv' d k x).dst = some d := Eq.trans rfl rfl
@[simp] theorem Cv1_guard (d : Nat) (k : IntKind) (x : Nat) : (Cv' d k x).guard = none := Eq.trans rfl rfl
@[simp] theorem Nt_dst (d x : Nat) : (Nt d x).dst = some d := Eq.trans rfl rfl
@[simp] theorem Nt_guard (d x : Nat) : (Nt d x).guard = none := Eq.trans rfl rfl
@[simp] theorem Ap_dst (d e s x : Nat) : (Ap d e s x).dst = some d := Eq.trans rfl rfl
@[simp] theorem Ap_guard (d e s x : Nat) : (Ap d e s x).guard = none := Eq.trans rfl rfl

section
variable {P : Program} {K : Fr → Heap → Prop} {is : List AIns} {fr : Fr} {h : Heap} {Q : Exit → Fr → Heap → Prop} {d x y : Nat}
@[simp] theorem pOps_V : pOps P K (V d x :: is) fr h = pOps P K is (upd fr d (fr x)) h := pOps_val
@[simp] theorem pOps_N {n : Int} : pOps P K (N d n :: is) fr h = pOps P K is (upd fr d (.int .i64 n)) h := pOps_val
@[simp] theorem pOps_T {b : Bool} : pOps P K (T d b :: is) fr h = pOps P K is (upd fr d (.bool b)) h := pOps_val
@[simp] theorem pOps_E : pOps P K (E d :: is) fr h = pOps P K is (upd fr d (.slice none 0 0)) h := pOps_val
@[simp] theorem pOps_B {o : BinOp} : pOps P K (B d o x y :: is) fr h = qK P K is (some d) fr h (binV o (fr x) (fr y)) := pOps_bin
@[simp] theorem pOps_Bn {o : BinOp} {n : Int} : pOps P K (Bn d o x n :: is) fr h = qK P K is (some d) fr h (binV o (fr x) (.int .i64 n)) := pOps_bin
@[simp] theorem pOps_Bk {o : BinOp} {k : IntKind} {n : Int} : pOps P K (Bk d o x k n :: is) fr h = qK P K is (some d) fr h (binV o (fr x) (.int k n)) := pOps_bin
@[simp] theorem pOps_L : pOps P K (L d x :: is) fr h = qK P K is (some d) fr h (pLd h (fr x)) := pOps_load
@[simp] theorem pOps_LA {n : Nat} : pOps P K (LA d n x :: is) fr h = qK P K is (some d) fr h (pLdA h n (fr x)) := pOps_loadA
@[simp] theorem pOps_X {e : Nat} : pOps P K (X d e x y :: is) fr h = qK P K is (some d) fr h (pIdxA e (fr x) (fr y)) := pOps_idxA
@[simp] theorem pOps_Ln : pOps P K (Ln d x :: is) fr h = qK P K is (some d) fr h (pLen (fr x)) := pOps_len
@[simp] theorem pOps_F {o : Nat} : pOps P K (F d o x :: is) fr h = qK P K is (some d) fr h (partV none o (fr x)) := pOps_part
@[simp] theorem pOps_FA {o : Nat} : pOps P K (FA d o x :: is) fr h = qK P K is (some d) fr h (pField o (fr x)) := pOps_fieldA
@[simp] theorem pOps_S : pOps P K (S x y :: is) fr h = eK P K is none [] fr ((storeV h 1 (fr x) (fr y)).map fun H => (.tuple #[], H)) := pOps_store
@[simp] theorem pOps_Ap {e : Nat} : pOps P K (Ap d e x y :: is) fr h = eK P K is (some d) [] fr (pApp h e (fr x) (fr y)) := pOps_app
@[simp] theorem pOps_Pk {c : Nat} {b : Bool} : pOps P K (Pk d c x b :: is) fr h = qK P K is (some d) fr h (pickV (fr x) (.bool b) (fr c)) := pOps_pick
@[simp] theorem pOps_Cv {k : IntKind} : pOps P K (Cv' d k x :: is) fr h = qK P K is (some d) fr h (convV k (fr x)) := pOps_conv
@[simp] theorem pOps_Nt : pOps P K (Nt d x :: is) fr h = qK P K is (some d) fr h (notV (fr x)) := pOps_not
@[simp] theorem pOps_Z {e : Nat} : pOps P K (Z e x :: is) fr h = zK P K is x fr (frzV h e (fr x)) := pOps_frz
@[simp] theorem pOps_Gd {t : Nat} {w : Bool} {i : AIns} (hi : i.guard = none) : pOps P K (Gd t w i :: is) fr h = gK P K w i is fr h (fr t) := by
  obtain ⟨d, g, o, fl⟩ := i
  cases hi
  exact pOps_g
@[simp] theorem pwp_O {c : AC} : pwp P (O is c) Q fr h = pOps P (SeqK (pwp P c Q) Q .normal) is fr h := Eq.trans rfl rfl
end
end Pm
