/- Numbers that are known: code that reckons numbers alone, one behind the other.
   No condition: plain lemmas. -/
import Derived.Test.YtjddnmjmaalcgaaPmVal10
namespace Pm
set_option linter.unusedSimpArgs false
set_option linter.unusedVariables false
open Go Am
open Go.Proofs.Try (prog)

/-- An instruction that reckons, by choices. -/
def stIns (a b : Nat) : Ins := ⟨a % 6 + 1, (b % 4 : Nat), (b / 4 % 4 : Nat), if a % 6 + 1 = 1 ∨ a % 6 + 1 = 2 then 0 else ((b / 16 % 4 : Nat) : Int)⟩
/-- It reckons, in registers that there are. -/
structure Calc (c : Ins) : Prop where
  op : 1 ≤ c.op ∧ c.op ≤ 6
  a : 0 ≤ c.a ∧ c.a < 4
  b : 0 ≤ c.b ∧ c.b < 4
  c : 0 ≤ c.c ∧ c.c < 4
theorem stIns_calc (a b : Nat) : Calc (stIns a b) := by
  refine ⟨?_, ?_, ?_, ?_⟩
  · simp only [stIns]; omega
  · simp only [stIns]; omega
  · simp only [stIns]; omega
  · simp only [stIns]; split <;> omega
def rg (R : List Int) (r : Int) : Int := R[r.toNat]?.getD 0
/-- What is reckoned. -/
def numR (c : Ins) (R : List Int) : Int :=
  if c.op = 1 then c.b else if c.op = 2 then rg R c.b else if c.op = 3 then IntKind.i64.wrap (rg R c.b + rg R c.c) else if c.op = 4 then IntKind.i64.wrap (rg R c.b - rg R c.c)
  else if c.op = 5 then IntKind.i64.wrap (rg R c.b * rg R c.c) else if c.op = 6 then (if rg R c.b < rg R c.c then 1 else 0) else rg R c.a
def stepR (c : Ins) (R : List Int) : List Int := R.set c.a.toNat (numR c R)
def valR (R : List Int) : V4 := ⟨oneV (rg R 0), oneV (rg R 1), oneV (rg R 2), oneV (rg R 3)⟩
def runR (code : List Ins) : Nat → List Int
  | 0 => [0, 0, 0, 0]
  | i + 1 => match code[i]? with
    | some c => stepR c (runR code i)
    | none => runR code i
theorem runR_len (code : List Ins) : ∀ i, (runR code i).length = 4
  | 0 => rfl
  | i + 1 => by
    unfold runR
    split
    · simp [stepR, runR_len code i]
    · exact runR_len code i
theorem runR_succ {code : List Ins} {i : Nat} {c : Ins} (h : code[i]? = some c) : runR code (i + 1) = stepR c (runR code i) := by
  show (match code[i]? with | some c => stepR c (runR code i) | none => runR code i) = _
  rw [h]
theorem sets_calc {c : Ins} (h : Calc c) : setsOf c = bitN c.a := by
  obtain ⟨h1, h2⟩ := h.op
  have e : c.op = 1 ∨ c.op = 2 ∨ c.op = 3 ∨ c.op = 4 ∨ c.op = 5 ∨ c.op = 6 := by omega
  unfold setsOf regsOf
  rcases e with e | e | e | e | e | e <;> simp [e, wordAt, wordsOf, List.range, List.range.loop]
theorem has_bit {a r : Int} (ha : 0 ≤ a ∧ a < 4) (hr : 0 ≤ r ∧ r < 4) : hasB (bitN a) r = decide (r = a) := by
  rcases at_cases ha.1 ha.2 with rfl | rfl | rfl | rfl <;> rcases at_cases hr.1 hr.2 with rfl | rfl | rfl | rfl <;> rfl
theorem getV_valR {R : List Int} {r : Int} (hr : 0 ≤ r ∧ r < 4) : getV (valR R) r = oneV (rg R r) := by
  rcases at_cases hr.1 hr.2 with rfl | rfl | rfl | rfl <;> rfl
theorem at_valR {R : List Int} {r : Int} (hr : 0 ≤ r ∧ r < 4) : (valR R).at r = oneV (rg R r) := by
  rcases at_cases hr.1 hr.2 with rfl | rfl | rfl | rfl <;> rfl
theorem valOf_calc {c : Ins} (h : Calc c) (R : List Int) : valOf c (valR R) = oneV (numR c R) := by
  obtain ⟨h1, h2⟩ := h.op
  have e : c.op = 1 ∨ c.op = 2 ∨ c.op = 3 ∨ c.op = 4 ∨ c.op = 5 ∨ c.op = 6 := by omega
  unfold valOf numR
  rw [getV_valR h.b, getV_valR h.c]
  rcases e with e | e | e | e | e | e
  · simp [e]
  · simp [e]
  · simp [e, reckonV, oneV]
  · simp [e, reckonV, oneV]
  · simp [e, reckonV, oneV]
  · by_cases hl : rg R c.b < rg R c.c <;> simp [e, reckonV, oneV, hl]
theorem rg_set {R : List Int} (hR : R.length = 4) {a r n : Int} (ha : 0 ≤ a ∧ a < 4) (hr : 0 ≤ r ∧ r < 4) : rg (R.set a.toNat n) r = if r = a then n else rg R r := by
  unfold rg
  by_cases e : r = a
  · subst e
    rw [if_pos rfl, List.getElem?_set_self (by omega)]
    rfl
  · rw [if_neg e, List.getElem?_set_ne (by omega)]
theorem doR_calc {c : Ins} (h : Calc c) {R : List Int} (hR : R.length = 4) {r : Int} (hr : 0 ≤ r ∧ r < 4) : doR c (valR R) r = oneV (rg (stepR c R) r) := by
  unfold doR stepR
  rw [sets_calc h, has_bit h.a hr, valOf_calc h, rg_set hR h.a hr, at_valR hr]
  by_cases e : r = c.a
  · simp [e]
  · simp [e]; rfl
theorem doV_calc {c : Ins} (h : Calc c) {R : List Int} (hR : R.length = 4) : doV c (valR R) = valR (stepR c R) := by
  unfold doV valR
  rw [← doR_calc h hR (r := 0) (by decide), ← doR_calc h hR (r := 1) (by decide), ← doR_calc h hR (r := 2) (by decide), ← doR_calc h hR (r := 3) (by decide)]
  rfl
theorem runV_calc {code : List Ins} (h : ∀ c ∈ code, Calc c) {d : Ins} : ∀ i, i ≤ code.length → runV (code ++ [d]) i = valR (runR (code ++ [d]) i)
  | 0, _ => rfl
  | i + 1, hi => by
    have hc : code[i]? = some code[i] := by simp [show i < code.length by omega]
    have hc2 : (code ++ [d])[i]? = some code[i] := by rw [List.getElem?_append_left (by omega)]; exact hc
    rw [runV_succ hc2, runR_succ hc2, runV_calc h i (by omega), doV_calc (h _ (List.getElem_mem _)) (runR_len _ i)]
theorem len4 {R : List Int} (h : R.length = 4) : ∃ a b c d, R = [a, b, c, d] := by
  match R, h with
  | [a, b, c, d], _ => exact ⟨a, b, c, d, rfl⟩
theorem rg_at {R : List Int} (h : R.length = 4) {r : Int} (hr : 0 ≤ r ∧ r < 4) : (R.map vI)[r.toNat]? = some (vI (rg R r)) := by
  unfold rg
  rw [List.getElem?_map, List.getElem?_eq_getElem (by omega)]
  rfl
end Pm
