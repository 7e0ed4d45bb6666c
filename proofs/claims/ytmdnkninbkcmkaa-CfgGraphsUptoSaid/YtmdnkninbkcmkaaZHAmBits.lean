/- Small sets: what the program's functions on them yield.
   No condition: plain lemmas. -/
import Derived.Test.YtmdnkninbkcmkaaZHAmRep
import Derived.Test.YtmdnkninbkcmkaaZHAmCfgC
namespace Am
set_option linter.unusedSimpArgs false
set_option linter.unusedVariables false
open Go
open Go.Proofs.Try (prog)

abbrev vU (s : Nat) : Value := .int .u64 s
theorem wrapU_nat (n : Nat) : IntKind.u64.wrap (n : Int) = ((n % 18446744073709551616 : Nat) : Int) := by
  simp [IntKind.wrap, IntKind.bits, IntKind.signed]
theorem bits_or {a b : Nat} (ha : a < 18446744073709551616) (hb : b < 18446744073709551616) : bits .u64 .or (a : Int) (b : Int) = ((a ||| b : Nat) : Int) := by
  have hab : a ||| b < 2 ^ 64 := Nat.or_lt_two_pow (by omega) (by omega)
  have e : bits .u64 .or (a : Int) (b : Int) = IntKind.u64.wrap (((BitVec.ofInt 64 (a : Int) ||| BitVec.ofInt 64 (b : Int)).toNat : Nat) : Int) := rfl
  rw [e, BitVec.ofInt_natCast, BitVec.ofInt_natCast, BitVec.toNat_or, BitVec.toNat_ofNat, BitVec.toNat_ofNat, Nat.mod_eq_of_lt (a := a) (by omega), Nat.mod_eq_of_lt (a := b) (by omega), wrapU_nat, Nat.mod_eq_of_lt (by omega)]
theorem bits_and {a b : Nat} (ha : a < 18446744073709551616) (hb : b < 18446744073709551616) : bits .u64 .and (a : Int) (b : Int) = ((a &&& b : Nat) : Int) := by
  have hab : a &&& b ≤ a := Nat.and_le_left
  have e : bits .u64 .and (a : Int) (b : Int) = IntKind.u64.wrap (((BitVec.ofInt 64 (a : Int) &&& BitVec.ofInt 64 (b : Int)).toNat : Nat) : Int) := rfl
  rw [e, BitVec.ofInt_natCast, BitVec.ofInt_natCast, BitVec.toNat_and, BitVec.toNat_ofNat, BitVec.toNat_ofNat, Nat.mod_eq_of_lt (a := a) (by omega), Nat.mod_eq_of_lt (a := b) (by omega), wrapU_nat, Nat.mod_eq_of_lt (by omega)]
theorem pow_lt {i : Nat} (h : i < 64) : 2 ^ i < 18446744073709551616 := by
  have : 2 ^ i < 2 ^ 64 := Nat.pow_lt_pow_right (by omega) h
  omega
theorem shl_one {i : Nat} (h : i < 64) : binV .shl (.int .u64 1) (.int .i64 (i : Int)) = some (vU (2 ^ i)) := by
  rw [binV_shl (by omega)]
  have e : min ((i : Int).toNat) IntKind.u64.bits = i := by simp [IntKind.bits]; omega
  rw [e, Int.one_mul]
  have : ((2 : Int) ^ i) = ((2 ^ i : Nat) : Int) := by simp
  rw [this, wrapU_nat, Nat.mod_eq_of_lt (pow_lt h)]

def bitN (i : Int) : Nat := if 0 ≤ i ∧ i < 64 then 2 ^ i.toNat else 0
theorem bitN_lt (i : Int) : bitN i < 18446744073709551616 := by
  unfold bitN
  split
  · exact pow_lt (by omega)
  · omega
theorem bitN_nat {i : Nat} (h : i < 64) : bitN i = 2 ^ i := by unfold bitN; rw [if_pos ⟨by omega, by omega⟩]; rfl

theorem bit_spec {H : Heap} {i : Int} {K : Value → Heap → Prop} (h : K (vU (bitN i)) H) : ACall prog 65 [.int .i64 i] H K := by
  refine call_bit (by simp) ?_
  by_cases h0 : i < 0
  · have e : bitN i = 0 := by unfold bitN; rw [if_neg (by omega)]
    rw [e] at h
    simp [c_bit, enterF, h0, BodyK, resVs, resV, retV]
    exact h
  · by_cases h1 : 64 ≤ i
    · have e : bitN i = 0 := by unfold bitN; rw [if_neg (by omega)]
      rw [e] at h
      simp [c_bit, enterF, h0, h1, BodyK, resVs, resV, retV]
      exact h
    · obtain ⟨j, rfl⟩ : ∃ j : Nat, i = j := ⟨i.toNat, by omega⟩
      rw [bitN_nat (by omega)] at h
      simp [c_bit, enterF, h0, h1, shl_one (i := j) (by omega), BodyK, resVs, resV, retV]
      simpa using h

def allN (n : Nat) : Nat := 2 ^ n - 1
theorem All_spec {H : Heap} {n : Nat} {K : Value → Heap → Prop} (hn : n ≤ 64) (h : K (vU (allN n)) H) : ACall prog 41 [.int .i64 n] H K := by
  refine call_All (by simp) ?_
  rcases Nat.eq_zero_or_pos n with rfl | hp
  · simp [c_All, enterF, BodyK, resVs, resV, retV]
    exact h
  · have h0 : ¬ (n : Int) ≤ 0 := by omega
    by_cases h1 : n = 64
    · subst h1
      simp [c_All, enterF, BodyK, resVs, resV, retV]
      exact h
    · have h2 : ¬ (64 : Int) ≤ (n : Int) := by omega
      have hw : IntKind.u64.wrap (((2 ^ n : Nat) : Int) - 1) = ((allN n : Nat) : Int) := by
        have hp := pow_lt (i := n) (by omega)
        have h3 : 1 ≤ 2 ^ n := Nat.one_le_two_pow
        have : (((2 ^ n : Nat) : Int) - 1) = ((2 ^ n - 1 : Nat) : Int) := by omega
        rw [this, wrapU_nat, Nat.mod_eq_of_lt (by omega)]; rfl
      have hp' : n ≠ 0 := by omega
      obtain ⟨x, hx⟩ : ∃ x, x = 2 ^ n := ⟨_, rfl⟩
      have hs := shl_one (i := n) (by omega)
      rw [← hx] at hs hw
      simp [c_All, enterF, h0, h2, hp', hs, hw, BodyK, resVs, resV, retV]
      exact h

def withN (s : Nat) (l : List Int) : Nat := l.foldl (fun s i => s ||| bitN i) s
theorem or_lt {a b : Nat} (ha : a < 18446744073709551616) (hb : b < 18446744073709551616) : a ||| b < 18446744073709551616 := by
  have : a ||| b < 2 ^ 64 := Nat.or_lt_two_pow (by omega) (by omega)
  omega
theorem withN_lt : ∀ (l : List Int) (s : Nat), s < 18446744073709551616 → withN s l < 18446744073709551616
  | [], s, h => h
  | i :: l, s, h => withN_lt l _ (or_lt h (bitN_lt i))
theorem withN_step {l : List Int} {k : Nat} (hk : k < l.length) (s : Nat) : withN s (l.take k) ||| bitN l[k] = withN s (l.take (k + 1)) := by
  rw [← List.take_append_getElem hk]
  simp only [withN, List.foldl_append, List.foldl_cons, List.foldl_nil]

set_option maxHeartbeats 1000000 in
theorem With_spec {H : Heap} {s : Nat} {v : Value} {l : List Int} {S : Nat → Prop} {K : Value → Heap → Prop} (hs : s < 18446744073709551616) (hv : L1 vI S H v l) (hl : l.length < lim) (h : K (vU (withN s l)) H) :
    ACall prog 42 [vU s, v] H K := by
  refine call_With (by simp) ?_
  have hlim : lim = 1048576 := rfl
  simp [c_With, enterF, hv.len]
  refine loop_rule (fun m fr H' => H' = H ∧ fr 7 = v ∧ fr 8 = .int .i64 l.length ∧ ∃ k : Nat, fr 9 = .int .i64 k ∧ fr 0 = vU (withN s (l.take k)) ∧ m = l.length - k ∧ k ≤ l.length) ?_ (n := l.length) ?_
  · rintro m fr H' ⟨rfl, h7, h8, k, h9, h0, rfl, hk⟩
    obtain ⟨k', hk'⟩ : ∃ j, j = k + 1 := ⟨_, rfl⟩
    have wk : IntKind.i64.wrap ((k : Int) + 1) = (k' : Int) := by rw [wrap_i64 (by omega) (by omega)]; omega
    by_cases hkl : k < l.length
    · obtain ⟨p, e1, e2⟩ := L1.at hv (List.getElem?_eq_getElem hkl)
      have e3 := bits_or (withN_lt (l.take k) s hs) (bitN_lt l[k])
      simp [h7, h8, h9, h0, hkl, e1, e2]
      refine bit_spec ?_
      simp [callK_def, h7, h8, h9, h0, e3, wk]
      exact ⟨_, by omega, k', rfl, by rw [withN_step hkl, hk'], rfl, by omega⟩
    · have : k = l.length := by omega
      subst this
      rw [List.take_length] at h0
      simp [h7, h8, h9, h0, BodyK, resVs, resV, retV]
      exact h
  · simp [enterF]
    exact ⟨0, rfl, rfl, by simp⟩

theorem two_spec {H : Heap} {i : Nat} {K : Value → Heap → Prop} (hi : i < 64) (h : K (vU (2 ^ i)) H) : ACall prog 52 [.int .i64 i] H K := by
  refine call_two (by simp) ?_
  simp [c_two, enterF]
  refine loop_rule (fun m fr H' => H' = H ∧ fr 0 = .int .i64 i ∧ ∃ (k : Nat) (x : Nat), fr 4 = .int .i64 k ∧ fr 3 = vU x ∧ x = 2 ^ k ∧ m = i - k ∧ k ≤ i) ?_ (n := i) ?_
  · rintro m fr H' ⟨rfl, h0, k, x, h4, h3, hx, rfl, hk⟩
    obtain ⟨k', hk'⟩ : ∃ j, j = k + 1 := ⟨_, rfl⟩
    have wk : IntKind.i64.wrap ((k : Int) + 1) = (k' : Int) := by rw [wrap_i64 (by omega) (by omega)]; omega
    by_cases hkl : k < i
    · have hp := pow_lt (i := k') (by omega)
      obtain ⟨y, hy⟩ : ∃ y, y = 2 * x := ⟨_, rfl⟩
      have hy' : y = 2 ^ k' := by rw [hy, hx, hk', Nat.pow_succ, Nat.mul_comm]
      have wx : IntKind.u64.wrap (2 * (x : Int)) = (y : Int) := by
        have : 2 * (x : Int) = ((2 * x : Nat) : Int) := by simp
        rw [this, wrapU_nat, ← hy, Nat.mod_eq_of_lt (by omega)]
      simp [h0, h4, h3, hkl, wk, wx]
      exact ⟨_, by omega, k', rfl, y, rfl, hy', rfl, by omega⟩
    · have : k = i := by omega
      subst this
      rw [← hx] at h
      simp [h0, h4, h3, BodyK, resVs, resV, retV]
      exact h
  · simp [enterF]
    exact ⟨0, rfl, 1, rfl, rfl, by simp⟩

end Am
