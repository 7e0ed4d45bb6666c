/- 'interlocklaw10.CfgGraphs' returns true for every input and leaves its arguments as they were: Preds, Reach and Doms of any graph are what the chapter says, where what it reads is of bulk at most 1048576
   Conditions: those of the given statement alone. -/
import Derived.WalkKit
import Derived.ProofKit
import Derived.OpenShut
import Derived.Below
import Derived.JoinedCond
import Derived.Test.YtmdnkninbkcmkaaRows
import Derived.Test.YtmdnkninbkcmkaaZHPmEnterB
import Derived.Test.YtmdnkninbkcmkaaZHPmLaw
import Derived.Test.YtmdnkninbkcmkaaZHPmCfgGraphs
namespace Go.Proofs.Ytmdnkninbkcmkaa.cfgGraphs
open Go.ChangeShapes Go.WideShapes Go.ChangeAt Go.RowKit
set_option linter.unusedVariables false
set_option linter.unusedSimpArgs false

theorem own : ownKnob Try.prog.godebug = none := by kernel_rfl
theorem laidOut : laidOutB Try.prog = true := by kernel_rfl

theorem walk {D : Type} (enc : TypeId × Value → D) (W : World) (v0 : Value) (d0 : DataW D) (p0 : List MemPlace) (h0 : DataW.Trod enc Try.prog W 0 (fun _ => true) true 22 v0 d0 p0) (c0 : v0.cells.toList = [v0]) (hbk : Rows.uptoBulk d0 ≤ 1048576) (v1 : Value) (d1 : DataW D) (p1 : List MemPlace) (h1 : DataW.Trod enc Try.prog W 0 (fun _ => true) true 5 v1 d1 p1) (c1 : v1.cells.toList = [v1]) (v2 : Value) (d2 : DataW D) (p2 : List MemPlace) (h2 : DataW.Trod enc Try.prog W 0 (fun _ => true) true 23 v2 d2 p2) (c2 : v2.cells.toList = [v2]) (v3 : Value) (d3 : DataW D) (p3 : List MemPlace) (h3 : DataW.Trod enc Try.prog W 0 (fun _ => true) true 5 v3 d3 p3) (c3 : v3.cells.toList = [v3]) :
    Calls Try.prog 3 #[v0, v1, v2, v3] W fun e w' => e = .returned (.bool true) ∧ Below W.heap.size W w' := by
  obtain ⟨f0, h0⟩ := h0
  rw [c0] at h0
  have s0 := Pm.comesB_of (B := 1048576) (by have : maxLen = 9223372036854775807 := rfl; omega) 9 (s := (.sl (.sl (.int .i64 .nil) .nil) .nil)) (by kernel_rfl) h0 hbk
  obtain ⟨f1, h1⟩ := h1
  rw [c1] at h1
  have s1 := Pm.comes_of 9 (s := (.int .u8 .nil)) (by kernel_rfl) h1
  obtain ⟨f2, h2⟩ := h2
  rw [c2] at h2
  have s2 := Pm.comes_of 9 (s := (.sl (.int .u8 .nil) .nil)) (by kernel_rfl) h2
  obtain ⟨f3, h3⟩ := h3
  rw [c3] at h3
  have s3 := Pm.comes_of 9 (s := (.int .u8 .nil)) (by kernel_rfl) h3
  obtain ⟨m1, x1, a1, p1, hc1, z1, hi1, hf1⟩ := s0 _ _ (Am.Came.start (Am.GlobW.none W))
  obtain ⟨m, x2, a2, p2, hc, z2, hi2, hf⟩ := (s1.app (s2.app s3)) _ _ hc1
  have hi := (hi1.mono (ext := x2) z2).app hi2
  obtain ⟨y0, e0, b0⟩ := Pm.decB_intss (by have : maxLen = 9223372036854775807 := rfl; omega) _ hf1
  obtain ⟨q1, r1, e1, g1, hf⟩ := Pm.fits_app hf
  obtain ⟨y1, rfl, b1⟩ := Pm.dec_u8 _ g1
  obtain ⟨q2, r2, e2, g2, hf⟩ := Pm.fits_app hf
  obtain ⟨y2, rfl, b2⟩ := Pm.dec_bytes _ g2
  obtain ⟨y3, e3, b3⟩ := Pm.dec_u8 _ hf
  subst e3 e2 e1 e0
  exact Pm.law_of (Pm.CfgGraphs_spec y0 y1 y2 y3 b0 b1 b2 b3) hc hi

set_option maxRecDepth 100000 in
theorem contract (H : Type) (enc : TypeId × Value → H) (W : World) (base : Nat) (args : Array Value) (ds gs : List (DataW H)) (before : List MemPlace)
    (hval0 : ∀ (j : Nat) t v, Try.f3.params[j]? = some t → args[j]? = some v → Value.okWide Try.prog W .any base t v)
    (hW : DataW.Whole enc Try.prog Try.f3.params.toList Rows.cfgGraphsSpec.vars false W args.toList ds gs before) (hk : Rows.uptoSmall H (ds ++ gs) = true) :
    Calls Try.prog 3 args W fun e W' => ∃ v, e = .returned v ∧ Rows.cfgGraphsSpec.post enc Try.prog Try.f3 false true false false W args v W' := by
  have hval : ∀ (j : Nat) t v, Try.f3.params[j]? = some t → args[j]? = some v → Value.okWide Try.prog W .any base t v := hval0
  have hW' := hW
  obtain ⟨p, q, hA0, hV, rfl, hfz, hnd⟩ := hW
  have hA : DataW.TrodAll enc Try.prog W 0 (fun _ => true) true Try.f3.params.toList args.toList ds p := hA0
  rw [Try.params3] at hA hval
  obtain ⟨v0, vs0, d0, ds0, p0, q0, hargs, rfl, rfl, h0, r0⟩ := trodAll_cons hA
  obtain ⟨v1, vs1, d1, ds1, p1, q1, rfl, rfl, rfl, h1, r1⟩ := trodAll_cons r0
  obtain ⟨v2, vs2, d2, ds2, p2, q2, rfl, rfl, rfl, h2, r2⟩ := trodAll_cons r1
  obtain ⟨v3, vs3, d3, ds3, p3, q3, rfl, rfl, rfl, h3, r3⟩ := trodAll_cons r2
  obtain ⟨rfl, rfl, rfl⟩ := trodAll_nil r3
  obtain rfl : args = #[v0, v1, v2, v3] := by cases args; simp_all
  obtain ⟨rfl, rfl⟩ := trodVars_none hV
  have c0 : v0.cells.toList = [v0] := by
    obtain ⟨a, b, c, rfl⟩ := okWide_slice Try.underlying22 (hval 0 22 v0 rfl rfl); rfl
  have c1 : v1.cells.toList = [v1] := by
    obtain ⟨a, rfl⟩ := okWide_int Try.underlying5 (hval 1 5 v1 rfl rfl); rfl
  have c2 : v2.cells.toList = [v2] := by
    obtain ⟨a, b, c, rfl⟩ := okWide_slice Try.underlying23 (hval 2 23 v2 rfl rfl); rfl
  have c3 : v3.cells.toList = [v3] := by
    obtain ⟨a, rfl⟩ := okWide_int Try.underlying5 (hval 3 5 v3 rfl rfl); rfl
  have lt0 : ∀ x ∈ p0, x.block < W.heap.size := by obtain ⟨m, hm⟩ := h0; exact DataW.trod_lt m _ _ _ hm
  have lt1 : ∀ x ∈ p1, x.block < W.heap.size := by obtain ⟨m, hm⟩ := h1; exact DataW.trod_lt m _ _ _ hm
  have lt2 : ∀ x ∈ p2, x.block < W.heap.size := by obtain ⟨m, hm⟩ := h2; exact DataW.trod_lt m _ _ _ hm
  have lt3 : ∀ x ∈ p3, x.block < W.heap.size := by obtain ⟨m, hm⟩ := h3; exact DataW.trod_lt m _ _ _ hm
  clear hA0 hval0
  have hb : Rows.uptoBulk d0 ≤ 1048576 := by
    have h1 : Rows.uptoBulkAll _ ≤ 1048576 := of_decide_eq_true hk
    simp only [List.append_nil, Rows.uptoBulkAll] at h1
    omega
  refine (walk enc W v0 d0 p0 h0 c0 hb v1 d1 p1 h1 c1 v2 d2 p2 h2 c2 v3 d3 p3 h3 c3).mono fun e W' ⟨he, bel⟩ => ?_
  subst he
  exact ⟨_, rfl, _, _, _, [], _, [], hW', trodAll_mk1 (shut_bool Try.underlying4 _), (trodAll_cons_mk (Below.trod laidOut (by kernel_rfl) (of_decide_eq_true (by kernel_rfl)) h0 bel lt0) (trodAll_cons_mk (Below.trod laidOut (by kernel_rfl) (of_decide_eq_true (by kernel_rfl)) h1 bel lt1) (trodAll_cons_mk (Below.trod laidOut (by kernel_rfl) (of_decide_eq_true (by kernel_rfl)) h2 bel lt2) (trodAll_cons_mk (Below.trod laidOut (by kernel_rfl) (of_decide_eq_true (by kernel_rfl)) h3 bel lt3) trodAll_mk0)))), rfl, bel.frame _, fun h => by cases h⟩

set_option maxRecDepth 100000 in
theorem lifted (os : Os) (started : os.Started) (H : Type) (enc : TypeId × Value → H) (F : Stop.Interp) :
    ReturnsInHanded {} Try.checked os 3 .any ((Rows.OpenSpec.upto Rows.cfgGraphsSpec).pre6 enc Try.prog Try.f3 Rows.cfgGraphsUptoRow.domain false) (((Rows.OpenSpec.upto Rows.cfgGraphsSpec).at F).post enc Try.prog Try.f3 false true false false) := by
  refine returnsInHanded_of_cond (C := Try.checked) (s := Rows.OpenSpec.upto Rows.cfgGraphsSpec) (k := Rows.uptoSmall) rfl own started (by kernel_rfl) Try.func3
    (OpenSpec.witness (enc := enc) (C := Try.checked) (s := Rows.OpenSpec.upto Rows.cfgGraphsSpec) (k := Rows.uptoSmall) rfl false ⟨#[], #[.slice none 0 0, .int .u8 0, .slice none 0 0, .int .u8 0], []⟩ 8 (by kernel_rfl) (by kernel_rfl) (by kernel_rfl)
      (x := ([.nil, .lit (.int .u8 0), .nil, .lit (.int .u8 0)], [], [])) (by kernel_rfl) rfl (by kernel_rfl)) ?_
  intro W base args ds gs before hval hW _ hk _
  exact contract H enc W base args ds gs before hval hW hk

theorem proved : Rows.CfgGraphsUptoSaid :=
  OpenClaim.holds_of_cond 3 Try.f3 rfl rfl rfl rfl rfl rfl rfl ⟨rfl, rfl, rfl, rfl, rfl⟩ rfl rfl rfl rfl rfl (by kernel_rfl) Try.func3 (by kernel_rfl)
    (of_decide_eq_true (by kernel_rfl)) (by unfold Func.isWrapper; first | (rw [if_pos (by decide +kernel)]; kernel_rfl) | (rw [if_neg (by decide +kernel)]; exact ⟨rfl, rfl⟩))
    (fun os started H enc _ F => lifted os started H enc F)
#print axioms proved
end Go.Proofs.Ytmdnkninbkcmkaa.cfgGraphs
