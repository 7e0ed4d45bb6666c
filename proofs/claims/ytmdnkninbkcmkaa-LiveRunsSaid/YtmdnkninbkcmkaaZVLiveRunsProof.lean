/- 'interlocklaw15.LiveRuns' returns true for every input and leaves its arguments as they were: a register that is not yet to be read may be anything: by any script the same is told
   Conditions: those of the given statement alone. -/
import Derived.WalkKit
import Derived.ProofKit
import Derived.OpenShut
import Derived.Below
import Derived.Test.YtmdnkninbkcmkaaRows
import Derived.Test.YtmdnkninbkcmkaaZVPmLaw
import Derived.Test.YtmdnkninbkcmkaaZVPmLiveR
namespace Go.Proofs.Ytmdnkninbkcmkaa.liveRuns
open Go.ChangeShapes Go.WideShapes Go.ChangeAt Go.RowKit
set_option linter.unusedVariables false
set_option linter.unusedSimpArgs false

theorem own : ownKnob Try.prog.godebug = none := by kernel_rfl
theorem qMs : laidOutB Try.prog = true := by kernel_rfl

theorem walk {D : Type} (enc : TypeId × Value → D) (W : World) (v0 : Value) (d0 : DataW D) (p0 : List MemPlace) (h0 : DataW.Trod enc Try.prog W 0 (fun _ => true) true 31 v0 d0 p0) (c0 : v0.cells.toList = [v0]) (v1 : Value) (d1 : DataW D) (p1 : List MemPlace) (h1 : DataW.Trod enc Try.prog W 0 (fun _ => true) true 23 v1 d1 p1) (c1 : v1.cells.toList = [v1]) (v2 : Value) (d2 : DataW D) (p2 : List MemPlace) (h2 : DataW.Trod enc Try.prog W 0 (fun _ => true) true 23 v2 d2 p2) (c2 : v2.cells.toList = [v2]) (v3 : Value) (d3 : DataW D) (p3 : List MemPlace) (h3 : DataW.Trod enc Try.prog W 0 (fun _ => true) true 5 v3 d3 p3) (c3 : v3.cells.toList = [v3]) (v4 : Value) (d4 : DataW D) (p4 : List MemPlace) (h4 : DataW.Trod enc Try.prog W 0 (fun _ => true) true 5 v4 d4 p4) (c4 : v4.cells.toList = [v4]) (v5 : Value) (d5 : DataW D) (p5 : List MemPlace) (h5 : DataW.Trod enc Try.prog W 0 (fun _ => true) true 3 v5 d5 p5) (c5 : v5.cells.toList = [v5]) :
    Calls Try.prog 5 #[v0, v1, v2, v3, v4, v5] W fun e w' => e = .returned (.bool true) ∧ Below W.heap.size W w' := by
  obtain ⟨f0, h0⟩ := h0
  rw [c0] at h0
  have s0 := Pm.comes_of 9 (s := (.sl (.sl (.int .u8 .nil) .nil) .nil)) (by kernel_rfl) h0
  obtain ⟨f1, h1⟩ := h1
  rw [c1] at h1
  have s1 := Pm.comes_of 9 (s := (.sl (.int .u8 .nil) .nil)) (by kernel_rfl) h1
  obtain ⟨f2, h2⟩ := h2
  rw [c2] at h2
  have s2 := Pm.comes_of 9 (s := (.sl (.int .u8 .nil) .nil)) (by kernel_rfl) h2
  obtain ⟨f3, h3⟩ := h3
  rw [c3] at h3
  have s3 := Pm.comes_of 9 (s := (.int .u8 .nil)) (by kernel_rfl) h3
  obtain ⟨f4, h4⟩ := h4
  rw [c4] at h4
  have s4 := Pm.comes_of 9 (s := (.int .u8 .nil)) (by kernel_rfl) h4
  obtain ⟨f5, h5⟩ := h5
  rw [c5] at h5
  have s5 := Pm.comes_of 9 (s := (.int .i64 .nil)) (by kernel_rfl) h5
  obtain ⟨m, ext, acs, pcs, hc, _, hi, hf⟩ := (s0.app (s1.app (s2.app (s3.app (s4.app s5))))) _ _ (Am.Came.start (Am.GlobW.none W))
  obtain ⟨q0, r0, e0, g0, hf⟩ := Pm.fits_app hf
  obtain ⟨y0, rfl, b0⟩ := Pm.dec_bytess _ g0
  obtain ⟨q1, r1, e1, g1, hf⟩ := Pm.fits_app hf
  obtain ⟨y1, rfl, b1⟩ := Pm.dec_bytes _ g1
  obtain ⟨q2, r2, e2, g2, hf⟩ := Pm.fits_app hf
  obtain ⟨y2, rfl, b2⟩ := Pm.dec_bytes _ g2
  obtain ⟨q3, r3, e3, g3, hf⟩ := Pm.fits_app hf
  obtain ⟨y3, rfl, b3⟩ := Pm.dec_u8 _ g3
  obtain ⟨q4, r4, e4, g4, hf⟩ := Pm.fits_app hf
  obtain ⟨y4, rfl, b4⟩ := Pm.dec_u8 _ g4
  obtain ⟨y5, e5, b5⟩ := Pm.dec_i64 _ hf
  subst e5 e4 e3 e2 e1 e0
  exact Pm.law_of (Pm.LiveRuns_spec y0 y1 y2 y3 y4 y5 b0 b1 b2 b3 b4 b5) hc hi

set_option maxRecDepth 100000 in
theorem lifted (os : Os) (started : os.Started) (H : Type) (enc : TypeId × Value → H) :
    ReturnsInHanded {} Try.checked os 5 .any (Rows.liveRunsSpec.pre6 enc Try.prog Try.f5 Rows.liveRunsRow.domain false) (Rows.liveRunsSpec.post enc Try.prog Try.f5 false true false false) := by
  refine returnsInHanded_of_change (C := Try.checked) own started (by kernel_rfl) Try.func5
    (ChangeSpec.witness6 (enc := enc) (C := Try.checked) false ⟨#[], #[.slice none 0 0, .slice none 0 0, .slice none 0 0, .int .u8 0, .int .u8 0, .int .i64 0], []⟩ 8 (by kernel_rfl) (by kernel_rfl) (by kernel_rfl) (by kernel_rfl)) ?_
  intro W base args ds gs before hval0 hW hcnd _
  have hval : ∀ (j : Nat) t v, Try.f5.params[j]? = some t → args[j]? = some v → Value.okWide Try.prog W .any base t v := hval0
  have hW' := hW
  obtain ⟨p, q, hA0, hV, rfl, hfz, hnd⟩ := hW
  have hA : DataW.TrodAll enc Try.prog W 0 (fun _ => true) true Try.f5.params.toList args.toList ds p := hA0
  rw [Try.params5] at hA hval
  obtain ⟨v0, vs0, d0, ds0, p0, q0, hargs, rfl, rfl, h0, r0⟩ := trodAll_cons hA
  obtain ⟨v1, vs1, d1, ds1, p1, q1, rfl, rfl, rfl, h1, r1⟩ := trodAll_cons r0
  obtain ⟨v2, vs2, d2, ds2, p2, q2, rfl, rfl, rfl, h2, r2⟩ := trodAll_cons r1
  obtain ⟨v3, vs3, d3, ds3, p3, q3, rfl, rfl, rfl, h3, r3⟩ := trodAll_cons r2
  obtain ⟨v4, vs4, d4, ds4, p4, q4, rfl, rfl, rfl, h4, r4⟩ := trodAll_cons r3
  obtain ⟨v5, vs5, d5, ds5, p5, q5, rfl, rfl, rfl, h5, r5⟩ := trodAll_cons r4
  obtain ⟨rfl, rfl, rfl⟩ := trodAll_nil r5
  obtain rfl : args = #[v0, v1, v2, v3, v4, v5] := by cases args; simp_all
  obtain ⟨rfl, rfl⟩ := trodVars_none hV
  have c0 : v0.cells.toList = [v0] := by
    obtain ⟨a, b, c, rfl⟩ := okWide_slice Try.underlying31 (hval 0 31 v0 rfl rfl); rfl
  have c1 : v1.cells.toList = [v1] := by
    obtain ⟨a, b, c, rfl⟩ := okWide_slice Try.underlying23 (hval 1 23 v1 rfl rfl); rfl
  have c2 : v2.cells.toList = [v2] := by
    obtain ⟨a, b, c, rfl⟩ := okWide_slice Try.underlying23 (hval 2 23 v2 rfl rfl); rfl
  have c3 : v3.cells.toList = [v3] := by
    obtain ⟨a, rfl⟩ := okWide_int Try.underlying5 (hval 3 5 v3 rfl rfl); rfl
  have c4 : v4.cells.toList = [v4] := by
    obtain ⟨a, rfl⟩ := okWide_int Try.underlying5 (hval 4 5 v4 rfl rfl); rfl
  have c5 : v5.cells.toList = [v5] := by
    obtain ⟨a, rfl⟩ := okWide_int Try.underlying3 (hval 5 3 v5 rfl rfl); rfl
  have lt0 : ∀ x ∈ p0, x.block < W.heap.size := by obtain ⟨m, hm⟩ := h0; exact DataW.trod_lt m _ _ _ hm
  have lt1 : ∀ x ∈ p1, x.block < W.heap.size := by obtain ⟨m, hm⟩ := h1; exact DataW.trod_lt m _ _ _ hm
  have lt2 : ∀ x ∈ p2, x.block < W.heap.size := by obtain ⟨m, hm⟩ := h2; exact DataW.trod_lt m _ _ _ hm
  have lt3 : ∀ x ∈ p3, x.block < W.heap.size := by obtain ⟨m, hm⟩ := h3; exact DataW.trod_lt m _ _ _ hm
  have lt4 : ∀ x ∈ p4, x.block < W.heap.size := by obtain ⟨m, hm⟩ := h4; exact DataW.trod_lt m _ _ _ hm
  have lt5 : ∀ x ∈ p5, x.block < W.heap.size := by obtain ⟨m, hm⟩ := h5; exact DataW.trod_lt m _ _ _ hm
  clear hA0 hval0
  refine (walk enc W v0 d0 p0 h0 c0 v1 d1 p1 h1 c1 v2 d2 p2 h2 c2 v3 d3 p3 h3 c3 v4 d4 p4 h4 c4 v5 d5 p5 h5 c5).mono fun e W' ⟨he, bel⟩ => ?_
  subst he
  exact ⟨_, rfl, _, _, _, [], _, [], hW', trodAll_mk1 (shut_bool Try.underlying4 _), (trodAll_cons_mk (Below.trod qMs (by kernel_rfl) (of_decide_eq_true (by kernel_rfl)) h0 bel lt0) (trodAll_cons_mk (Below.trod qMs (by kernel_rfl) (of_decide_eq_true (by kernel_rfl)) h1 bel lt1) (trodAll_cons_mk (Below.trod qMs (by kernel_rfl) (of_decide_eq_true (by kernel_rfl)) h2 bel lt2) (trodAll_cons_mk (Below.trod qMs (by kernel_rfl) (of_decide_eq_true (by kernel_rfl)) h3 bel lt3) (trodAll_cons_mk (Below.trod qMs (by kernel_rfl) (of_decide_eq_true (by kernel_rfl)) h4 bel lt4) (trodAll_cons_mk (Below.trod qMs (by kernel_rfl) (of_decide_eq_true (by kernel_rfl)) h5 bel lt5) trodAll_mk0)))))), rfl, bel.frame _, fun h => by cases h⟩

theorem over : Rows.liveRunsRow.holds Try.pinned (OpenSpec.ofChange Rows.liveRunsSpec) :=
  OpenClaim.holds_of_wide 5 Try.f5 rfl rfl rfl rfl rfl rfl rfl ⟨rfl, rfl, rfl, rfl, rfl⟩ rfl rfl rfl rfl rfl (by kernel_rfl) Try.func5 (by kernel_rfl)
    (of_decide_eq_true (by kernel_rfl)) (by unfold Func.isWrapper; first | (rw [if_pos (by decide +kernel)]; kernel_rfl) | (rw [if_neg (by decide +kernel)]; exact ⟨rfl, rfl⟩))
    (fun os started H enc _ => lifted os started H enc)

theorem proved : Rows.LiveRunsSaid :=
  over
#print axioms proved
end Go.Proofs.Ytmdnkninbkcmkaa.liveRuns
