/- 'interlocklaw20.LiftCode' returns true for every input and leaves its arguments as they were: Of any code, what has loads qGm of loops is what the chapter says
   Conditions: those of the given statement alone. -/
import Derived.WalkKit
import Derived.ProofKit
import Derived.OpenShut
import Derived.Deep.DeepHandedRow
import Derived.Lib.LaidTab
import Derived.Below
import Derived.Test.YtdiggaadgjkgkaaGreatDoorRows
import Derived.Test.YtdiggaadgjkgkaaGreatDoorTie
import Derived.Test.YtdiggaadgjkgkaaGreatDoorCards
import Derived.Test.YtdiggaadgjkgkaaGreatDoorZNPmLaw
import Derived.Test.YtdiggaadgjkgkaaGreatDoorZNPmLr7
namespace Go.Proofs.YtdiggaadgjkgkaaGreatDoor.liftCode
open Go.ChangeShapes Go.WideShapes Go.ChangeAt Go.RowKit
set_option linter.unusedVariables false
set_option linter.unusedSimpArgs false

theorem own : ownKnob Tryz.prog.godebug = none := by kernel_rfl
theorem qMz : laidOutB Tryz.prog = true := by kernel_rfl

theorem gTab : Tryz.prog.globalNamed "math/bits.deBruijn64tab" = some 0 := by kernel_rfl
theorem gTabType : (Tryz.prog.globals[0]?).map (·.type) = some 167 := by kernel_rfl
theorem cellsT : Tryz.prog.cellsOf 167 = 64 := by kernel_rfl
theorem cellsU : Tryz.prog.cellsOf 5 = 1 := by kernel_rfl
theorem glob_of_laid {W : World} (h : laidMetH Tryz.prog Rows.liftCodeRow.laid W) : Am.GlobW W := by
  have ht : Lib.TabIs Tryz.prog W "math/bits.deBruijn64tab" .u8 Am.tab64 := Lib.tabIs_of_head (rest := []) gTab gTabType Tryz.underlying167 Tryz.underlying5 cellsU cellsT h
  intro g vs e
  obtain ⟨rfl, rfl⟩ : 0 = g ∧ (Am.tab64.map fun n : Int => Value.int .u8 n) = vs := by simpa [Am.gtab] using e
  unfold Lib.TabIs World.var? at ht
  rw [gTab] at ht
  simp only [Option.bind_some] at ht
  split at ht
  · rename_i cs T fz hc
    exact ⟨cs, T, fz, hc, by rw [Option.some.inj ht]⟩
  · cases ht

noncomputable def qMy (os : Os) : World :=
  { World.holding Tryz.prog os ⟨#[], #[], []⟩ with heap := (World.holding Tryz.prog os ⟨#[], #[], []⟩).heap.modify 0 fun
      | .cells _ t frozen => .cells (Am.tab64.map fun n : Int => Value.int .u8 n).toArray t frozen
      | o => o }
theorem laid_met (os : Os) : laidMet Tryz.prog Rows.liftCodeRow.laid ((qMy os).forCall (fun _ _ => 0) ⟨#[], #[.slice none 0 0, .slice none 0 0, .int .u8 0, .slice none 0 0, .int .u8 0], []⟩).memory :=
  laidMet_of_run' 8 (by kernel_rfl) (by kernel_rfl)
theorem reads (os : Os) {H : Type} (enc : TypeId × Value → H) : ∃ places, DataW.whole enc Tryz.prog ((qMy os).forCall (fun _ _ => 0) ⟨#[], #[.slice none 0 0, .slice none 0 0, .int .u8 0, .slice none 0 0, .int .u8 0], []⟩).memory Tryz.f3.params.toList Rows.liftCodeSpec.vars false (#[.slice none 0 0, .slice none 0 0, .int .u8 0, .slice none 0 0, .int .u8 0] : Array Value).toList 8 = some ([.nil, .nil, .lit (.int .u8 0), .nil, .lit (.int .u8 0)], [], places) :=
  ⟨[], by kernel_rfl⟩

theorem walk {D : Type} (enc : TypeId × Value → D) (W : World) (hgl : Am.GlobW W) (v0 : Value) (d0 : DataW D) (p0 : List MemPlace) (h0 : DataW.Trod enc Tryz.prog W 0 (fun _ => true) true 22 v0 d0 p0) (c0 : v0.cells.toList = [v0]) (v1 : Value) (d1 : DataW D) (p1 : List MemPlace) (h1 : DataW.Trod enc Tryz.prog W 0 (fun _ => true) true 23 v1 d1 p1) (c1 : v1.cells.toList = [v1]) (v2 : Value) (d2 : DataW D) (p2 : List MemPlace) (h2 : DataW.Trod enc Tryz.prog W 0 (fun _ => true) true 5 v2 d2 p2) (c2 : v2.cells.toList = [v2]) (v3 : Value) (d3 : DataW D) (p3 : List MemPlace) (h3 : DataW.Trod enc Tryz.prog W 0 (fun _ => true) true 24 v3 d3 p3) (c3 : v3.cells.toList = [v3]) (v4 : Value) (d4 : DataW D) (p4 : List MemPlace) (h4 : DataW.Trod enc Tryz.prog W 0 (fun _ => true) true 5 v4 d4 p4) (c4 : v4.cells.toList = [v4]) :
    Calls Tryz.prog 3 #[v0, v1, v2, v3, v4] W fun e w' => e = .returned (.bool true) ∧ Below W.heap.size W w' := by
  obtain ⟨f0, h0⟩ := h0
  rw [c0] at h0
  have s0 := Pm.comes_of 9 (s := (.sl (.int .u8 (.int .i64 (.int .i64 (.int .i64 .nil)))) .nil)) (by kernel_rfl) h0
  obtain ⟨f1, h1⟩ := h1
  rw [c1] at h1
  have s1 := Pm.comes_of 9 (s := (.sl (.sl (.int .u8 .nil) .nil) .nil)) (by kernel_rfl) h1
  obtain ⟨f2, h2⟩ := h2
  rw [c2] at h2
  have s2 := Pm.comes_of 9 (s := (.int .u8 .nil)) (by kernel_rfl) h2
  obtain ⟨f3, h3⟩ := h3
  rw [c3] at h3
  have s3 := Pm.comes_of 9 (s := (.sl (.int .u8 .nil) .nil)) (by kernel_rfl) h3
  obtain ⟨f4, h4⟩ := h4
  rw [c4] at h4
  have s4 := Pm.comes_of 9 (s := (.int .u8 .nil)) (by kernel_rfl) h4
  obtain ⟨m, ext, acs, pcs, hc, _, hi, hf⟩ := (s0.app (s1.app (s2.app (s3.app s4)))) _ _ (Am.Came.start hgl)
  obtain ⟨q0, r0, e0, g0, hf⟩ := Pm.fits_app hf
  obtain ⟨y0, rfl, b0⟩ := Pm.dec_code _ g0
  obtain ⟨q1, r1, e1, g1, hf⟩ := Pm.fits_app hf
  obtain ⟨y1, rfl, b1⟩ := Pm.dec_bytess _ g1
  obtain ⟨q2, r2, e2, g2, hf⟩ := Pm.fits_app hf
  obtain ⟨y2, rfl, b2⟩ := Pm.dec_u8 _ g2
  obtain ⟨q3, r3, e3, g3, hf⟩ := Pm.fits_app hf
  obtain ⟨y3, rfl, b3⟩ := Pm.dec_bytes _ g3
  obtain ⟨y4, e4, b4⟩ := Pm.dec_u8 _ hf
  subst e4 e3 e2 e1 e0
  exact Pm.law_of (Pm.LiftCode_spec y0 y1 y2 y3 y4 b0 b1 b2 b3 b4) hc hi

set_option maxRecDepth 100000 in
theorem lifted (os : Os) (started : os.Started) (H : Type) (enc : TypeId × Value → H) (F : Stop.Interp) :
    ReturnsInHanded {} Tryz.checked os 3 .any ((OpenSpec.ofChange Rows.liftCodeSpec).preRow enc Tryz.prog Tryz.f3 Rows.liftCodeRow.domain false Rows.liftCodeRow.laid) (((OpenSpec.ofChange Rows.liftCodeSpec).at F).post enc Tryz.prog Tryz.f3 false true false false) := by
  obtain ⟨places, hx⟩ := reads os enc
  refine returnsInHanded_of_row (C := Tryz.checked) (s := OpenSpec.ofChange Rows.liftCodeSpec) own started (by kernel_rfl) Tryz.func3
    (witness_row_at (enc := enc) (C := Tryz.checked) false (qMy os) #[.slice none 0 0, .slice none 0 0, .int .u8 0, .slice none 0 0, .int .u8 0] rfl (by kernel_rfl) (by kernel_rfl) (by kernel_rfl)
      (OpenSpec.preRow_of_cond 8 hx (by kernel_rfl) (fun k hk => by cases hk) (by kernel_rfl) (laid_met os))) ?_
  intro W base args ds gs before hval0 hW _ _ _ hL _ _
  have hval : ∀ (j : Nat) t v, Tryz.f3.params[j]? = some t → args[j]? = some v → Value.okWide Tryz.prog W .any base t v := hval0
  have hW' := hW
  obtain ⟨p, q, hA0, hV, rfl, hfz, hnd⟩ := hW
  have hA : DataW.TrodAll enc Tryz.prog W 0 (fun _ => true) true Tryz.f3.params.toList args.toList ds p := hA0
  rw [Tryz.params3] at hA hval
  obtain ⟨v0, vs0, d0, ds0, p0, q0, hargs, rfl, rfl, h0, r0⟩ := trodAll_cons hA
  obtain ⟨v1, vs1, d1, ds1, p1, q1, rfl, rfl, rfl, h1, r1⟩ := trodAll_cons r0
  obtain ⟨v2, vs2, d2, ds2, p2, q2, rfl, rfl, rfl, h2, r2⟩ := trodAll_cons r1
  obtain ⟨v3, vs3, d3, ds3, p3, q3, rfl, rfl, rfl, h3, r3⟩ := trodAll_cons r2
  obtain ⟨v4, vs4, d4, ds4, p4, q4, rfl, rfl, rfl, h4, r4⟩ := trodAll_cons r3
  obtain ⟨rfl, rfl, rfl⟩ := trodAll_nil r4
  obtain rfl : args = #[v0, v1, v2, v3, v4] := by cases args; simp_all
  obtain ⟨rfl, rfl⟩ := trodVars_none hV
  have c0 : v0.cells.toList = [v0] := by
    obtain ⟨a, b, c, rfl⟩ := okWide_slice Tryz.underlying22 (hval 0 22 v0 rfl rfl); rfl
  have c1 : v1.cells.toList = [v1] := by
    obtain ⟨a, b, c, rfl⟩ := okWide_slice Tryz.underlying23 (hval 1 23 v1 rfl rfl); rfl
  have c2 : v2.cells.toList = [v2] := by
    obtain ⟨a, rfl⟩ := okWide_int Tryz.underlying5 (hval 2 5 v2 rfl rfl); rfl
  have c3 : v3.cells.toList = [v3] := by
    obtain ⟨a, b, c, rfl⟩ := okWide_slice Tryz.underlying24 (hval 3 24 v3 rfl rfl); rfl
  have c4 : v4.cells.toList = [v4] := by
    obtain ⟨a, rfl⟩ := okWide_int Tryz.underlying5 (hval 4 5 v4 rfl rfl); rfl
  have lt0 : ∀ x ∈ p0, x.block < W.heap.size := by obtain ⟨m, hm⟩ := h0; exact DataW.trod_lt m _ _ _ hm
  have lt1 : ∀ x ∈ p1, x.block < W.heap.size := by obtain ⟨m, hm⟩ := h1; exact DataW.trod_lt m _ _ _ hm
  have lt2 : ∀ x ∈ p2, x.block < W.heap.size := by obtain ⟨m, hm⟩ := h2; exact DataW.trod_lt m _ _ _ hm
  have lt3 : ∀ x ∈ p3, x.block < W.heap.size := by obtain ⟨m, hm⟩ := h3; exact DataW.trod_lt m _ _ _ hm
  have lt4 : ∀ x ∈ p4, x.block < W.heap.size := by obtain ⟨m, hm⟩ := h4; exact DataW.trod_lt m _ _ _ hm
  clear hA0 hval0
  refine (walk enc W (glob_of_laid hL) v0 d0 p0 h0 c0 v1 d1 p1 h1 c1 v2 d2 p2 h2 c2 v3 d3 p3 h3 c3 v4 d4 p4 h4 c4).mono fun e W' ⟨he, bel⟩ => ?_
  subst he
  exact ⟨_, rfl, _, _, _, [], _, [], hW', trodAll_mk1 (shut_bool Tryz.underlying4 _), (trodAll_cons_mk (Below.trod qMz (by kernel_rfl) (of_decide_eq_true (by kernel_rfl)) h0 bel lt0) (trodAll_cons_mk (Below.trod qMz (by kernel_rfl) (of_decide_eq_true (by kernel_rfl)) h1 bel lt1) (trodAll_cons_mk (Below.trod qMz (by kernel_rfl) (of_decide_eq_true (by kernel_rfl)) h2 bel lt2) (trodAll_cons_mk (Below.trod qMz (by kernel_rfl) (of_decide_eq_true (by kernel_rfl)) h3 bel lt3) (trodAll_cons_mk (Below.trod qMz (by kernel_rfl) (of_decide_eq_true (by kernel_rfl)) h4 bel lt4) trodAll_mk0))))), rfl, bel.frame _, fun h => by cases h⟩

theorem over : Rows.LiftCodeSaid :=
  OpenClaim.holds_of_cond 3 Tryz.f3 rfl rfl rfl rfl rfl rfl rfl ⟨rfl, rfl, rfl, rfl, rfl⟩ rfl rfl rfl rfl rfl (by kernel_rfl) Tryz.func3 (by kernel_rfl)
    (of_decide_eq_true (by kernel_rfl)) (by unfold Func.isWrapper; first | (rw [if_pos (by decide +kernel)]; kernel_rfl) | (rw [if_neg (by decide +kernel)]; exact ⟨rfl, rfl⟩))
    (fun os started H enc _ F => by rw [OpenClaim.pre_eq_preRow]; exact lifted os started H enc F)

theorem plain (f : FuncId) (fn : Func) (hf : Tryz.pinned.checked.prog.funcNamed "interlock/interlocklaw20.LiftCode" = some f) (hfn : Tryz.pinned.checked.prog.funcs[f]? = some fn) :
    false = Tryz.pinned.checked.prog.looks [] ∧ ∀ (j : Nat) t, fn.params[j]? = some t → Tryz.pinned.checked.prog.wantsStandIn t = false := by
  obtain rfl : f = 3 := Option.some.inj ((show Tryz.prog.funcNamed "interlock/interlocklaw20.LiftCode" = some 3 by kernel_rfl).symm.trans hf) |>.symm
  obtain rfl : fn = Tryz.f3 := (Option.some.inj (Tryz.func3.symm.trans hfn)).symm
  have hall : Tryz.f3.params.toList.all (fun t => !Tryz.prog.wantsStandIn t) = true := by kernel_rfl
  refine ⟨by kernel_rfl, fun j t ht => ?_⟩
  have h1 := List.all_eq_true.1 hall t (Array.mem_toList_iff.2 (Array.mem_of_getElem? ht))
  cases h2 : Tryz.prog.wantsStandIn t with
  | true => rw [h2] at h1; cases h1
  | false => exact h2

theorem proved : Rows.LiftCodeCardSaid :=
  Claim7.holds_tied_plain_at .later [] _ _ _ _ over (fun _ h => by cases h) (by kernel_rfl) (fun _ h => by cases h) liftCode_row_tie rfl ⟨rfl, rfl⟩ (by kernel_rfl) rfl plain (by kernel_rfl)
#print axioms proved
end Go.Proofs.YtdiggaadgjkgkaaGreatDoor.liftCode
