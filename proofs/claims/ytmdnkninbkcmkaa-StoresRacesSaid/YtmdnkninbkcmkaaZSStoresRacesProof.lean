/- 'interlocklaw18.StoresRaces' returns true for every input and leaves its arguments as they were: what is left of a program without stores that none can read races by no script by which the program does not
   Conditions: those of the given statement alone. -/
import Derived.WalkKit
import Derived.ProofKit
import Derived.OpenShut
import Derived.Below
import Derived.Test.YtmdnkninbkcmkaaRows
import Derived.Test.YtmdnkninbkcmkaaZSPmLaw
import Derived.Test.YtmdnkninbkcmkaaZSPmRaceL1
namespace Go.Proofs.Ytmdnkninbkcmkaa.storesRaces
open Go.ChangeShapes Go.WideShapes Go.ChangeAt Go.RowKit
set_option linter.unusedVariables false
set_option linter.unusedSimpArgs false

theorem own : ownKnob Try.prog.godebug = none := by kernel_rfl
theorem laidOut : laidOutB Try.prog = true := by kernel_rfl

theorem walk {D : Type} (enc : TypeId × Value → D) (W : World) (v0 : Value) (d0 : DataW D) (p0 : List MemPlace) (h0 : DataW.Trod enc Try.prog W 0 (fun _ => true) true 31 v0 d0 p0) (c0 : v0.cells.toList = [v0]) (v1 : Value) (d1 : DataW D) (p1 : List MemPlace) (h1 : DataW.Trod enc Try.prog W 0 (fun _ => true) true 23 v1 d1 p1) (c1 : v1.cells.toList = [v1]) :
    Calls Try.prog 7 #[v0,v1] W fun e w' => e = .returned (.bool true) ∧ Below W.heap.size W w' := by
  obtain ⟨f0,h0⟩ := h0
  rw [c0] at h0
  have s0 := Pm.comes_of 9 (s := (.sl (.sl (.int .u8 .nil) .nil) .nil)) (by kernel_rfl) h0
  obtain ⟨f1,h1⟩ := h1
  rw [c1] at h1
  have s1 := Pm.comes_of 9 (s := (.sl (.int .u8 .nil) .nil)) (by kernel_rfl) h1
  obtain ⟨m,ext,acs,pcs,hc,_,hi,hf⟩ := (s0.app s1) _ _ (Am.Came.start (Am.GlobW.none W))
  obtain ⟨q0,r0,e0,g0,hf⟩ := Pm.fits_app hf
  obtain ⟨y0,rfl,b0⟩ := Pm.dec_bytess _ g0
  obtain ⟨y1,e1,b1⟩ := Pm.dec_bytes _ hf
  subst e1 e0
  exact Pm.law_of (Pm.StoresRaces_spec y0 y1 b0 b1) hc hi

set_option maxRecDepth 100000 in
theorem lifted (os : Os) (started : os.Started) (H : Type) (enc : TypeId × Value → H) :
    ReturnsInHanded {} Try.checked os 7 .any (Rows.storesRacesSpec.pre6 enc Try.prog Try.f7 Rows.storesRacesRow.domain false) (Rows.storesRacesSpec.post enc Try.prog Try.f7 false true false false) := by
  refine returnsInHanded_of_change (C := Try.checked) own started (by kernel_rfl) Try.func7
    (ChangeSpec.witness6 (enc := enc) (C := Try.checked) false ⟨#[],#[.slice none 0 0,.slice none 0 0],[]⟩ 8 (by kernel_rfl) (by kernel_rfl) (by kernel_rfl) (by kernel_rfl)) ?_
  intro W base args ds gs before hval0 hW hcnd _
  have hval : ∀ (j : Nat) t v,Try.f7.params[j]? = some t → args[j]? = some v → Value.okWide Try.prog W .any base t v := hval0
  have hW' := hW
  obtain ⟨p,q,hA0,hV,rfl,hfz,hnd⟩ := hW
  have hA : DataW.TrodAll enc Try.prog W 0 (fun _ => true) true Try.f7.params.toList args.toList ds p := hA0
  rw [Try.params7] at hA hval
  obtain ⟨v0,vs0,d0,ds0,p0,q0,hargs,rfl,rfl,h0,r0⟩ := trodAll_cons hA
  obtain ⟨v1,vs1,d1,ds1,p1,q1,rfl,rfl,rfl,h1,r1⟩ := trodAll_cons r0
  obtain ⟨rfl,rfl,rfl⟩ := trodAll_nil r1
  obtain rfl : args = #[v0,v1] := by cases args; simp_all
  obtain ⟨rfl,rfl⟩ := trodVars_none hV
  have c0 : v0.cells.toList = [v0] := by
    obtain ⟨a,b,c,rfl⟩ := okWide_slice Try.underlying31 (hval 0 31 v0 rfl rfl); rfl
  have c1 : v1.cells.toList = [v1] := by
    obtain ⟨a,b,c,rfl⟩ := okWide_slice Try.underlying23 (hval 1 23 v1 rfl rfl); rfl
  have lt0 : ∀ x ∈ p0,x.block < W.heap.size := by obtain ⟨m,hm⟩ := h0; exact DataW.trod_lt m _ _ _ hm
  have lt1 : ∀ x ∈ p1,x.block < W.heap.size := by obtain ⟨m,hm⟩ := h1; exact DataW.trod_lt m _ _ _ hm
  clear hA0 hval0
  refine (walk enc W v0 d0 p0 h0 c0 v1 d1 p1 h1 c1).mono fun e W' ⟨he,bel⟩ => ?_
  subst he
  exact ⟨_,rfl,_,_,_,[],_,[],hW',trodAll_mk1 (shut_bool Try.underlying4 _),(trodAll_cons_mk (Below.trod laidOut (by kernel_rfl) (of_decide_eq_true (by kernel_rfl)) h0 bel lt0) (trodAll_cons_mk (Below.trod laidOut (by kernel_rfl) (of_decide_eq_true (by kernel_rfl)) h1 bel lt1) trodAll_mk0)),rfl,bel.frame _,fun h => by cases h⟩

theorem over : Rows.storesRacesRow.holds Try.pinned (OpenSpec.ofChange Rows.storesRacesSpec) :=
  OpenClaim.holds_of_wide 7 Try.f7 rfl rfl rfl rfl rfl rfl rfl ⟨rfl,rfl,rfl,rfl,rfl⟩ rfl rfl rfl rfl rfl (by kernel_rfl) Try.func7 (by kernel_rfl)
    (of_decide_eq_true (by kernel_rfl)) (by unfold Func.isWrapper; first | (rw [if_pos (by decide +kernel)]; kernel_rfl) | (rw [if_neg (by decide +kernel)]; exact ⟨rfl,rfl⟩))
    (fun os started H enc _ => lifted os started H enc)

theorem proved : Rows.StoresRacesSaid :=
  over
#print axioms proved
end Go.Proofs.Ytmdnkninbkcmkaa.storesRaces
