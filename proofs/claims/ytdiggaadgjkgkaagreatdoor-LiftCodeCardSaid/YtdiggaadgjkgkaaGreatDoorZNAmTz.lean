/- The abstract machine: the lowest number of a set, by the library's table.
   No condition: plain lemmas. -/
import Derived.WalkKit
import Derived.Laws.Bits64b
import Derived.Lib.TrailingZeros
import Derived.Test.YtdiggaadgjkgkaaGreatDoorProg
import Derived.Test.YtdiggaadgjkgkaaGreatDoorZNAmWalk
namespace Go.Proofs.YtdiggaadgjkgkaaGreatDoor
set_option linter.unusedSimpArgs false
set_option linter.unusedVariables false
open Go.RowKit

set_option maxHeartbeats 1000000 in
theorem tz_core (x k idx:Nat) (w:World) (hx0:((x:Int) == 0)=false)
    (key:IntKind.u64.wrap (bits BinOp.and IntKind.u64 (x:Int) (IntKind.u64.wrap (-(x:Int))) * 285870213051353865) / 288230376151711744=(idx:Int))
    (hi:idx < 64) (hk:k < 64) (hcell:w.cell? ⟨0,idx,none⟩=some (.int .u8 k)) :
    Calls Tryz.prog 115 #[.int .u64 x] w fun e w'=>e=.returned (.int .i64 k)∧w'=w:=by
  go_enter Tryz.func115,Tryz.ntmps115
  go_wp2_with (simp only [key])
  go_ret
  exact ⟨rfl,rfl⟩
theorem tz_zero (w:World):Calls Tryz.prog 115 #[.int .u64 0] w fun e w'=>e=.returned (.int .i64 64)∧w'=w:=by
  go_enter Tryz.func115,Tryz.ntmps115
  go_wp2
  go_ret
  exact ⟨rfl,rfl⟩
end Go.Proofs.YtdiggaadgjkgkaaGreatDoor
namespace Am
open Go
open Go.Proofs.Tryz (prog)
theorem gtab_at {w:World} (h:GlobW w) {j:Nat} (hj:j < 64):w.cell? ⟨0,j,none⟩=some (.int .u8 (Go.Lib.deBruijn64tab.getD j 0)):=by
  obtain ⟨cs,T,fz,h1,h2⟩:=h _ _ rfl;have e:∀ j,j < 64→tab64[j]?=some ((Go.Lib.deBruijn64tab.getD j 0:Nat):Int):=by decide +kernel
  have h3:cs.toList[j]?=some (Value.int .u8 (Go.Lib.deBruijn64tab.getD j 0:Nat)):=by
    rw [h2,List.getElem?_map,e j hj]; rfl
  simp only [World.cell?,h1];rw [← Array.getElem?_toList];exact h3
theorem tz_call {x:Nat} (hx:x < 18446744073709551616) {H:Heap} {K:Value→Heap→Prop} (hk:K (.int .i64 (Go.Lib.ctz 64 x)) H):qCq prog 115 [.int .u64 x] H K:=by
  intro m w cargs hA hv;have hc:cargs=#[.int .u64 x]:=by
    apply Array.ext';cases hl:cargs.toList with
    | nil=>rw [hl] at hv; cases hv
    | cons c cs =>
      rw [hl] at hv;cases hv with
      | cons h1 h2=>cases h1; cases h2; rfl
  subst hc;have fin:Calls prog 115 #[.int .u64 x] w fun e w'=>e=.returned (.int .i64 (Go.Lib.ctz 64 x))∧w'=w:=by
    by_cases hx0:x=0
    . subst hx0
      exact Go.Proofs.YtdiggaadgjkgkaaGreatDoor.tz_zero w
    . obtain ⟨hlow,hk⟩:=Go.Lib.lowest_bit 64 x hx0 hx
      obtain ⟨hi,htab⟩:=Go.Lib.deBruijn64_at _ hk;have hcell:=gtab_at hA.glob.tab hi;rw [htab] at hcell;refine Go.Proofs.YtdiggaadgjkgkaaGreatDoor.tz_core x _ _ w (by simp; omega) ?_ hi hk hcell
      have e1:IntKind.u64.wrap (-(x:Int))=((18446744073709551616 - x:Nat):Int):=by rw [IntKind.wrap_u64]; omega
      rw [e1,bits_and_u64_nat x _ hx (by omega)]
      obtain ⟨a,ha⟩:∃ a,a=2 ^ Go.Lib.ctz 64 x:=⟨_,rfl⟩;have hlow':x &&& (18446744073709551616 - x)=a:=by rw [ha]; exact hlow
      rw [hlow',IntKind.wrap_u64,← ha];omega
  refine fin.mono ?_;rintro e w' ⟨rfl,rfl⟩;exact ⟨_,_,H,m,rfl,hk,.int _ _,hA,.refl _ _ _⟩
end Am
