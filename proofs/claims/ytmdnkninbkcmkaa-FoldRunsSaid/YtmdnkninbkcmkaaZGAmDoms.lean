/- Graphs: what each can not be come to without: the walk.
   No condition: plain lemmas. -/
import Derived.Test.YtmdnkninbkcmkaaZGAmDomsP
import Derived.Test.YtmdnkninbkcmkaaZGAmBits
import Derived.Test.YtmdnkninbkcmkaaZGAmPreds
import Derived.Test.YtmdnkninbkcmkaaZGAmRun
import Derived.Test.YtmdnkninbkcmkaaZGAmCfgC
namespace Am
set_option linter.unusedSimpArgs false
set_option linter.unusedVariables false
open Go
open Go.Proofs.Try (prog)

theorem sum_le : ∀ (l : List Nat) (M : Nat),(∀ x ∈ l,x ≤ M) → l.sum ≤ l.length * M
  | [],M,_ => by simp
  | a :: l,M,h => by
    have h1 := h a (by simp)
    have h2 := sum_le l M fun x hx => h x (by simp [hx])
    simp only [List.sum_cons,List.length_cons,Nat.succ_mul]
    omega

theorem L1.one {H : Heap} {id ver : Nat} {x : Int} {rw : Bool} (h : H[id]? = some (.row ⟨[.int .i64 x],1,ver,rw⟩)) : L1 vI Any H (.slice (some ⟨id,0,none⟩) 1 ver) [x] := L1.ofRow (l := [x]) h trivial

theorem DI.sum {s : List (List Int)} {out : List Nat} (h : DI s out) (hn : s.length ≤ 64) : out.sum < 65 * 18446744073709551616 := by
  have := sum_le out 18446744073709551616 fun x hx => Nat.le_of_lt (h.lt x hx)
  have : out.length * 18446744073709551616 ≤ 64 * 18446744073709551616 := Nat.mul_le_mul_right _ (by rw [h.len]; exact hn)
  omega

end Am
