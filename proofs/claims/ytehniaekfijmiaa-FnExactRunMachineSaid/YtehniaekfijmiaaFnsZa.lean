/- UnwindStep, Unwind in both texts. -/
import Derived.Test.YtehniaekfijmiaaFnsZ
import Derived.Test.YtehniaekfijmiaaFnsJ
namespace Go.Proofs.Ytehniaekfijmiaa
open Go.Sim
set_option maxRecDepth 100000
set_option maxHeartbeats 4000000
def locS (s : TSpace) (a : Int) : Int × Int := match s.fImages, s.fBases with
  | [i0, i1], [b0, b1] => loc2 i0 i1 b0 b1 a
  | _, _ => (-1, -1)
theorem loc2_cases (i0 i1 : TImage) (b0 b1 a : Int) : loc2 i0 i1 b0 b1 a = (-1, -1) ∨ ∃ (i : Nat) (off : Int), i < 2 ∧ loc2 i0 i1 b0 b1 a = ((i : Int), off) := by
  unfold loc2
  split
  · exact .inr ⟨0, _, by omega, rfl⟩
  · split
    · exact .inr ⟨1, _, by omega, rfl⟩
    · exact .inl rfl
end Go.Proofs.Ytehniaekfijmiaa
