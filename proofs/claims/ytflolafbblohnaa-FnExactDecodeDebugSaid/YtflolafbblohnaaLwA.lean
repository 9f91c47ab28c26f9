/- The laws over results that are marked: UnpackInts. -/
import Derived.Test.YtflolafbblohnaaMkB
import Derived.Test.YtflolafbblohnaaFnsG
namespace Go.Proofs.Ytflolafbblohnaa
open Go.Sim
set_option maxRecDepth 100000
set_option maxHeartbeats 4000000
theorem unpack_len {s : List UInt8} {p : Int} (hs : s.length ≤ 1048576) : (upL (unpackInts s p)).length ≤ 1048576 := by
  unfold unpackInts
  match hd : dec s p with
  | none => simp [upL]
  | some (a, b) =>
    have h1 := dec_some hd
    dsimp only
    match hu : unpackL s p.toNat a b with
    | none => simp [upL]
    | some y =>
      have h2 := unpackL_len hu
      simp only [upL]
      omega
end Go.Proofs.Ytflolafbblohnaa
