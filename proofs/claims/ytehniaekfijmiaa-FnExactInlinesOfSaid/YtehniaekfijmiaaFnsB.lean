/- The contracts of EncodeVarint in both texts. -/
import Derived.Test.YtehniaekfijmiaaFnsA
namespace Go.Proofs.Ytehniaekfijmiaa
open Go.Sim
set_option maxRecDepth 100000
def encN (n : Nat) : List UInt8 := if n ≤ 127 then [UInt8.ofNat n] else UInt8.ofNat (n % 128 + 128) :: encN (n / 128)
  termination_by n
  decreasing_by omega
def enc (n : Int) : List UInt8 := if within n 0 1099511627775 then encN n.toNat else []
end Go.Proofs.Ytehniaekfijmiaa
