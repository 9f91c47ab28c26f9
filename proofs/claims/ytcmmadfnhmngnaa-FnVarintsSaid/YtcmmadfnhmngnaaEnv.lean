/- The table of this program's types, as the evaluator asks for it; checked by the kernel against the program. Conditions: none. -/
import Derived.Test.YtcmmadfnhmngnaaRows
import Derived.Test.YtcmmadfnhmngnaaSimN
namespace Go.Proofs.Ytcmmadfnhmngnaa
open Go.Sim
def Γ : Env := [
  (2, { size := 1, bytes := 8, agg := false, zero := [AC.t (Tr.int Go.IntKind.i64 (Int.ofNat 0))], kind := some Go.IntKind.i64 }),
  (3, { size := 1, bytes := 8, agg := false, zero := [AC.t (Tr.int Go.IntKind.i64 (Int.ofNat 0))], kind := some Go.IntKind.i64 }),
  (4, { size := 1, bytes := 1, agg := false, zero := [AC.t (Tr.bool false)], bool := true }),
  (5, { size := 1, bytes := 1, agg := false, zero := [AC.t (Tr.int Go.IntKind.u8 (Int.ofNat 0))], kind := some Go.IntKind.u8 }),
  (6, { size := 1, bytes := 1, agg := false, zero := [AC.t (Tr.int Go.IntKind.u8 (Int.ofNat 0))], kind := some Go.IntKind.u8 }),
  (7, { size := 4, bytes := 24, agg := true, zero := [AC.t (Tr.int Go.IntKind.i64 (Int.ofNat 0)), AC.t (Tr.int Go.IntKind.i64 (Int.ofNat 0)), AC.t (Tr.bool false), AC.t (Tr.int Go.IntKind.u8 (Int.ofNat 0))], fields := [(0, 1, 2), (1, 1, 3), (2, 1, 4), (3, 1, 6)] }),
  (8, { size := 4, bytes := 24, agg := true, zero := [AC.t (Tr.int Go.IntKind.i64 (Int.ofNat 0)), AC.t (Tr.int Go.IntKind.i64 (Int.ofNat 0)), AC.t (Tr.bool false), AC.t (Tr.int Go.IntKind.u8 (Int.ofNat 0))], fields := [(0, 1, 2), (1, 1, 3), (2, 1, 4), (3, 1, 6)] }),
  (9, { size := 1, bytes := 16, agg := false, zero := [AC.t (Tr.str [])], str := true }),
  (10, { size := 1, bytes := 16, agg := false, zero := [AC.t (Tr.str [])], str := true }),
  (11, { size := 1, bytes := 16, agg := false, zero := [AC.t (Tr.str [])], str := true }),
  (12, { size := 1, bytes := 8, agg := false, zero := [AC.t (Tr.int Go.IntKind.u64 (Int.ofNat 0))], kind := some Go.IntKind.u64 }),
  (13, { size := 2, bytes := 24, agg := true, zero := [AC.t (Tr.str []), AC.t (Tr.int Go.IntKind.u64 (Int.ofNat 0))], fields := [(0, 1, 9), (1, 1, 12)] }),
  (14, { size := 2, bytes := 24, agg := true, zero := [AC.t (Tr.str []), AC.t (Tr.int Go.IntKind.u64 (Int.ofNat 0))], fields := [(0, 1, 9), (1, 1, 12)] }),
  (15, { size := 1, bytes := 8, agg := false, zero := [AC.nilp] }),
  (16, { size := 1, bytes := 8, agg := false, zero := [AC.nilp] }),
  (17, { size := 1, bytes := 8, agg := false, zero := [AC.nilp] }),
  (18, { size := 1, bytes := 8, agg := true, zero := [AC.nilp], fields := [(0, 1, 17)] }),
  (19, { size := 1, bytes := 8, agg := true, zero := [AC.nilp], fields := [(0, 1, 17)] }),
  (21, { size := 1, bytes := 4, agg := false, zero := [AC.t (Tr.int Go.IntKind.i32 (Int.ofNat 0))], kind := some Go.IntKind.i32 }),
  (32, { size := 1, bytes := 24, agg := false, zero := [AC.nils 0], elem := some 3 }),
  (37, { size := 1, bytes := 24, agg := false, zero := [AC.nils 0], elem := some 61 }),
  (38, { size := 2, bytes := 40, agg := true, zero := [AC.t (Tr.str []), AC.nils 0], fields := [(0, 1, 9), (1, 1, 37)] }),
  (39, { size := 2, bytes := 40, agg := true, zero := [AC.t (Tr.str []), AC.nils 0], fields := [(0, 1, 9), (1, 1, 37)] }),
  (42, { size := 1, bytes := 24, agg := false, zero := [AC.nils 0], elem := some 62 }),
  (43, { size := 2, bytes := 40, agg := true, zero := [AC.t (Tr.str []), AC.nils 0], fields := [(0, 1, 9), (1, 1, 42)] }),
  (44, { size := 2, bytes := 40, agg := true, zero := [AC.t (Tr.str []), AC.nils 0], fields := [(0, 1, 9), (1, 1, 42)] }),
  (48, { size := 1, bytes := 24, agg := false, zero := [AC.nils 0], elem := some 5 }),
  (55, { size := 1, bytes := 8, agg := false, zero := [AC.t (Tr.int Go.IntKind.u64 (Int.ofNat 0))], kind := some Go.IntKind.u64 }),
  (60, { size := 3, bytes := 32, agg := true, zero := [AC.t (Tr.str []), AC.t (Tr.int Go.IntKind.i64 (Int.ofNat 0)), AC.t (Tr.int Go.IntKind.i64 (Int.ofNat 0))], fields := [(0, 1, 9), (1, 1, 3), (2, 1, 3)] }),
  (61, { size := 3, bytes := 32, agg := true, zero := [AC.t (Tr.str []), AC.t (Tr.int Go.IntKind.i64 (Int.ofNat 0)), AC.t (Tr.int Go.IntKind.i64 (Int.ofNat 0))], fields := [(0, 1, 9), (1, 1, 3), (2, 1, 3)] }),
  (62, { size := 3, bytes := 32, agg := true, zero := [AC.t (Tr.str []), AC.t (Tr.int Go.IntKind.i64 (Int.ofNat 0)), AC.t (Tr.int Go.IntKind.i64 (Int.ofNat 0))], fields := [(0, 1, 9), (1, 1, 3), (2, 1, 3)] }),
  (66, { size := 4, bytes := 40, agg := true, zero := [AC.nilp, AC.nilp, AC.nilp, AC.t (Tr.str [])], fields := [(0, 1, 17), (1, 1, 17), (2, 1, 17), (3, 1, 9)] }),
  (67, { size := 4, bytes := 40, agg := true, zero := [AC.nilp, AC.nilp, AC.nilp, AC.t (Tr.str [])], fields := [(0, 1, 17), (1, 1, 17), (2, 1, 17), (3, 1, 9)] }),
  (72, { size := 1, bytes := 4, agg := false, zero := [AC.t (Tr.int Go.IntKind.u32 (Int.ofNat 0))], kind := some Go.IntKind.u32 }),
  (73, { size := 1, bytes := 1, agg := false, zero := [AC.t (Tr.int Go.IntKind.u8 (Int.ofNat 0))], kind := some Go.IntKind.u8 }),
  (74, { size := 1, bytes := 1, agg := false, zero := [AC.t (Tr.int Go.IntKind.u8 (Int.ofNat 0))], kind := some Go.IntKind.u8 }),
  (76, { size := 1, bytes := 8, agg := false, zero := [AC.nilp] }),
  (77, { size := 1, bytes := 4, agg := false, zero := [AC.t (Tr.int Go.IntKind.i32 (Int.ofNat 0))], kind := some Go.IntKind.i32 }),
  (78, { size := 1, bytes := 4, agg := false, zero := [AC.t (Tr.int Go.IntKind.i32 (Int.ofNat 0))], kind := some Go.IntKind.i32 }),
  (81, { size := 1, bytes := 8, agg := false, zero := [AC.nilp] })]
theorem hΓ : Γ.chk Try.prog = true := by kernel_rfl
theorem hmix : Try.prog.follows .mixedOrders = true := by kernel_rfl
end Go.Proofs.Ytcmmadfnhmngnaa
