/- The law 'FnExactUnpackInts' answers true at every input and leaves its arguments as they were. Conditions: none beyond the given statement. -/
import Derived.Test.YtnadkeiidbgmjaaBase
import Derived.Test.YtnadkeiidbgmjaaLwA
namespace Go.Proofs.Ytnadkeiidbgmjaa
open Go.Sim Go.ChangeShapes Go.WideShapes Go.ChangeAt Go.RowKit
set_option maxRecDepth 100000
theorem fnExactUnpackInts_lifted (os : Os) (started : os.Started) (H : Type) (enc : TypeId × Value → H) :
    ReturnsInHanded {} Try.checked os 3 .any (Rows.fnExactUnpackIntsSpec.pre6 enc Try.prog Try.f3 Rows.fnExactUnpackIntsRow.domain false) (Rows.fnExactUnpackIntsSpec.post enc Try.prog Try.f3 false true false false) := by
  refine returnsInHanded_of_change (C := Try.checked) own started (by kernel_rfl) Try.func3
    (ChangeSpec.witness6 (enc := enc) (C := Try.checked) false ⟨#[], #[.string ⟨#[]⟩, .int .i64 0], []⟩ 8 (by kernel_rfl) (by kernel_rfl) (by kernel_rfl) (by kernel_rfl)) ?_
  intro W base args ds gs before hval hW _ _
  have hW0 := hW
  obtain ⟨p, q, hA, _, _, _, _⟩ := hW0
  have hlen := trodAll_len hA
  obtain ⟨xs, hx, hty⟩ := args_typed (n := 8) hΓ (by kernel_rfl) (fun j t v h1 h2 => hval j t v (by simpa using h1) (by simpa using h2)) hA
  rw [Try.params3] at hty hlen
  obtain ⟨_, xs0, rfl, hx0, hty0⟩ := typedVs_cons hty
  obtain ⟨_, rfl, s, ⟨⟩, hs⟩ := hx0
  obtain ⟨_, xs1, rfl, hx1, hty1⟩ := typedVs_cons hty0
  obtain ⟨_, rfl, n, ⟨⟩, hw⟩ := hx1
  obtain rfl := typedVs_nil hty1
  obtain ⟨d0, d1, rfl⟩ := len2 hlen
  exact law_calls laidOut rfl Try.underlying4 rfl (by kernel_rfl) rfl hx (s_laws_FnExactUnpackInts s n (i64_le hw)) hW

theorem fnExactUnpackInts_holds : Rows.FnExactUnpackIntsSaid :=
  OpenClaim.holds_of_wide 3 Try.f3 rfl rfl rfl rfl rfl rfl rfl ⟨rfl, rfl, rfl, rfl, rfl⟩ rfl rfl rfl rfl rfl (by kernel_rfl) Try.func3 (by kernel_rfl)
    (of_decide_eq_true (by kernel_rfl)) (by unfold Func.isWrapper; first | (rw [if_pos (by decide +kernel)]; kernel_rfl) | (rw [if_neg (by decide +kernel)]; exact ⟨rfl, rfl⟩))
    (fun os started H enc _ => fnExactUnpackInts_lifted os started H enc)
end Go.Proofs.Ytnadkeiidbgmjaa
