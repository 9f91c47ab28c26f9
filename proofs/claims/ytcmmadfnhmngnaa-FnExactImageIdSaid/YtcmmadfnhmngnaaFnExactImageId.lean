/- The law 'FnExactImageId' answers true at every input and leaves its arguments as they were. Conditions: none beyond the given statement. -/
import Derived.Test.YtcmmadfnhmngnaaBase
import Derived.Test.YtcmmadfnhmngnaaFnsF
namespace Go.Proofs.Ytcmmadfnhmngnaa
open Go.Sim Go.ChangeShapes Go.WideShapes Go.ChangeAt Go.RowKit
set_option maxRecDepth 100000
theorem fnExactImageId_lifted (os : Os) (started : os.Started) (H : Type) (enc : TypeId × Value → H) :
    ReturnsInHanded {} Try.checked os 10 .any (Rows.fnExactImageIdSpec.pre6 enc Try.prog Try.f10 Rows.fnExactImageIdRow.domain false) (Rows.fnExactImageIdSpec.post enc Try.prog Try.f10 false true false false) := by
  refine returnsInHanded_of_change (C := Try.checked) own started (by kernel_rfl) Try.func10
    (ChangeSpec.witness6 (enc := enc) (C := Try.checked) false ⟨#[], #[.agg #[.string ⟨#[]⟩, .slice none 0 0]], []⟩ 8 (by kernel_rfl) (by kernel_rfl) (by kernel_rfl) (by kernel_rfl)) ?_
  intro W base args ds gs before hval hW _ _
  have hW0 := hW
  obtain ⟨p, q, hA, _, _, _, _⟩ := hW0
  have hlen := trodAll_len hA
  obtain ⟨xs, hx, hty⟩ := args_typed (n := 8) hΓ (by kernel_rfl) (fun j t v h1 h2 => hval j t v (by simpa using h1) (by simpa using h2)) hA
  rw [Try.params10] at hty hlen
  obtain ⟨_, xs0, rfl, hx0, hty0⟩ := typedVs_cons hty
  obtain ⟨row, rfl, ht⟩ := hx0
  obtain rfl := typedVs_nil hty0
  obtain ⟨d0, rfl⟩ := len1 hlen
  exact law_calls laidOut rfl Try.underlying4 rfl (by kernel_rfl) rfl hx (s_laws_FnExactImageId ht) hW

theorem fnExactImageId_holds : Rows.FnExactImageIdSaid :=
  OpenClaim.holds_of_wide 10 Try.f10 rfl rfl rfl rfl rfl rfl rfl ⟨rfl, rfl, rfl, rfl, rfl⟩ rfl rfl rfl rfl rfl (by kernel_rfl) Try.func10 (by kernel_rfl)
    (of_decide_eq_true (by kernel_rfl)) (by unfold Func.isWrapper; first | (rw [if_pos (by decide +kernel)]; kernel_rfl) | (rw [if_neg (by decide +kernel)]; exact ⟨rfl, rfl⟩))
    (fun os started H enc _ => fnExactImageId_lifted os started H enc)
end Go.Proofs.Ytcmmadfnhmngnaa
