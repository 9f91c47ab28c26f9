/- The law 'FnExactPackInts' answers true at every input and leaves its arguments as they were. Conditions: none beyond the given statement. -/
import Derived.Test.YtcmmadfnhmngnaaBase
import Derived.Test.YtcmmadfnhmngnaaFnsE
namespace Go.Proofs.Ytcmmadfnhmngnaa
open Go.Sim Go.ChangeShapes Go.WideShapes Go.ChangeAt Go.RowKit
set_option maxRecDepth 100000
theorem fnExactPackInts_lifted (os : Os) (started : os.Started) (H : Type) (enc : TypeId × Value → H) :
    ReturnsInHanded {} Try.checked os 9 .any (Rows.fnExactPackIntsSpec.pre6 enc Try.prog Try.f9 Rows.fnExactPackIntsRow.domain false) (Rows.fnExactPackIntsSpec.post enc Try.prog Try.f9 false true false false) := by
  refine returnsInHanded_of_change (C := Try.checked) own started (by kernel_rfl) Try.func9
    (ChangeSpec.witness6 (enc := enc) (C := Try.checked) false ⟨#[], #[.slice none 0 0], []⟩ 8 (by kernel_rfl) (by kernel_rfl) (by kernel_rfl) (by kernel_rfl)) ?_
  intro W base args ds gs before hval hW _ _
  have hW0 := hW
  obtain ⟨p, q, hA, _, _, _, _⟩ := hW0
  have hlen := trodAll_len hA
  obtain ⟨xs, hx, hty⟩ := args_typed (n := 8) hΓ (by kernel_rfl) (fun j t v h1 h2 => hval j t v (by simpa using h1) (by simpa using h2)) hA
  rw [Try.params9] at hty hlen
  obtain ⟨_, xs0, rfl, hx0, hty0⟩ := typedVs_cons hty
  obtain ⟨_, rfl, rows, ⟨⟩, hl, hr⟩ := hx0
  obtain rfl := typedVs_nil hty0
  obtain ⟨d0, rfl⟩ := len1 hlen
  obtain ⟨ns, rfl, _⟩ := rows_map (g := intRow) (fun r hr' => hr r hr')
  exact law_calls laidOut rfl Try.underlying4 rfl (by kernel_rfl) rfl hx (s_laws_FnExactPackInts ns) hW

theorem fnExactPackInts_holds : Rows.FnExactPackIntsSaid :=
  OpenClaim.holds_of_wide 9 Try.f9 rfl rfl rfl rfl rfl rfl rfl ⟨rfl, rfl, rfl, rfl, rfl⟩ rfl rfl rfl rfl rfl (by kernel_rfl) Try.func9 (by kernel_rfl)
    (of_decide_eq_true (by kernel_rfl)) (by unfold Func.isWrapper; first | (rw [if_pos (by decide +kernel)]; kernel_rfl) | (rw [if_neg (by decide +kernel)]; exact ⟨rfl, rfl⟩))
    (fun os started H enc _ => fnExactPackInts_lifted os started H enc)
end Go.Proofs.Ytcmmadfnhmngnaa
