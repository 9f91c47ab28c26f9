/- The law 'FnVarints' answers true at every input and leaves its argument as it was. Conditions: none beyond the given statement. -/
import Derived.Test.YtcmmadfnhmngnaaBase
import Derived.Test.YtcmmadfnhmngnaaFnsG
namespace Go.Proofs.Ytcmmadfnhmngnaa
open Go.Sim Go.ChangeShapes Go.WideShapes Go.ChangeAt Go.RowKit
set_option maxRecDepth 100000
theorem byte_rows {rows : List (List Tr)} (h : ∀ r ∈ rows, ∃ n, r = [.int .u8 n] ∧ (Lit.int .u8 n).wf = true) : ∃ bs : List UInt8, rows = bs.map byteRow := by
  obtain ⟨bs, hb, _⟩ := rows_map (g := byteRow) (Q := fun _ => True) (rows := rows) fun r hr => by
    obtain ⟨n, rfl, hw⟩ := h r hr
    have h1 : IntKind.u8.min ≤ n ∧ n ≤ IntKind.u8.max := by simpa [Lit.wf] using hw
    have h2 : 0 ≤ n ∧ n ≤ 255 := h1
    refine ⟨UInt8.ofNat n.toNat, ?_, trivial⟩
    rw [byteRow, show (UInt8.ofNat n.toNat).toNat = n.toNat by simp; omega, Int.toNat_of_nonneg h2.1]
  exact ⟨bs, hb⟩
theorem fnVarints_lifted (os : Os) (started : os.Started) (H : Type) (enc : TypeId × Value → H) :
    ReturnsInHanded {} Try.checked os 11 .any (Rows.fnVarintsSpec.pre6 enc Try.prog Try.f11 Rows.fnVarintsRow.domain false) (Rows.fnVarintsSpec.post enc Try.prog Try.f11 false true false false) := by
  refine returnsInHanded_of_change (C := Try.checked) own started (by kernel_rfl) Try.func11
    (ChangeSpec.witness6 (enc := enc) (C := Try.checked) false ⟨#[], #[.slice none 0 0], []⟩ 8 (by kernel_rfl) (by kernel_rfl) (by kernel_rfl) (by kernel_rfl)) ?_
  intro W base args ds gs before hval hW _ _
  have hW0 := hW
  obtain ⟨p, q, hA, _, _, _, _⟩ := hW0
  have hlen := trodAll_len hA
  obtain ⟨xs, hx, hty⟩ := args_typed (n := 8) hΓ (by kernel_rfl) (fun j t v h1 h2 => hval j t v (by simpa using h1) (by simpa using h2)) hA
  rw [Try.params11] at hty hlen
  obtain ⟨_, xs0, rfl, hx0, hty0⟩ := typedVs_cons hty
  obtain ⟨_, rfl, rows, ⟨⟩, hl, hr⟩ := hx0
  obtain rfl := typedVs_nil hty0
  obtain ⟨d0, rfl⟩ := len1 hlen
  obtain ⟨bs, rfl⟩ := byte_rows (rows := rows) (fun r hr' => hr r hr')
  exact law_calls laidOut rfl Try.underlying4 rfl (by kernel_rfl) rfl hx (s_laws_FnVarints bs) hW

theorem fnVarints_holds : Rows.FnVarintsSaid :=
  OpenClaim.holds_of_wide 11 Try.f11 rfl rfl rfl rfl rfl rfl rfl ⟨rfl, rfl, rfl, rfl, rfl⟩ rfl rfl rfl rfl rfl (by kernel_rfl) Try.func11 (by kernel_rfl)
    (of_decide_eq_true (by kernel_rfl)) (by unfold Func.isWrapper; first | (rw [if_pos (by decide +kernel)]; kernel_rfl) | (rw [if_neg (by decide +kernel)]; exact ⟨rfl, rfl⟩))
    (fun os started H enc _ => fnVarints_lifted os started H enc)
end Go.Proofs.Ytcmmadfnhmngnaa
