/- Rows: starts, and their bytes; in both texts. -/
import Derived.Test.YtnadkeiidbgmjaaFnsH
namespace Go.Proofs.Ytnadkeiidbgmjaa
open Go.Sim
set_option maxRecDepth 100000
theorem findRowF_range {off : Int} : ∀ {l : List TRow} {i : Nat} {f : Int}, (f = -1 ∨ (0 ≤ f ∧ f < i)) → findRowF off l i f = -1 ∨ (0 ≤ findRowF off l i f ∧ findRowF off l i f < i + l.length)
  | [], i, f, h => by rw [findRowF]; simp only [List.length_nil]; omega
  | r :: l, i, f, h => by
    rw [findRowF]
    have := findRowF_range (off := off) (l := l) (i := i + 1) (f := if r.fOffset ≤ off then (i : Int) else f) (by split <;> omega)
    simp only [List.length_cons]
    omega
theorem findRow_range (l : List TRow) (off : Int) : findRow l off = -1 ∨ (0 ≤ findRow l off ∧ findRow l off < l.length) := by
  unfold findRow
  split
  · have := findRowF_range (off := off) (l := l) (i := 0) (f := -1) (.inl rfl)
    omega
  · exact .inl rfl
def isStart (l : List TRow) (off : Int) : Bool := decide (0 ≤ findRow l off) && (match l[(findRow l off).toNat]? with | some r => r.fOffset == off && r.fStart | none => false)
theorem s_impl_IsStart (l : List TRow) (off : Int) (hl : l.length ≤ 1048576) : Sim.Spec Try.prog 138 [tvL 3 (l.map TRow.tr), tvI off] (rB (isStart l off)) := by
  refine spec_of_W hΓ hmix Try.func138 rfl (by decide) rfl ?_
  have hlen : (l.map TRow.tr).length = l.length := by simp
  have hcall := s_impl_FindRow l off hl
  have hrg := findRow_range l off
  unfold isStart
  generalize findRow l off = f at *
  rcases hrg with rfl | ⟨h0, h1⟩
  · skip
    repeat' (
      (conv => whnf)
      first
      | refine Or.inl ?_
      | refine And.intro (Obl.out (?_ : Obl _)) ?_
      | refine ifB_intro (fun h => ?_) (fun h => ?_)
      | refine call_intro (hcall) (And.intro rfl (And.intro rfl trivial)) ?_
      | refine Exists.intro _ (And.intro rfl ?_)
      | ((with_reducible show _ = _); rfl))
    all_goals try (
      (with_reducible refine Obl.mk ?_)
      first
      | ((with_reducible show regOk _ _ = true); kernel_rfl)
      | ((with_reducible show eqTyOk _ _ = true); kernel_rfl)
      | rfl
      | exact trivial
      | ((repeat' (first | exact trivial | refine And.intro ?_ ?_)); done)
      | decide
      | (intro r hr; simp only [List.mem_cons, List.not_mem_nil, or_false] at hr; first | (subst hr; rfl) | (rcases hr with rfl | rfl <;> rfl) | (rcases hr with rfl | rfl | rfl <;> rfl) | (rcases hr with rfl | rfl | rfl | rfl <;> rfl))
      | (refine And.intro ?_ ?_ <;> simp only [List.length_map, List.length_append, List.length_cons, List.length_nil] <;> omega))
    all_goals simp at *
  · obtain ⟨j, rfl⟩ := Int.eq_ofNat_of_zero_le h0
    obtain ⟨x, hx⟩ := get_of_lt (l := l) (k := j) (by omega)
    rw [Int.toNat_natCast, hx]
    repeat' (
      (conv => whnf)
      first
      | refine Or.inl ?_
      | refine And.intro (Obl.out (?_ : Obl _)) ?_
      | refine ifB_intro (fun h => ?_) (fun h => ?_)
      | refine call_intro (hcall) (And.intro rfl (And.intro rfl trivial)) ?_
      | refine ⟨j, x.tr, rfl, map_get hx, ?_⟩
      | refine Exists.intro _ (And.intro rfl ?_)
      | ((with_reducible show _ = _); rfl))
    all_goals try (
      (with_reducible refine Obl.mk ?_)
      first
      | ((with_reducible show regOk _ _ = true); kernel_rfl)
      | ((with_reducible show eqTyOk _ _ = true); kernel_rfl)
      | rfl
      | exact trivial
      | ((repeat' (first | exact trivial | refine And.intro ?_ ?_)); done)
      | decide
      | (intro r hr; simp only [List.mem_cons, List.not_mem_nil, or_false] at hr; first | (subst hr; rfl) | (rcases hr with rfl | rfl <;> rfl) | (rcases hr with rfl | rfl | rfl <;> rfl) | (rcases hr with rfl | rfl | rfl | rfl <;> rfl))
      | (refine And.intro ?_ ?_ <;> simp only [List.length_map, List.length_append, List.length_cons, List.length_nil] <;> omega))
    all_goals (refine ⟨congrArg Tr.bool ?_⟩; simp_all)
theorem s_spec_IsStart (l : List TRow) (off : Int) (hl : l.length ≤ 1048576) : Sim.Spec Try.prog 135 [tvL 3 (l.map TRow.tr), tvI off] (rB (isStart l off)) := by
  refine spec_of_W hΓ hmix Try.func135 rfl (by decide) rfl ?_
  have hlen : (l.map TRow.tr).length = l.length := by simp
  have hcall := s_spec_FindRow l off hl
  have hrg := findRow_range l off
  unfold isStart
  generalize findRow l off = f at *
  rcases hrg with rfl | ⟨h0, h1⟩
  · skip
    repeat' (
      (conv => whnf)
      first
      | refine Or.inl ?_
      | refine And.intro (Obl.out (?_ : Obl _)) ?_
      | refine ifB_intro (fun h => ?_) (fun h => ?_)
      | refine call_intro (hcall) (And.intro rfl (And.intro rfl trivial)) ?_
      | refine Exists.intro _ (And.intro rfl ?_)
      | ((with_reducible show _ = _); rfl))
    all_goals try (
      (with_reducible refine Obl.mk ?_)
      first
      | ((with_reducible show regOk _ _ = true); kernel_rfl)
      | ((with_reducible show eqTyOk _ _ = true); kernel_rfl)
      | rfl
      | exact trivial
      | ((repeat' (first | exact trivial | refine And.intro ?_ ?_)); done)
      | decide
      | (intro r hr; simp only [List.mem_cons, List.not_mem_nil, or_false] at hr; first | (subst hr; rfl) | (rcases hr with rfl | rfl <;> rfl) | (rcases hr with rfl | rfl | rfl <;> rfl) | (rcases hr with rfl | rfl | rfl | rfl <;> rfl))
      | (refine And.intro ?_ ?_ <;> simp only [List.length_map, List.length_append, List.length_cons, List.length_nil] <;> omega))
    all_goals simp at *
  · obtain ⟨j, rfl⟩ := Int.eq_ofNat_of_zero_le h0
    obtain ⟨x, hx⟩ := get_of_lt (l := l) (k := j) (by omega)
    rw [Int.toNat_natCast, hx]
    repeat' (
      (conv => whnf)
      first
      | refine Or.inl ?_
      | refine And.intro (Obl.out (?_ : Obl _)) ?_
      | refine ifB_intro (fun h => ?_) (fun h => ?_)
      | refine call_intro (hcall) (And.intro rfl (And.intro rfl trivial)) ?_
      | refine ⟨j, x.tr, rfl, map_get hx, ?_⟩
      | refine Exists.intro _ (And.intro rfl ?_)
      | ((with_reducible show _ = _); rfl))
    all_goals try (
      (with_reducible refine Obl.mk ?_)
      first
      | ((with_reducible show regOk _ _ = true); kernel_rfl)
      | ((with_reducible show eqTyOk _ _ = true); kernel_rfl)
      | rfl
      | exact trivial
      | ((repeat' (first | exact trivial | refine And.intro ?_ ?_)); done)
      | decide
      | (intro r hr; simp only [List.mem_cons, List.not_mem_nil, or_false] at hr; first | (subst hr; rfl) | (rcases hr with rfl | rfl <;> rfl) | (rcases hr with rfl | rfl | rfl <;> rfl) | (rcases hr with rfl | rfl | rfl | rfl <;> rfl))
      | (refine And.intro ?_ ?_ <;> simp only [List.length_map, List.length_append, List.length_cons, List.length_nil] <;> omega))
    all_goals (refine ⟨congrArg Tr.bool ?_⟩; simp_all)
end Go.Proofs.Ytnadkeiidbgmjaa
