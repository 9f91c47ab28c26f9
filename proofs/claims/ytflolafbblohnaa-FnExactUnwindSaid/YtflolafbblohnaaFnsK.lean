/- Views, machines and names: the contracts in both texts. -/
import Derived.Test.YtflolafbblohnaaFnsJ
namespace Go.Proofs.Ytflolafbblohnaa
open Go.Sim
set_option maxRecDepth 100000
set_option maxHeartbeats 4000000
def viewOk (v : TView) : Bool := within v.fSp 0 1200 && decide ((v.fWords.length : Int) ≤ 1200 - v.fSp)
theorem s_impl_ViewOk (v : TView) : Sim.Spec Try.prog 141 [.agg v.tr] (rB (viewOk v)) := by
  refine spec_of_W hΓ hmix Try.func141 rfl (by decide) rfl ?_
  unfold viewOk
  have hlen : (v.fWords.map intRow).length = v.fWords.length := by simp
  cases hw : within v.fSp 0 1200 with
  | false =>
    have hs := s_impl_between v.fSp 0 1200
    rw [hw] at hs
    repeat' (
      (conv => whnf)
      first
      | refine Or.inl ?_
      | refine And.intro (Obl.out (?_ : Obl _)) ?_
      | refine ifB_intro (fun h => ?_) (fun h => ?_)
      | refine call_intro (hs) (And.intro rfl (And.intro rfl (And.intro rfl trivial))) ?_
      | refine Exists.intro _ (And.intro rfl ?_)
      | ((with_reducible show _ = _); rfl))
    all_goals try (
      (with_reducible refine Obl.mk ?_)
      first
      | ((with_reducible show regOk _ _ = true); kernel_rfl)
      | ((with_reducible show eqTyOk _ _ = true); kernel_rfl)
      | rfl
      | exact trivial
      | ((repeat' (first | exact trivial | refine And.intro ?_ ?_)); done)
      | decide
      | (intro r hr; simp only [List.mem_cons, List.not_mem_nil, or_false] at hr; first | (subst hr; rfl) | (rcases hr with rfl | rfl <;> rfl) | (rcases hr with rfl | rfl | rfl <;> rfl) | (rcases hr with rfl | rfl | rfl | rfl <;> rfl))
      | (refine And.intro ?_ ?_ <;> simp only [List.length_map, List.length_append, List.length_cons, List.length_nil] <;> omega))
  | true =>
    have hs := s_impl_between v.fSp 0 1200
    rw [hw] at hs
    have hb := within_iff.1 hw
    repeat' (
      (conv => whnf)
      first
      | refine Or.inl ?_
      | refine And.intro (Obl.out (?_ : Obl _)) ?_
      | refine ifB_intro (fun h => ?_) (fun h => ?_)
      | refine call_intro (hs) (And.intro rfl (And.intro rfl (And.intro rfl trivial))) ?_
      | refine Exists.intro _ (And.intro rfl ?_)
      | ((with_reducible show _ = _); rfl))
    all_goals try (
      (with_reducible refine Obl.mk ?_)
      first
      | ((with_reducible show regOk _ _ = true); kernel_rfl)
      | ((with_reducible show eqTyOk _ _ = true); kernel_rfl)
      | rfl
      | exact trivial
      | ((repeat' (first | exact trivial | refine And.intro ?_ ?_)); done)
      | decide
      | (intro r hr; simp only [List.mem_cons, List.not_mem_nil, or_false] at hr; first | (subst hr; rfl) | (rcases hr with rfl | rfl <;> rfl) | (rcases hr with rfl | rfl | rfl <;> rfl) | (rcases hr with rfl | rfl | rfl | rfl <;> rfl))
      | (refine And.intro ?_ ?_ <;> simp only [List.length_map, List.length_append, List.length_cons, List.length_nil] <;> omega))
    exact ⟨by rw [IntWalk.i64_in _ (by omega), hlen]; rfl⟩
theorem s_spec_ViewOk (v : TView) : Sim.Spec Try.prog 138 [.agg v.tr] (rB (viewOk v)) := by
  refine spec_of_W hΓ hmix Try.func138 rfl (by decide) rfl ?_
  unfold viewOk
  have hlen : (v.fWords.map intRow).length = v.fWords.length := by simp
  cases hw : within v.fSp 0 1200 with
  | false =>
    have hs := s_spec_l01In v.fSp 0 1200
    rw [hw] at hs
    repeat' (
      (conv => whnf)
      first
      | refine Or.inl ?_
      | refine And.intro (Obl.out (?_ : Obl _)) ?_
      | refine ifB_intro (fun h => ?_) (fun h => ?_)
      | refine call_intro (hs) (And.intro rfl (And.intro rfl (And.intro rfl trivial))) ?_
      | refine Exists.intro _ (And.intro rfl ?_)
      | ((with_reducible show _ = _); rfl))
    all_goals try (
      (with_reducible refine Obl.mk ?_)
      first
      | ((with_reducible show regOk _ _ = true); kernel_rfl)
      | ((with_reducible show eqTyOk _ _ = true); kernel_rfl)
      | rfl
      | exact trivial
      | ((repeat' (first | exact trivial | refine And.intro ?_ ?_)); done)
      | decide
      | (intro r hr; simp only [List.mem_cons, List.not_mem_nil, or_false] at hr; first | (subst hr; rfl) | (rcases hr with rfl | rfl <;> rfl) | (rcases hr with rfl | rfl | rfl <;> rfl) | (rcases hr with rfl | rfl | rfl | rfl <;> rfl))
      | (refine And.intro ?_ ?_ <;> simp only [List.length_map, List.length_append, List.length_cons, List.length_nil] <;> omega))
  | true =>
    have hs := s_spec_l01In v.fSp 0 1200
    rw [hw] at hs
    have hb := within_iff.1 hw
    repeat' (
      (conv => whnf)
      first
      | refine Or.inl ?_
      | refine And.intro (Obl.out (?_ : Obl _)) ?_
      | refine ifB_intro (fun h => ?_) (fun h => ?_)
      | refine call_intro (hs) (And.intro rfl (And.intro rfl (And.intro rfl trivial))) ?_
      | refine Exists.intro _ (And.intro rfl ?_)
      | ((with_reducible show _ = _); rfl))
    all_goals try (
      (with_reducible refine Obl.mk ?_)
      first
      | ((with_reducible show regOk _ _ = true); kernel_rfl)
      | ((with_reducible show eqTyOk _ _ = true); kernel_rfl)
      | rfl
      | exact trivial
      | ((repeat' (first | exact trivial | refine And.intro ?_ ?_)); done)
      | decide
      | (intro r hr; simp only [List.mem_cons, List.not_mem_nil, or_false] at hr; first | (subst hr; rfl) | (rcases hr with rfl | rfl <;> rfl) | (rcases hr with rfl | rfl | rfl <;> rfl) | (rcases hr with rfl | rfl | rfl | rfl <;> rfl))
      | (refine And.intro ?_ ?_ <;> simp only [List.length_map, List.length_append, List.length_cons, List.length_nil] <;> omega))
    exact ⟨by rw [IntWalk.i64_in _ (by omega), hlen]; rfl⟩
def wordOf (v : TView) (a : Int) : Option Int := if viewOk v = true ∧ within a v.fSp (v.fSp + v.fWords.length - 1) = true then v.fWords[(a - v.fSp).toNat]? else none
def oI (o : Option Int) : Int := match o with | some x => x | none => 0
abbrev rWord (o : Option Int) : Res := .tup [.c (.t (.int .i64 (oI o))), .c (.t (.bool o.isSome))]
theorem viewOk_iff {v : TView} : viewOk v = true ↔ (0 ≤ v.fSp ∧ v.fSp ≤ 1200) ∧ (v.fWords.length : Int) ≤ 1200 - v.fSp := by
  unfold viewOk
  rw [Bool.and_eq_true, within_iff, decide_eq_true_eq]
theorem s_impl_WordOf (v : TView) (a : Int) : Sim.Spec Try.prog 144 [.agg v.tr, tvI a] (rWord (wordOf v a)) := by
  refine spec_of_W hΓ hmix Try.func144 rfl (by decide) rfl ?_
  have hs := s_impl_ViewOk v
  have hlen : (v.fWords.map intRow).length = v.fWords.length := by simp
  unfold wordOf
  cases hv : viewOk v with
  | false =>
    rw [hv] at hs
    rw [if_neg (by simp)]
    repeat' (
      (conv => whnf)
      first
      | refine Or.inl ?_
      | refine And.intro (Obl.out (?_ : Obl _)) ?_
      | refine ifB_intro (fun h => ?_) (fun h => ?_)
      | refine call_intro (hs) (And.intro (And.intro rfl (And.intro rfl (And.intro rfl (And.intro rfl trivial)))) trivial) ?_
      | refine Exists.intro _ (And.intro rfl ?_)
      | ((with_reducible show _ = _); rfl))
    all_goals try (
      (with_reducible refine Obl.mk ?_)
      first
      | ((with_reducible show regOk _ _ = true); kernel_rfl)
      | ((with_reducible show eqTyOk _ _ = true); kernel_rfl)
      | rfl
      | exact trivial
      | ((repeat' (first | exact trivial | refine And.intro ?_ ?_)); done)
      | decide
      | (intro r hr; simp only [List.mem_cons, List.not_mem_nil, or_false] at hr; first | (subst hr; rfl) | (rcases hr with rfl | rfl <;> rfl) | (rcases hr with rfl | rfl | rfl <;> rfl) | (rcases hr with rfl | rfl | rfl | rfl <;> rfl))
      | (refine And.intro ?_ ?_ <;> simp only [List.length_map, List.length_append, List.length_cons, List.length_nil] <;> omega))
  | true =>
    rw [hv] at hs
    have hvi := viewOk_iff.1 hv
    have w1 : IntKind.i64.wrap (IntKind.i64.wrap (v.fSp + (v.fWords.map intRow).length) - 1) = v.fSp + v.fWords.length - 1 := by
      rw [hlen, IntWalk.i64_in (v.fSp + v.fWords.length) (by omega), IntWalk.i64_in _ (by omega)]
    have hs2 := s_impl_between a v.fSp (IntKind.i64.wrap (IntKind.i64.wrap (v.fSp + (v.fWords.map intRow).length) - 1))
    cases hw : within a v.fSp (v.fSp + v.fWords.length - 1) with
    | false =>
      rw [if_neg (by simp)]
      have hs2' := hs2
      rw [w1, hw] at hs2'
      rw [← hw, ← w1] at hs2'
      repeat' (
        (conv => whnf)
        first
        | refine Or.inl ?_
        | refine And.intro (Obl.out (?_ : Obl _)) ?_
        | refine ifB_intro (fun h => ?_) (fun h => ?_)
        | refine call_intro (hs) (And.intro (And.intro rfl (And.intro rfl (And.intro rfl (And.intro rfl trivial)))) trivial) ?_
        | refine call_intro (hs2) (And.intro rfl (And.intro rfl (And.intro rfl trivial))) ?_
        | refine Exists.intro _ (And.intro rfl ?_)
        | ((with_reducible show _ = _); rfl))
      all_goals try (
        (with_reducible refine Obl.mk ?_)
        first
        | ((with_reducible show regOk _ _ = true); kernel_rfl)
        | ((with_reducible show eqTyOk _ _ = true); kernel_rfl)
        | rfl
        | exact trivial
        | ((repeat' (first | exact trivial | refine And.intro ?_ ?_)); done)
        | decide
        | (intro r hr; simp only [List.mem_cons, List.not_mem_nil, or_false] at hr; first | (subst hr; rfl) | (rcases hr with rfl | rfl <;> rfl) | (rcases hr with rfl | rfl | rfl <;> rfl) | (rcases hr with rfl | rfl | rfl | rfl <;> rfl))
        | (refine And.intro ?_ ?_ <;> simp only [List.length_map, List.length_append, List.length_cons, List.length_nil] <;> omega))
      all_goals (rw [w1, hw] at *; simp at *)
    | true =>
      have hb := within_iff.1 hw
      rw [if_pos ⟨rfl, rfl⟩]
      obtain ⟨j, hj⟩ := Int.eq_ofNat_of_zero_le (show 0 ≤ a - v.fSp by omega)
      obtain ⟨x, hx⟩ := get_of_lt (l := v.fWords) (k := j) (by omega)
      have w2 : IntKind.i64.wrap (a - v.fSp) = (j : Int) := by rw [IntWalk.i64_in _ (by omega)]; exact hj
      rw [hj, Int.toNat_natCast, hx]
      repeat' (
        (conv => whnf)
        first
        | refine Or.inl ?_
        | refine And.intro (Obl.out (?_ : Obl _)) ?_
        | refine ifB_intro (fun h => ?_) (fun h => ?_)
        | refine call_intro (hs) (And.intro (And.intro rfl (And.intro rfl (And.intro rfl (And.intro rfl trivial)))) trivial) ?_
        | refine call_intro (hs2) (And.intro rfl (And.intro rfl (And.intro rfl trivial))) ?_
        | refine ⟨j, intRow x, w2, map_get hx, ?_⟩
        | refine Exists.intro _ (And.intro rfl ?_)
        | ((with_reducible show _ = _); rfl))
      all_goals try (
        (with_reducible refine Obl.mk ?_)
        first
        | ((with_reducible show regOk _ _ = true); kernel_rfl)
        | ((with_reducible show eqTyOk _ _ = true); kernel_rfl)
        | rfl
        | exact trivial
        | ((repeat' (first | exact trivial | refine And.intro ?_ ?_)); done)
        | decide
        | (intro r hr; simp only [List.mem_cons, List.not_mem_nil, or_false] at hr; first | (subst hr; rfl) | (rcases hr with rfl | rfl <;> rfl) | (rcases hr with rfl | rfl | rfl <;> rfl) | (rcases hr with rfl | rfl | rfl | rfl <;> rfl))
        | (refine And.intro ?_ ?_ <;> simp only [List.length_map, List.length_append, List.length_cons, List.length_nil] <;> omega))
      all_goals try exact absurd hw (by have := h; rw [w1] at this; simpa using this)
theorem s_spec_WordOf (v : TView) (a : Int) : Sim.Spec Try.prog 140 [.agg v.tr, tvI a] (rWord (wordOf v a)) := by
  refine spec_of_W hΓ hmix Try.func140 rfl (by decide) rfl ?_
  have hs := s_spec_ViewOk v
  have hlen : (v.fWords.map intRow).length = v.fWords.length := by simp
  unfold wordOf
  cases hv : viewOk v with
  | false =>
    rw [hv] at hs
    rw [if_neg (by simp)]
    repeat' (
      (conv => whnf)
      first
      | refine Or.inl ?_
      | refine And.intro (Obl.out (?_ : Obl _)) ?_
      | refine ifB_intro (fun h => ?_) (fun h => ?_)
      | refine call_intro (hs) (And.intro (And.intro rfl (And.intro rfl (And.intro rfl (And.intro rfl trivial)))) trivial) ?_
      | refine Exists.intro _ (And.intro rfl ?_)
      | ((with_reducible show _ = _); rfl))
    all_goals try (
      (with_reducible refine Obl.mk ?_)
      first
      | ((with_reducible show regOk _ _ = true); kernel_rfl)
      | ((with_reducible show eqTyOk _ _ = true); kernel_rfl)
      | rfl
      | exact trivial
      | ((repeat' (first | exact trivial | refine And.intro ?_ ?_)); done)
      | decide
      | (intro r hr; simp only [List.mem_cons, List.not_mem_nil, or_false] at hr; first | (subst hr; rfl) | (rcases hr with rfl | rfl <;> rfl) | (rcases hr with rfl | rfl | rfl <;> rfl) | (rcases hr with rfl | rfl | rfl | rfl <;> rfl))
      | (refine And.intro ?_ ?_ <;> simp only [List.length_map, List.length_append, List.length_cons, List.length_nil] <;> omega))
  | true =>
    rw [hv] at hs
    have hvi := viewOk_iff.1 hv
    have w1 : IntKind.i64.wrap (IntKind.i64.wrap (v.fSp + (v.fWords.map intRow).length) - 1) = v.fSp + v.fWords.length - 1 := by
      rw [hlen, IntWalk.i64_in (v.fSp + v.fWords.length) (by omega), IntWalk.i64_in _ (by omega)]
    have hs2 := s_spec_l01In a v.fSp (IntKind.i64.wrap (IntKind.i64.wrap (v.fSp + (v.fWords.map intRow).length) - 1))
    cases hw : within a v.fSp (v.fSp + v.fWords.length - 1) with
    | false =>
      rw [if_neg (by simp)]
      repeat' (
        (conv => whnf)
        first
        | refine Or.inl ?_
        | refine And.intro (Obl.out (?_ : Obl _)) ?_
        | refine ifB_intro (fun h => ?_) (fun h => ?_)
        | refine call_intro (hs) (And.intro (And.intro rfl (And.intro rfl (And.intro rfl (And.intro rfl trivial)))) trivial) ?_
        | refine call_intro (hs2) (And.intro rfl (And.intro rfl (And.intro rfl trivial))) ?_
        | refine Exists.intro _ (And.intro rfl ?_)
        | ((with_reducible show _ = _); rfl))
      all_goals try (
        (with_reducible refine Obl.mk ?_)
        first
        | ((with_reducible show regOk _ _ = true); kernel_rfl)
        | ((with_reducible show eqTyOk _ _ = true); kernel_rfl)
        | rfl
        | exact trivial
        | ((repeat' (first | exact trivial | refine And.intro ?_ ?_)); done)
        | decide
        | (intro r hr; simp only [List.mem_cons, List.not_mem_nil, or_false] at hr; first | (subst hr; rfl) | (rcases hr with rfl | rfl <;> rfl) | (rcases hr with rfl | rfl | rfl <;> rfl) | (rcases hr with rfl | rfl | rfl | rfl <;> rfl))
        | (refine And.intro ?_ ?_ <;> simp only [List.length_map, List.length_append, List.length_cons, List.length_nil] <;> omega))
      all_goals (rw [w1, hw] at *; simp at *)
    | true =>
      have hb := within_iff.1 hw
      rw [if_pos ⟨rfl, rfl⟩]
      obtain ⟨j, hj⟩ := Int.eq_ofNat_of_zero_le (show 0 ≤ a - v.fSp by omega)
      obtain ⟨x, hx⟩ := get_of_lt (l := v.fWords) (k := j) (by omega)
      have w2 : IntKind.i64.wrap (a - v.fSp) = (j : Int) := by rw [IntWalk.i64_in _ (by omega)]; exact hj
      rw [hj, Int.toNat_natCast, hx]
      repeat' (
        (conv => whnf)
        first
        | refine Or.inl ?_
        | refine And.intro (Obl.out (?_ : Obl _)) ?_
        | refine ifB_intro (fun h => ?_) (fun h => ?_)
        | refine call_intro (hs) (And.intro (And.intro rfl (And.intro rfl (And.intro rfl (And.intro rfl trivial)))) trivial) ?_
        | refine call_intro (hs2) (And.intro rfl (And.intro rfl (And.intro rfl trivial))) ?_
        | refine ⟨j, intRow x, w2, map_get hx, ?_⟩
        | refine Exists.intro _ (And.intro rfl ?_)
        | ((with_reducible show _ = _); rfl))
      all_goals try (
        (with_reducible refine Obl.mk ?_)
        first
        | ((with_reducible show regOk _ _ = true); kernel_rfl)
        | ((with_reducible show eqTyOk _ _ = true); kernel_rfl)
        | rfl
        | exact trivial
        | ((repeat' (first | exact trivial | refine And.intro ?_ ?_)); done)
        | decide
        | (intro r hr; simp only [List.mem_cons, List.not_mem_nil, or_false] at hr; first | (subst hr; rfl) | (rcases hr with rfl | rfl <;> rfl) | (rcases hr with rfl | rfl | rfl <;> rfl) | (rcases hr with rfl | rfl | rfl | rfl <;> rfl))
        | (refine And.intro ?_ ?_ <;> simp only [List.length_map, List.length_append, List.length_cons, List.length_nil] <;> omega))
      all_goals try exact absurd hw (by have := h; rw [w1] at this; simpa using this)
end Go.Proofs.Ytflolafbblohnaa
