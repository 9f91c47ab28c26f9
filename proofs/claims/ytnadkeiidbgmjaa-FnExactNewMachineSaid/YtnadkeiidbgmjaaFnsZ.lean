/- NewMachine in both texts. -/
import Derived.Test.YtnadkeiidbgmjaaFnsY
namespace Go.Proofs.Ytnadkeiidbgmjaa
open Go.Sim
set_option maxRecDepth 100000
set_option maxHeartbeats 4000000
theorem spaceOk_inv {s : TSpace} (h : spaceOk s = true) : ∃ i0 i1 b0 b1, s = ⟨[i0, i1], [b0, b1], s.fEntries⟩ ∧ (1 ≤ s.fEntries.length ∧ s.fEntries.length ≤ 6) ∧ (imageOk i0 = true ∧ 1 ≤ b0 ∧ b0 ≤ 1000000) ∧ (imageOk i1 = true ∧ 1 ≤ b1 ∧ b1 ≤ 1000000) ∧ overlap i0 i1 b0 b1 = false ∧ ∀ e ∈ s.fEntries, (entryIn i0 b0 e || entryIn i1 b1 e) = true := by
  rcases space_shape (s := s) with ⟨i0, i1, b0, b1, hs⟩ | ⟨h', _⟩
  · refine ⟨i0, i1, b0, b1, hs, ?_⟩
    rw [hs, spaceOk] at h
    dsimp only at h
    rw [spaceOk2, Bool.and_eq_true, Bool.and_eq_true, Bool.and_eq_true, Bool.and_eq_true, Bool.and_eq_true, Bool.and_eq_true, within_iff, within_iff, within_iff, List.all_eq_true, Bool.not_eq_true'] at h
    obtain ⟨h1, h2, h3, h4, h5, h6, h7⟩ := h
    exact ⟨by omega, ⟨h2, h3⟩, ⟨h4, h5⟩, h6, h7⟩
  · rw [h'] at h; cases h
def zeroM : TMachine := ⟨0, 0, 0, [], [], 0, 0⟩
def newM (s : TSpace) : TMachine := if spaceOk s then ⟨s.fEntries.headD 0, 1199, 1200, List.replicate 1200 0, [], 0, 0⟩ else zeroM
theorem s_impl_NewMachine (s : TSpace) (hs : smallR 1048576 s.tr) : Sim.Spec Try.prog 67 [.agg s.tr] (.tup [.agg ((newM s).tr.map resC), .c (.t (.bool (spaceOk s)))]) := by
  refine spec_of_W hΓ hmix Try.func67 rfl (by decide) rfl ?_
  have hS := s_impl_SpaceOk s hs
  unfold newM
  cases hok : spaceOk s with
  | false =>
    rw [hok] at hS
    repeat' (
      (conv => whnf)
      first
      | refine Or.inl ?_
      | refine And.intro (Obl.out (?_ : Obl _)) ?_
      | refine ifB_intro (fun h => ?_) (fun h => ?_)
      | refine call_intro (hS) (And.intro (And.intro rfl (And.intro rfl (And.intro rfl trivial))) trivial) ?_
      | refine Exists.intro _ (And.intro rfl ?_)
      | ((with_reducible show _ = _); rfl))
    all_goals try (
      (with_reducible refine Obl.mk ?_)
      first
      | ((with_reducible show regOk _ _ = true); kernel_rfl)
      | ((with_reducible show eqTyOk _ _ = true); kernel_rfl)
      | rfl
      | exact trivial
      | ((repeat' (first | exact trivial | refine And.intro ?_ ?_)); done)
      | decide
      | (intro r hr; simp only [List.mem_cons, List.not_mem_nil, or_false] at hr; first | (subst hr; rfl) | (rcases hr with rfl | rfl <;> rfl) | (rcases hr with rfl | rfl | rfl <;> rfl) | (rcases hr with rfl | rfl | rfl | rfl <;> rfl))
      | (refine And.intro ?_ ?_ <;> simp only [List.length_map, List.length_append, List.length_cons, List.length_nil] <;> omega))
  | true =>
    rw [hok] at hS
    obtain ⟨i0, i1, b0, b1, _, ⟨hl, _⟩, _⟩ := spaceOk_inv hok
    match he : s.fEntries, hl with
    | e :: es, _ =>
      rw [if_pos rfl]
      repeat' (
        (conv => whnf)
        first
        | refine Or.inl ?_
        | refine And.intro (Obl.out (?_ : Obl _)) ?_
        | refine ifB_intro (fun h => ?_) (fun h => ?_)
        | refine call_intro (hS) (And.intro (And.intro rfl (And.intro rfl (And.intro rfl trivial))) trivial) ?_
        | refine ⟨0, intRow e, rfl, (by rw [he]; rfl), ?_⟩
        | refine Exists.intro _ (And.intro rfl ?_)
        | ((with_reducible show _ = _); rfl))
      all_goals try (
        (with_reducible refine Obl.mk ?_)
        first
        | ((with_reducible show regOk _ _ = true); kernel_rfl)
        | ((with_reducible show eqTyOk _ _ = true); kernel_rfl)
        | rfl
        | exact trivial
        | ((repeat' (first | exact trivial | refine And.intro ?_ ?_)); done)
        | decide
        | (intro r hr; simp only [List.mem_cons, List.not_mem_nil, or_false] at hr; first | (subst hr; rfl) | (rcases hr with rfl | rfl <;> rfl) | (rcases hr with rfl | rfl | rfl <;> rfl) | (rcases hr with rfl | rfl | rfl | rfl <;> rfl))
        | (refine And.intro ?_ ?_ <;> simp only [List.length_map, List.length_append, List.length_cons, List.length_nil] <;> omega))
      all_goals try (exfalso; simp at h; done)
theorem s_spec_NewMachine (s : TSpace) (hs : smallR 1048576 s.tr) : Sim.Spec Try.prog 65 [.agg s.tr] (.tup [.agg ((newM s).tr.map resC), .c (.t (.bool (spaceOk s)))]) := by
  refine spec_of_W hΓ hmix Try.func65 rfl (by decide) rfl ?_
  have hS := s_spec_SpaceOk s hs
  unfold newM
  cases hok : spaceOk s with
  | false =>
    rw [hok] at hS
    repeat' (
      (conv => whnf)
      first
      | refine Or.inl ?_
      | refine And.intro (Obl.out (?_ : Obl _)) ?_
      | refine ifB_intro (fun h => ?_) (fun h => ?_)
      | refine call_intro (hS) (And.intro (And.intro rfl (And.intro rfl (And.intro rfl trivial))) trivial) ?_
      | refine Exists.intro _ (And.intro rfl ?_)
      | ((with_reducible show _ = _); rfl))
    all_goals try (
      (with_reducible refine Obl.mk ?_)
      first
      | ((with_reducible show regOk _ _ = true); kernel_rfl)
      | ((with_reducible show eqTyOk _ _ = true); kernel_rfl)
      | rfl
      | exact trivial
      | ((repeat' (first | exact trivial | refine And.intro ?_ ?_)); done)
      | decide
      | (intro r hr; simp only [List.mem_cons, List.not_mem_nil, or_false] at hr; first | (subst hr; rfl) | (rcases hr with rfl | rfl <;> rfl) | (rcases hr with rfl | rfl | rfl <;> rfl) | (rcases hr with rfl | rfl | rfl | rfl <;> rfl))
      | (refine And.intro ?_ ?_ <;> simp only [List.length_map, List.length_append, List.length_cons, List.length_nil] <;> omega))
  | true =>
    rw [hok] at hS
    obtain ⟨i0, i1, b0, b1, _, ⟨hl, _⟩, _⟩ := spaceOk_inv hok
    match he : s.fEntries, hl with
    | e :: es, _ =>
      rw [if_pos rfl]
      repeat' (
        (conv => whnf)
        first
        | refine Or.inl ?_
        | refine And.intro (Obl.out (?_ : Obl _)) ?_
        | refine ifB_intro (fun h => ?_) (fun h => ?_)
        | refine call_intro (hS) (And.intro (And.intro rfl (And.intro rfl (And.intro rfl trivial))) trivial) ?_
        | refine ⟨0, intRow e, rfl, (by rw [he]; rfl), ?_⟩
        | refine Exists.intro _ (And.intro rfl ?_)
        | ((with_reducible show _ = _); rfl))
      all_goals try (
        (with_reducible refine Obl.mk ?_)
        first
        | ((with_reducible show regOk _ _ = true); kernel_rfl)
        | ((with_reducible show eqTyOk _ _ = true); kernel_rfl)
        | rfl
        | exact trivial
        | ((repeat' (first | exact trivial | refine And.intro ?_ ?_)); done)
        | decide
        | (intro r hr; simp only [List.mem_cons, List.not_mem_nil, or_false] at hr; first | (subst hr; rfl) | (rcases hr with rfl | rfl <;> rfl) | (rcases hr with rfl | rfl | rfl <;> rfl) | (rcases hr with rfl | rfl | rfl | rfl <;> rfl))
        | (refine And.intro ?_ ?_ <;> simp only [List.length_map, List.length_append, List.length_cons, List.length_nil] <;> omega))
      all_goals try (exfalso; simp at h; done)
theorem newM_small (s : TSpace) : smallR 1048576 (newM s).tr := by
  unfold newM
  split
  · simp only [TMachine.tr, smallR]
    exact ⟨by simp [smallT], by simp [smallT], by simp [smallT], small_Ints (by simp), small_Ints (by simp), by simp [smallT], by simp [smallT], trivial⟩
  · simp only [zeroM, TMachine.tr, smallR]
    exact ⟨by simp [smallT], by simp [smallT], by simp [smallT], small_Ints (by simp), small_Ints (by simp), by simp [smallT], by simp [smallT], trivial⟩
end Go.Proofs.Ytnadkeiidbgmjaa
