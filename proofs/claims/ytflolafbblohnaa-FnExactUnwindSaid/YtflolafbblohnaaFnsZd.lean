/- Unwind in both texts. -/
import Derived.Test.YtflolafbblohnaaFnsZb
namespace Go.Proofs.Ytflolafbblohnaa
open Go.Sim
set_option maxRecDepth 100000
set_option maxHeartbeats 4000000
def unwF (s : TSpace) (rules : List (List TRule)) : Nat → TView → Bool → List Int × Bool
  | 0, _, _ => ([], false)
  | k + 1, v, inner => (match unwindStep s rules v inner with
     | none => ([], false)
     | some x => if x.fPc = 0 then ([], true) else (x.fPc :: (unwF s rules k x false).1, (unwF s rules k x false).2))
def unwind (s : TSpace) (rules : List (List TRule)) (v : TView) : List Int × Bool := (v.fPc :: (unwF s rules 39 v true).1, (unwF s rules 39 v true).2)
theorem unwF_len {s : TSpace} {rules : List (List TRule)} : ∀ (k : Nat) (v : TView) (b : Bool), (unwF s rules k v b).1.length ≤ k
  | 0, _, _ => by simp [unwF]
  | k + 1, v, b => by
    rw [unwF]
    split
    · simp
    · split
      · simp
      · have := unwF_len k (s := s) (rules := rules)
        simp only [List.length_cons]
        rename_i x _ _
        have := this x false
        omega
theorem unwind_len {s : TSpace} {rules : List (List TRule)} {v : TView} : (unwind s rules v).1.length ≤ 1048576 := by
  have := unwF_len (s := s) (rules := rules) 39 v true
  simp only [unwind, List.length_cons]; omega
structure UnIx (s : TSpace) (rules : List (List TRule)) (R : List Int × Bool) where
  k : Nat
  x : TView
  acc : List Int
  first : Bool
  hk : acc.length + k = 40
  hk1 : 1 ≤ acc.length
  h1 : acc.length = 1 ↔ first = true
  h2 : inI x.fPc ∧ (∀ y ∈ x.fWords, inI y) ∧ x.fWords.length ≤ 1048576
  hr : acc ++ (unwF s rules k x first).1 = R.1 ∧ (unwF s rules k x first).2 = R.2
theorem s_impl_Unwind (s : TSpace) (rules : List (List TRule)) (v : TView) (hv : v.wf) (hs : smallR 1048576 s.tr) (hr : smallT 1048576 (.lst 1 (rules.map (lstRow 4 TRule.tr)))) (hvs : smallR 1048576 v.tr) : Sim.Spec Try.prog 18 [.agg s.tr, tvL 1 (rules.map (lstRow 4 TRule.tr)), .agg v.tr] (.tup [.c (.arr 1 ((unwind s rules v).1.map intRow)), .c (.t (.bool (unwind s rules v).2))]) := by
  refine spec_of_W hΓ hmix Try.func18 rfl (by decide) rfl ?_
  have hwl : v.fWords.length ≤ 1048576 := by have := hvs; simp only [TView.tr, smallR] at this; exact small_nat this.2.2.2.1
  obtain ⟨R, hR⟩ : ∃ R, unwind s rules v = R := ⟨_, rfl⟩
  rw [hR]
  unfold unwind at hR
  repeat' (
    (conv => whnf)
    first
    | refine Or.inl ?_
    | refine And.intro (Obl.out (?_ : Obl _)) ?_
    | refine ifB_intro (fun h => ?_) (fun h => ?_)
    | refine Exists.intro _ (And.intro rfl ?_)
    | ((with_reducible show _ = _); rfl))
  all_goals try (
    (with_reducible refine Obl.mk ?_)
    first
    | ((with_reducible show regOk _ _ = true); kernel_rfl)
    | ((with_reducible show eqTyOk _ _ = true); kernel_rfl)
    | rfl
    | exact trivial
    | ((repeat' (first | exact trivial | refine And.intro ?_ ?_)); done)
    | decide
    | (intro r hr; simp only [List.mem_cons, List.not_mem_nil, or_false] at hr; first | (subst hr; rfl) | (rcases hr with rfl | rfl <;> rfl) | (rcases hr with rfl | rfl | rfl <;> rfl) | (rcases hr with rfl | rfl | rfl | rfl <;> rfl))
    | (refine And.intro ?_ ?_ <;> simp only [List.length_map, List.length_append, List.length_cons, List.length_nil] <;> omega))
  conv => whnf
  refine ⟨UnIx s rules R, fun q => match q.first with
    | true => ⟨[(1, .r (.c (.t (.lst 1 (rules.map (lstRow 4 TRule.tr)))))), (3, .r (.c (.ptr (3, 0, 0) 0))), (5, .r (.c (.ptr (5, 0, 0) 0))), (8, .r (.c (.own (8, 0, 1))))], [((8, 0, 1), some (.arr true 1 (q.acc.map intRow))), ((5, 0, 0), some (.box [.t (.int .i64 q.x.fPc), .t (.int .i64 q.x.fSp), .t (.int .i64 q.x.fFp), .t (.lst 1 (q.x.fWords.map intRow))])), ((3, 0, 0), some (.box (s.tr.map .t)))], [13, 5, 3, 8]⟩
    | false => ⟨[(1, .r (.c (.t (.lst 1 (rules.map (lstRow 4 TRule.tr)))))), (3, .r (.c (.ptr (3, 0, 0) 0))), (5, .r (.c (.ptr (5, 0, 0) 0))), (8, .r (.c (.own (8, 0, 1))))], [((8, 0, 1), some (.arr true 1 (q.acc.map intRow))), ((5, 0, 0), some (.box [.t (.int .i64 q.x.fPc), .t (.int .i64 q.x.fSp), .t (.int .i64 q.x.fFp), .own (5, 0, 1)])), ((5, 0, 1), some (.arr true 1 (q.x.fWords.map intRow))), ((3, 0, 0), some (.box (s.tr.map .t)))], [13, 5, 3, 8]⟩,
    fun q => q.k, ⟨39, v, [v.fPc], true, rfl, by simp, by simp, ⟨hv.1, hv.2.2.2.2, hwl⟩, by rw [← hR]; exact ⟨rfl, rfl⟩⟩, ?_, ?_⟩
  · skip
    repeat' (
      (conv => whnf)
      first
      | refine Or.inl ?_
      | refine And.intro (Obl.out (?_ : Obl _)) ?_
      | refine ifB_intro (fun h => ?_) (fun h => ?_)
      | refine Exists.intro _ (And.intro rfl ?_)
      | ((with_reducible show _ = _); rfl))
    all_goals try (
      (with_reducible refine Obl.mk ?_)
      first
      | ((with_reducible show regOk _ _ = true); kernel_rfl)
      | ((with_reducible show eqTyOk _ _ = true); kernel_rfl)
      | rfl
      | exact trivial
      | ((repeat' (first | exact trivial | refine And.intro ?_ ?_)); done)
      | decide
      | (intro r hr; simp only [List.mem_cons, List.not_mem_nil, or_false] at hr; first | (subst hr; rfl) | (rcases hr with rfl | rfl <;> rfl) | (rcases hr with rfl | rfl | rfl <;> rfl) | (rcases hr with rfl | rfl | rfl | rfl <;> rfl))
      | (refine And.intro ?_ ?_ <;> simp only [List.length_map, List.length_append, List.length_cons, List.length_nil] <;> omega))
  intro ⟨k, x, acc, first, hk, hk1, h1, h2, hr0⟩
  have hrr := hr0
  have hal : (acc.map intRow).length = acc.length := by simp
  have hin : (((acc.map intRow).length : Int) == 1) = first := by
    rw [hal]
    cases first with
    | true => simp [h1.2 rfl]
    | false =>
      have : acc.length ≠ 1 := fun e => by have := h1.1 e; cases this
      simp; omega
  have hU : Sim.Spec Try.prog 61 [.agg s.tr, tvL 1 (rules.map (lstRow 4 TRule.tr)), .agg x.tr, tvB (((acc.map intRow).length : Int) == 1)] (.tup [.agg ((oV (unwindStep s rules x first)).tr.map resC), .c (.t (.bool (unwindStep s rules x first).isSome))]) := by
    rw [hin]; exact s_impl_UnwindStep s rules x first h2.1 hs hr (small_View' h2.2.2)
  cases k with
  | zero =>
    rw [unwF, List.append_nil] at hrr
    obtain ⟨r1, r2⟩ := hrr
    subst r1
    cases first
    all_goals
      repeat' (
        (conv => whnf)
        first
        | refine Or.inl ?_
        | refine And.intro (Obl.out (?_ : Obl _)) ?_
        | refine ifB_intro (fun h => ?_) (fun h => ?_)
        | refine Exists.intro _ (And.intro rfl ?_)
        | ((with_reducible show _ = _); rfl))
      all_goals try (
        (with_reducible refine Obl.mk ?_)
        first
        | ((with_reducible show regOk _ _ = true); kernel_rfl)
        | ((with_reducible show eqTyOk _ _ = true); kernel_rfl)
        | rfl
        | exact trivial
        | ((repeat' (first | exact trivial | refine And.intro ?_ ?_)); done)
        | decide
        | (intro r hr; simp only [List.mem_cons, List.not_mem_nil, or_false] at hr; first | (subst hr; rfl) | (rcases hr with rfl | rfl <;> rfl) | (rcases hr with rfl | rfl | rfl <;> rfl) | (rcases hr with rfl | rfl | rfl | rfl <;> rfl))
        | (refine And.intro ?_ ?_ <;> simp only [List.length_map, List.length_append, List.length_cons, List.length_nil] <;> omega))
      all_goals try (exfalso; have h' := of_decide_eq_true h; rw [hal] at h'; omega)
      all_goals try exact ⟨congrArg Tr.bool r2⟩
  | succ k =>
    match hx : unwindStep s rules x first with
    | none =>
      rw [unwF, hx] at hrr
      dsimp only at hrr
      rw [List.append_nil] at hrr
      obtain ⟨r1, r2⟩ := hrr
      subst r1
      rw [hx] at hU
      cases first
      all_goals
        repeat' (
          (conv => whnf)
          first
          | refine Or.inl ?_
          | refine And.intro (Obl.out (?_ : Obl _)) ?_
          | refine ifB_intro (fun h => ?_) (fun h => ?_)
          | refine call_intro (hU) (And.intro (And.intro rfl (And.intro rfl (And.intro rfl trivial))) (And.intro rfl (And.intro (And.intro rfl (And.intro rfl (And.intro rfl (And.intro rfl trivial)))) (And.intro rfl trivial)))) ?_
          | refine Exists.intro _ (And.intro rfl ?_)
          | ((with_reducible show _ = _); rfl))
        all_goals try (
          (with_reducible refine Obl.mk ?_)
          first
          | ((with_reducible show regOk _ _ = true); kernel_rfl)
          | ((with_reducible show eqTyOk _ _ = true); kernel_rfl)
          | rfl
          | exact trivial
          | ((repeat' (first | exact trivial | refine And.intro ?_ ?_)); done)
          | decide
          | (intro r hr; simp only [List.mem_cons, List.not_mem_nil, or_false] at hr; first | (subst hr; rfl) | (rcases hr with rfl | rfl <;> rfl) | (rcases hr with rfl | rfl | rfl <;> rfl) | (rcases hr with rfl | rfl | rfl | rfl <;> rfl))
          | (refine And.intro ?_ ?_ <;> simp only [List.length_map, List.length_append, List.length_cons, List.length_nil] <;> omega))
        all_goals try (exfalso; first | (simp at h; done) | (have h' := of_decide_eq_false h; rw [hal] at h'; omega))
        all_goals try exact ⟨congrArg Tr.bool r2⟩
    | some nx =>
      have hg := unwind_good h2.2.1 h2.2.2 hx
      rw [unwF, hx] at hrr
      dsimp only at hrr
      rw [hx] at hU
      by_cases h0 : nx.fPc = 0
      · rw [if_pos h0, List.append_nil] at hrr
        obtain ⟨r1, r2⟩ := hrr
        subst r1
        cases first
        all_goals
          repeat' (
            (conv => whnf)
            first
            | refine Or.inl ?_
            | refine And.intro (Obl.out (?_ : Obl _)) ?_
            | refine ifB_intro (fun h => ?_) (fun h => ?_)
            | refine call_intro (hU) (And.intro (And.intro rfl (And.intro rfl (And.intro rfl trivial))) (And.intro rfl (And.intro (And.intro rfl (And.intro rfl (And.intro rfl (And.intro rfl trivial)))) (And.intro rfl trivial)))) ?_
            | refine Exists.intro _ (And.intro rfl ?_)
            | ((with_reducible show _ = _); rfl))
          all_goals try (
            (with_reducible refine Obl.mk ?_)
            first
            | ((with_reducible show regOk _ _ = true); kernel_rfl)
            | ((with_reducible show eqTyOk _ _ = true); kernel_rfl)
            | rfl
            | exact trivial
            | ((repeat' (first | exact trivial | refine And.intro ?_ ?_)); done)
            | decide
            | (intro r hr; simp only [List.mem_cons, List.not_mem_nil, or_false] at hr; first | (subst hr; rfl) | (rcases hr with rfl | rfl <;> rfl) | (rcases hr with rfl | rfl | rfl <;> rfl) | (rcases hr with rfl | rfl | rfl | rfl <;> rfl))
            | (refine And.intro ?_ ?_ <;> simp only [List.length_map, List.length_append, List.length_cons, List.length_nil] <;> omega))
          all_goals try (exfalso; first | (simp at h; done) | (have h' := of_decide_eq_false h; rw [hal] at h'; omega) | (have h' : (nx.fPc == 0) = false := h; rw [h0] at h'; simp at h'))
          all_goals try exact ⟨congrArg Tr.bool r2⟩
      · rw [if_neg h0] at hrr
        cases first
        all_goals
          repeat' (
            (conv => whnf)
            first
            | refine Or.inl ?_
            | refine And.intro (Obl.out (?_ : Obl _)) ?_
            | refine ifB_intro (fun h => ?_) (fun h => ?_)
            | refine call_intro (hU) (And.intro (And.intro rfl (And.intro rfl (And.intro rfl trivial))) (And.intro rfl (And.intro (And.intro rfl (And.intro rfl (And.intro rfl (And.intro rfl trivial)))) (And.intro rfl trivial)))) ?_
            | refine Exists.intro _ (And.intro rfl ?_)
            | ((with_reducible show _ = _); rfl))
          all_goals try (
            (with_reducible refine Obl.mk ?_)
            first
            | ((with_reducible show regOk _ _ = true); kernel_rfl)
            | ((with_reducible show eqTyOk _ _ = true); kernel_rfl)
            | rfl
            | exact trivial
            | ((repeat' (first | exact trivial | refine And.intro ?_ ?_)); done)
            | decide
            | (intro r hr; simp only [List.mem_cons, List.not_mem_nil, or_false] at hr; first | (subst hr; rfl) | (rcases hr with rfl | rfl <;> rfl) | (rcases hr with rfl | rfl | rfl <;> rfl) | (rcases hr with rfl | rfl | rfl | rfl <;> rfl))
            | (refine And.intro ?_ ?_ <;> simp only [List.length_map, List.length_append, List.length_cons, List.length_nil] <;> omega))
          all_goals try (exfalso; first | (simp at h; done) | (have h' := of_decide_eq_false h; rw [hal] at h'; omega) | (have h' : (nx.fPc == 0) = true := h; exact h0 (by simpa using h')))
          all_goals try (refine ⟨?_⟩; simp only [List.length_map, List.length_cons, List.length_nil]; exact ⟨by omega, by omega⟩)
          all_goals conv => whnf
          all_goals refine ⟨⟨k, nx, acc ++ [nx.fPc], false, by simp; omega, by simp, ⟨fun e => by rw [List.length_append, List.length_cons, List.length_nil] at e; omega, fun e => by cases e⟩, hg, by rw [List.append_assoc]; exact hrr⟩, ?_, by dsimp only; omega⟩
          repeat' (
            (conv => whnf)
            first
            | refine Or.inl ?_
            | refine And.intro (Obl.out (?_ : Obl _)) ?_
            | refine ifB_intro (fun h => ?_) (fun h => ?_)
            | refine Exists.intro _ (And.intro rfl ?_)
            | ((with_reducible show _ = _); rfl))
          all_goals try (
            (with_reducible refine Obl.mk ?_)
            first
            | ((with_reducible show regOk _ _ = true); kernel_rfl)
            | ((with_reducible show eqTyOk _ _ = true); kernel_rfl)
            | rfl
            | exact trivial
            | ((repeat' (first | exact trivial | refine And.intro ?_ ?_)); done)
            | decide
            | (intro r hr; simp only [List.mem_cons, List.not_mem_nil, or_false] at hr; first | (subst hr; rfl) | (rcases hr with rfl | rfl <;> rfl) | (rcases hr with rfl | rfl | rfl <;> rfl) | (rcases hr with rfl | rfl | rfl | rfl <;> rfl))
            | (refine And.intro ?_ ?_ <;> simp only [List.length_map, List.length_append, List.length_cons, List.length_nil] <;> omega))
          all_goals try (refine ⟨?_⟩; dsimp only; rw [List.map_append]; rfl)
theorem s_spec_Unwind (s : TSpace) (rules : List (List TRule)) (v : TView) (hv : v.wf) (hs : smallR 1048576 s.tr) (hr : smallT 1048576 (.lst 1 (rules.map (lstRow 4 TRule.tr)))) (hvs : smallR 1048576 v.tr) : Sim.Spec Try.prog 14 [.agg s.tr, tvL 1 (rules.map (lstRow 4 TRule.tr)), .agg v.tr] (.tup [.c (.arr 1 ((unwind s rules v).1.map intRow)), .c (.t (.bool (unwind s rules v).2))]) := by
  refine spec_of_W hΓ hmix Try.func14 rfl (by decide) rfl ?_
  have hwl : v.fWords.length ≤ 1048576 := by have := hvs; simp only [TView.tr, smallR] at this; exact small_nat this.2.2.2.1
  obtain ⟨R, hR⟩ : ∃ R, unwind s rules v = R := ⟨_, rfl⟩
  rw [hR]
  unfold unwind at hR
  repeat' (
    (conv => whnf)
    first
    | refine Or.inl ?_
    | refine And.intro (Obl.out (?_ : Obl _)) ?_
    | refine ifB_intro (fun h => ?_) (fun h => ?_)
    | refine Exists.intro _ (And.intro rfl ?_)
    | ((with_reducible show _ = _); rfl))
  all_goals try (
    (with_reducible refine Obl.mk ?_)
    first
    | ((with_reducible show regOk _ _ = true); kernel_rfl)
    | ((with_reducible show eqTyOk _ _ = true); kernel_rfl)
    | rfl
    | exact trivial
    | ((repeat' (first | exact trivial | refine And.intro ?_ ?_)); done)
    | decide
    | (intro r hr; simp only [List.mem_cons, List.not_mem_nil, or_false] at hr; first | (subst hr; rfl) | (rcases hr with rfl | rfl <;> rfl) | (rcases hr with rfl | rfl | rfl <;> rfl) | (rcases hr with rfl | rfl | rfl | rfl <;> rfl))
    | (refine And.intro ?_ ?_ <;> simp only [List.length_map, List.length_append, List.length_cons, List.length_nil] <;> omega))
  conv => whnf
  refine ⟨UnIx s rules R, fun q => match q.first with
    | true => ⟨[(1, .r (.c (.t (.lst 1 (rules.map (lstRow 4 TRule.tr)))))), (3, .r (.c (.ptr (3, 0, 0) 0))), (5, .r (.c (.ptr (5, 0, 0) 0))), (8, .r (.c (.own (8, 0, 1))))], [((8, 0, 1), some (.arr true 1 (q.acc.map intRow))), ((5, 0, 0), some (.box [.t (.int .i64 q.x.fPc), .t (.int .i64 q.x.fSp), .t (.int .i64 q.x.fFp), .t (.lst 1 (q.x.fWords.map intRow))])), ((3, 0, 0), some (.box (s.tr.map .t)))], [13, 5, 3, 8]⟩
    | false => ⟨[(1, .r (.c (.t (.lst 1 (rules.map (lstRow 4 TRule.tr)))))), (3, .r (.c (.ptr (3, 0, 0) 0))), (5, .r (.c (.ptr (5, 0, 0) 0))), (8, .r (.c (.own (8, 0, 1))))], [((8, 0, 1), some (.arr true 1 (q.acc.map intRow))), ((5, 0, 0), some (.box [.t (.int .i64 q.x.fPc), .t (.int .i64 q.x.fSp), .t (.int .i64 q.x.fFp), .own (5, 0, 1)])), ((5, 0, 1), some (.arr true 1 (q.x.fWords.map intRow))), ((3, 0, 0), some (.box (s.tr.map .t)))], [13, 5, 3, 8]⟩,
    fun q => q.k, ⟨39, v, [v.fPc], true, rfl, by simp, by simp, ⟨hv.1, hv.2.2.2.2, hwl⟩, by rw [← hR]; exact ⟨rfl, rfl⟩⟩, ?_, ?_⟩
  · skip
    repeat' (
      (conv => whnf)
      first
      | refine Or.inl ?_
      | refine And.intro (Obl.out (?_ : Obl _)) ?_
      | refine ifB_intro (fun h => ?_) (fun h => ?_)
      | refine Exists.intro _ (And.intro rfl ?_)
      | ((with_reducible show _ = _); rfl))
    all_goals try (
      (with_reducible refine Obl.mk ?_)
      first
      | ((with_reducible show regOk _ _ = true); kernel_rfl)
      | ((with_reducible show eqTyOk _ _ = true); kernel_rfl)
      | rfl
      | exact trivial
      | ((repeat' (first | exact trivial | refine And.intro ?_ ?_)); done)
      | decide
      | (intro r hr; simp only [List.mem_cons, List.not_mem_nil, or_false] at hr; first | (subst hr; rfl) | (rcases hr with rfl | rfl <;> rfl) | (rcases hr with rfl | rfl | rfl <;> rfl) | (rcases hr with rfl | rfl | rfl | rfl <;> rfl))
      | (refine And.intro ?_ ?_ <;> simp only [List.length_map, List.length_append, List.length_cons, List.length_nil] <;> omega))
  intro ⟨k, x, acc, first, hk, hk1, h1, h2, hr0⟩
  have hrr := hr0
  have hal : (acc.map intRow).length = acc.length := by simp
  have hin : (((acc.map intRow).length : Int) == 1) = first := by
    rw [hal]
    cases first with
    | true => simp [h1.2 rfl]
    | false =>
      have : acc.length ≠ 1 := fun e => by have := h1.1 e; cases this
      simp; omega
  have hU : Sim.Spec Try.prog 60 [.agg s.tr, tvL 1 (rules.map (lstRow 4 TRule.tr)), .agg x.tr, tvB (((acc.map intRow).length : Int) == 1)] (.tup [.agg ((oV (unwindStep s rules x first)).tr.map resC), .c (.t (.bool (unwindStep s rules x first).isSome))]) := by
    rw [hin]; exact s_spec_UnwindStep s rules x first h2.1 hs hr (small_View' h2.2.2)
  cases k with
  | zero =>
    rw [unwF, List.append_nil] at hrr
    obtain ⟨r1, r2⟩ := hrr
    subst r1
    cases first
    all_goals
      repeat' (
        (conv => whnf)
        first
        | refine Or.inl ?_
        | refine And.intro (Obl.out (?_ : Obl _)) ?_
        | refine ifB_intro (fun h => ?_) (fun h => ?_)
        | refine Exists.intro _ (And.intro rfl ?_)
        | ((with_reducible show _ = _); rfl))
      all_goals try (
        (with_reducible refine Obl.mk ?_)
        first
        | ((with_reducible show regOk _ _ = true); kernel_rfl)
        | ((with_reducible show eqTyOk _ _ = true); kernel_rfl)
        | rfl
        | exact trivial
        | ((repeat' (first | exact trivial | refine And.intro ?_ ?_)); done)
        | decide
        | (intro r hr; simp only [List.mem_cons, List.not_mem_nil, or_false] at hr; first | (subst hr; rfl) | (rcases hr with rfl | rfl <;> rfl) | (rcases hr with rfl | rfl | rfl <;> rfl) | (rcases hr with rfl | rfl | rfl | rfl <;> rfl))
        | (refine And.intro ?_ ?_ <;> simp only [List.length_map, List.length_append, List.length_cons, List.length_nil] <;> omega))
      all_goals try (exfalso; have h' := of_decide_eq_true h; rw [hal] at h'; omega)
      all_goals try exact ⟨congrArg Tr.bool r2⟩
  | succ k =>
    match hx : unwindStep s rules x first with
    | none =>
      rw [unwF, hx] at hrr
      dsimp only at hrr
      rw [List.append_nil] at hrr
      obtain ⟨r1, r2⟩ := hrr
      subst r1
      rw [hx] at hU
      cases first
      all_goals
        repeat' (
          (conv => whnf)
          first
          | refine Or.inl ?_
          | refine And.intro (Obl.out (?_ : Obl _)) ?_
          | refine ifB_intro (fun h => ?_) (fun h => ?_)
          | refine call_intro (hU) (And.intro (And.intro rfl (And.intro rfl (And.intro rfl trivial))) (And.intro rfl (And.intro (And.intro rfl (And.intro rfl (And.intro rfl (And.intro rfl trivial)))) (And.intro rfl trivial)))) ?_
          | refine Exists.intro _ (And.intro rfl ?_)
          | ((with_reducible show _ = _); rfl))
        all_goals try (
          (with_reducible refine Obl.mk ?_)
          first
          | ((with_reducible show regOk _ _ = true); kernel_rfl)
          | ((with_reducible show eqTyOk _ _ = true); kernel_rfl)
          | rfl
          | exact trivial
          | ((repeat' (first | exact trivial | refine And.intro ?_ ?_)); done)
          | decide
          | (intro r hr; simp only [List.mem_cons, List.not_mem_nil, or_false] at hr; first | (subst hr; rfl) | (rcases hr with rfl | rfl <;> rfl) | (rcases hr with rfl | rfl | rfl <;> rfl) | (rcases hr with rfl | rfl | rfl | rfl <;> rfl))
          | (refine And.intro ?_ ?_ <;> simp only [List.length_map, List.length_append, List.length_cons, List.length_nil] <;> omega))
        all_goals try (exfalso; first | (simp at h; done) | (have h' := of_decide_eq_false h; rw [hal] at h'; omega))
        all_goals try exact ⟨congrArg Tr.bool r2⟩
    | some nx =>
      have hg := unwind_good h2.2.1 h2.2.2 hx
      rw [unwF, hx] at hrr
      dsimp only at hrr
      rw [hx] at hU
      by_cases h0 : nx.fPc = 0
      · rw [if_pos h0, List.append_nil] at hrr
        obtain ⟨r1, r2⟩ := hrr
        subst r1
        cases first
        all_goals
          repeat' (
            (conv => whnf)
            first
            | refine Or.inl ?_
            | refine And.intro (Obl.out (?_ : Obl _)) ?_
            | refine ifB_intro (fun h => ?_) (fun h => ?_)
            | refine call_intro (hU) (And.intro (And.intro rfl (And.intro rfl (And.intro rfl trivial))) (And.intro rfl (And.intro (And.intro rfl (And.intro rfl (And.intro rfl (And.intro rfl trivial)))) (And.intro rfl trivial)))) ?_
            | refine Exists.intro _ (And.intro rfl ?_)
            | ((with_reducible show _ = _); rfl))
          all_goals try (
            (with_reducible refine Obl.mk ?_)
            first
            | ((with_reducible show regOk _ _ = true); kernel_rfl)
            | ((with_reducible show eqTyOk _ _ = true); kernel_rfl)
            | rfl
            | exact trivial
            | ((repeat' (first | exact trivial | refine And.intro ?_ ?_)); done)
            | decide
            | (intro r hr; simp only [List.mem_cons, List.not_mem_nil, or_false] at hr; first | (subst hr; rfl) | (rcases hr with rfl | rfl <;> rfl) | (rcases hr with rfl | rfl | rfl <;> rfl) | (rcases hr with rfl | rfl | rfl | rfl <;> rfl))
            | (refine And.intro ?_ ?_ <;> simp only [List.length_map, List.length_append, List.length_cons, List.length_nil] <;> omega))
          all_goals try (exfalso; first | (simp at h; done) | (have h' := of_decide_eq_false h; rw [hal] at h'; omega) | (have h' : (nx.fPc == 0) = false := h; rw [h0] at h'; simp at h'))
          all_goals try exact ⟨congrArg Tr.bool r2⟩
      · rw [if_neg h0] at hrr
        cases first
        all_goals
          repeat' (
            (conv => whnf)
            first
            | refine Or.inl ?_
            | refine And.intro (Obl.out (?_ : Obl _)) ?_
            | refine ifB_intro (fun h => ?_) (fun h => ?_)
            | refine call_intro (hU) (And.intro (And.intro rfl (And.intro rfl (And.intro rfl trivial))) (And.intro rfl (And.intro (And.intro rfl (And.intro rfl (And.intro rfl (And.intro rfl trivial)))) (And.intro rfl trivial)))) ?_
            | refine Exists.intro _ (And.intro rfl ?_)
            | ((with_reducible show _ = _); rfl))
          all_goals try (
            (with_reducible refine Obl.mk ?_)
            first
            | ((with_reducible show regOk _ _ = true); kernel_rfl)
            | ((with_reducible show eqTyOk _ _ = true); kernel_rfl)
            | rfl
            | exact trivial
            | ((repeat' (first | exact trivial | refine And.intro ?_ ?_)); done)
            | decide
            | (intro r hr; simp only [List.mem_cons, List.not_mem_nil, or_false] at hr; first | (subst hr; rfl) | (rcases hr with rfl | rfl <;> rfl) | (rcases hr with rfl | rfl | rfl <;> rfl) | (rcases hr with rfl | rfl | rfl | rfl <;> rfl))
            | (refine And.intro ?_ ?_ <;> simp only [List.length_map, List.length_append, List.length_cons, List.length_nil] <;> omega))
          all_goals try (exfalso; first | (simp at h; done) | (have h' := of_decide_eq_false h; rw [hal] at h'; omega) | (have h' : (nx.fPc == 0) = true := h; exact h0 (by simpa using h')))
          all_goals try (refine ⟨?_⟩; simp only [List.length_map, List.length_cons, List.length_nil]; exact ⟨by omega, by omega⟩)
          all_goals conv => whnf
          all_goals refine ⟨⟨k, nx, acc ++ [nx.fPc], false, by simp; omega, by simp, ⟨fun e => by rw [List.length_append, List.length_cons, List.length_nil] at e; omega, fun e => by cases e⟩, hg, by rw [List.append_assoc]; exact hrr⟩, ?_, by dsimp only; omega⟩
          repeat' (
            (conv => whnf)
            first
            | refine Or.inl ?_
            | refine And.intro (Obl.out (?_ : Obl _)) ?_
            | refine ifB_intro (fun h => ?_) (fun h => ?_)
            | refine Exists.intro _ (And.intro rfl ?_)
            | ((with_reducible show _ = _); rfl))
          all_goals try (
            (with_reducible refine Obl.mk ?_)
            first
            | ((with_reducible show regOk _ _ = true); kernel_rfl)
            | ((with_reducible show eqTyOk _ _ = true); kernel_rfl)
            | rfl
            | exact trivial
            | ((repeat' (first | exact trivial | refine And.intro ?_ ?_)); done)
            | decide
            | (intro r hr; simp only [List.mem_cons, List.not_mem_nil, or_false] at hr; first | (subst hr; rfl) | (rcases hr with rfl | rfl <;> rfl) | (rcases hr with rfl | rfl | rfl <;> rfl) | (rcases hr with rfl | rfl | rfl | rfl <;> rfl))
            | (refine And.intro ?_ ?_ <;> simp only [List.length_map, List.length_append, List.length_cons, List.length_nil] <;> omega))
          all_goals try (refine ⟨?_⟩; dsimp only; rw [List.map_append]; rfl)
end Go.Proofs.Ytflolafbblohnaa
