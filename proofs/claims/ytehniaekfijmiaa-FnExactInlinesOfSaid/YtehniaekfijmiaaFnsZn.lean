/- InlinesOf in both texts. -/
import Derived.Test.YtehniaekfijmiaaPlC
import Derived.Test.YtehniaekfijmiaaSimV
namespace Go.Proofs.Ytehniaekfijmiaa
open Go.Sim
set_option maxRecDepth 100000
set_option maxHeartbeats 4000000
theorem s_slices_EqualI (l m : List Int) (hl : l.length ≤ 1048576) (hm : m.length ≤ 1048576) : Sim.Spec Try.prog 103 [tvL 1 (l.map intRow), tvL 1 (m.map intRow)] (rB (l == m)) := by
  refine spec_of_Wo hΓ hmix Try.func103 rfl (by decide) rfl ?_
  have h1 : (l.map intRow).length = l.length := by simp
  have h2 : (m.map intRow).length = m.length := by simp
  by_cases hlen : l.length = m.length
  · obtain ⟨R, hR⟩ : ∃ R, (l == m) = R := ⟨_, rfl⟩
    rw [hR]
    repeat' ((conv => whnf); first | (with_reducible first | refine W1 ?_ | refine W2 ?_ | refine W3 ?_ | refine W4 ?_ | refine W5 ?_ | refine W6 ?_ | refine W7 ?_ | refine W8 ?_ | refine W9 ?_) | refine reg_inl ?_ | refine And.intro (Obl.out (?_ : Obl _)) ?_ | refine ifB_intro (fun h => ?_) (fun h => ?_) | refine Exists.intro _ (And.intro rfl ?_) | ((with_reducible show _ = _); rfl))
    all_goals try ((with_reducible refine Obl.mk ?_); first | ((with_reducible show regOk _ _ = true); kernel_rfl) | rfl | exact trivial | ((repeat' (first | exact trivial | refine And.intro ?_ ?_)); done) | decide | ((repeat' (first | exact List.forall_mem_nil _ | refine Wm rfl ?_)); done))
    all_goals try (exfalso; rw [h1, h2, hlen] at h; simp at h; done)
    conv => whnf
    refine ⟨{ k : Nat // k ≤ l.length ∧ (l.drop k == m.drop k) = R }, fun k => ⟨[(0, .r (.c (.t (.lst 1 (l.map intRow))))), (1, .r (.c (.t (.lst 1 (m.map intRow))))), (12, tI .i64 ((l.map intRow).length : Int)), (13, tI .i64 (k.1 : Int))], [], []⟩, fun k => l.length - k.1, ⟨0, by omega, hR⟩, ?_, ?_⟩
    · skip
      repeat' ((conv => whnf); first | (with_reducible first | refine W1 ?_ | refine W2 ?_ | refine W3 ?_ | refine W4 ?_ | refine W5 ?_ | refine W6 ?_ | refine W7 ?_ | refine W8 ?_ | refine W9 ?_) | refine reg_inl ?_ | refine And.intro (Obl.out (?_ : Obl _)) ?_ | refine ifB_intro (fun h => ?_) (fun h => ?_) | refine Exists.intro _ (And.intro rfl ?_) | ((with_reducible show _ = _); rfl))
      all_goals try ((with_reducible refine Obl.mk ?_); first | ((with_reducible show regOk _ _ = true); kernel_rfl) | rfl | exact trivial | ((repeat' (first | exact trivial | refine And.intro ?_ ?_)); done) | decide | ((repeat' (first | exact List.forall_mem_nil _ | refine Wm rfl ?_)); done))
    intro ⟨k, hk, hr⟩
    dsimp only at hk hr ⊢
    by_cases hlt : k < l.length
    · obtain ⟨x, hx⟩ := get_of_lt hlt
      obtain ⟨y, hy⟩ := get_of_lt (l := m) (k := k) (by omega)
      rw [drop_at hx, drop_at hy, List.cons_beq_cons] at hr
      by_cases he : x = y
      · rw [beq_iff_eq.2 he, Bool.true_and] at hr
        repeat' ((conv => whnf); first | (with_reducible first | refine W1 ?_ | refine W2 ?_ | refine W3 ?_ | refine W4 ?_ | refine W5 ?_ | refine W6 ?_ | refine W7 ?_ | refine W8 ?_ | refine W9 ?_) | refine reg_inl ?_ | refine And.intro (Obl.out (?_ : Obl _)) ?_ | refine ifB_intro (fun h => ?_) (fun h => ?_) | refine ⟨k, (intRow x), rfl, map_get hx, ?_⟩ | refine ⟨k, (intRow y), rfl, map_get hy, ?_⟩ | refine Exists.intro _ (And.intro rfl ?_) | ((with_reducible show _ = _); rfl))
        all_goals try ((with_reducible refine Obl.mk ?_); first | ((with_reducible show regOk _ _ = true); kernel_rfl) | rfl | exact trivial | ((repeat' (first | exact trivial | refine And.intro ?_ ?_)); done) | decide | ((repeat' (first | exact List.forall_mem_nil _ | refine Wm rfl ?_)); done))
        all_goals try (exfalso; simp only [decide_eq_false_iff_not, decide_eq_true_eq] at *; omega)
        all_goals try (exfalso; simp_all; done)
        conv => whnf
        refine ⟨⟨k + 1, by omega, hr⟩, ?_, by dsimp only; omega⟩
        repeat' ((conv => whnf); first | (with_reducible first | refine W1 ?_ | refine W2 ?_ | refine W3 ?_ | refine W4 ?_ | refine W5 ?_ | refine W6 ?_ | refine W7 ?_ | refine W8 ?_ | refine W9 ?_) | refine reg_inl ?_ | refine And.intro (Obl.out (?_ : Obl _)) ?_ | refine ifB_intro (fun h => ?_) (fun h => ?_) | refine Exists.intro _ (And.intro rfl ?_) | ((with_reducible show _ = _); rfl))
        all_goals try ((with_reducible refine Obl.mk ?_); first | ((with_reducible show regOk _ _ = true); kernel_rfl) | rfl | exact trivial | ((repeat' (first | exact trivial | refine And.intro ?_ ?_)); done) | decide | ((repeat' (first | exact List.forall_mem_nil _ | refine Wm rfl ?_)); done))
        all_goals try exact ⟨by dsimp only; rw [IntWalk.i64_in _ (by omega)]; rfl⟩
      · rw [beq_eq_false_iff_ne.2 he, Bool.false_and] at hr
        subst hr
        repeat' ((conv => whnf); first | (with_reducible first | refine W1 ?_ | refine W2 ?_ | refine W3 ?_ | refine W4 ?_ | refine W5 ?_ | refine W6 ?_ | refine W7 ?_ | refine W8 ?_ | refine W9 ?_) | refine reg_inl ?_ | refine And.intro (Obl.out (?_ : Obl _)) ?_ | refine ifB_intro (fun h => ?_) (fun h => ?_) | refine ⟨k, (intRow x), rfl, map_get hx, ?_⟩ | refine ⟨k, (intRow y), rfl, map_get hy, ?_⟩ | refine Exists.intro _ (And.intro rfl ?_) | ((with_reducible show _ = _); rfl))
        all_goals try ((with_reducible refine Obl.mk ?_); first | ((with_reducible show regOk _ _ = true); kernel_rfl) | rfl | exact trivial | ((repeat' (first | exact trivial | refine And.intro ?_ ?_)); done) | decide | ((repeat' (first | exact List.forall_mem_nil _ | refine Wm rfl ?_)); done))
        all_goals try (exfalso; simp only [decide_eq_false_iff_not, decide_eq_true_eq] at *; omega)
        all_goals try (exfalso; simp_all; done)
    · rw [List.drop_eq_nil_of_le (by omega), List.drop_eq_nil_of_le (by omega)] at hr
      have hr : true = R := hr
      subst hr
      repeat' ((conv => whnf); first | (with_reducible first | refine W1 ?_ | refine W2 ?_ | refine W3 ?_ | refine W4 ?_ | refine W5 ?_ | refine W6 ?_ | refine W7 ?_ | refine W8 ?_ | refine W9 ?_) | refine reg_inl ?_ | refine And.intro (Obl.out (?_ : Obl _)) ?_ | refine ifB_intro (fun h => ?_) (fun h => ?_) | refine Exists.intro _ (And.intro rfl ?_) | ((with_reducible show _ = _); rfl))
      all_goals try ((with_reducible refine Obl.mk ?_); first | ((with_reducible show regOk _ _ = true); kernel_rfl) | rfl | exact trivial | ((repeat' (first | exact trivial | refine And.intro ?_ ?_)); done) | decide | ((repeat' (first | exact List.forall_mem_nil _ | refine Wm rfl ?_)); done))
      all_goals try (exfalso; simp only [decide_eq_false_iff_not, decide_eq_true_eq] at *; omega)
  · have : (l == m) = false := by rw [beq_eq_false_iff_ne]; intro e; exact hlen (by rw [e])
    rw [this]
    repeat' ((conv => whnf); first | (with_reducible first | refine W1 ?_ | refine W2 ?_ | refine W3 ?_ | refine W4 ?_ | refine W5 ?_ | refine W6 ?_ | refine W7 ?_ | refine W8 ?_ | refine W9 ?_) | refine reg_inl ?_ | refine And.intro (Obl.out (?_ : Obl _)) ?_ | refine ifB_intro (fun h => ?_) (fun h => ?_) | refine Exists.intro _ (And.intro rfl ?_) | ((with_reducible show _ = _); rfl))
    all_goals try ((with_reducible refine Obl.mk ?_); first | ((with_reducible show regOk _ _ = true); kernel_rfl) | rfl | exact trivial | ((repeat' (first | exact trivial | refine And.intro ?_ ?_)); done) | decide | ((repeat' (first | exact List.forall_mem_nil _ | refine Wm rfl ?_)); done))
    all_goals (exfalso; rw [h1, h2] at h; simp at h; omega)
theorem s_impl_nameAt (p : List TLine) (x : TItem) (lv : Nat) (hp : p.length ≤ 1048576) (hlv : lv ≤ 1048576) : Sim.Spec Try.prog 102 [tvP p, .agg x.tr, tvI lv] (rS (nameAtI p x lv)) := by
  refine spec_of_Wo hΓ hmix Try.func102 rfl (by decide) rfl ?_
  have hcl : (x.fChain.map intRow).length = x.fChain.length := by simp
  have hwl : IntKind.i64.wrap ((lv : Int) + 1) = ((lv + 1 : Nat) : Int) := by rw [IntWalk.i64_in _ (by omega)]; omega
  unfold nameAtI
  by_cases hlt : lv + 1 < x.fChain.length
  · obtain ⟨c, hc⟩ := get_of_lt hlt
    rw [hc]
    have hF := s_impl_FunctionOfLine p c hp
    dsimp only
    generalize functionOfLine p c = nm at *
    repeat' ((conv => whnf); first | (with_reducible first | refine W1 ?_ | refine W2 ?_ | refine W3 ?_ | refine W4 ?_ | refine W5 ?_ | refine W6 ?_ | refine W7 ?_ | refine W8 ?_ | refine W9 ?_) | refine reg_inl ?_ | refine And.intro (Obl.out (?_ : Obl _)) ?_ | refine ifB_intro (fun h => ?_) (fun h => ?_) | refine ⟨(lv + 1), (intRow c), hwl, map_get hc, ?_⟩ | refine Or.inl (call_intro (hF) (And.intro rfl (And.intro rfl trivial)) ?_) | refine Exists.intro _ (And.intro rfl ?_) | ((with_reducible show _ = _); rfl))
    all_goals try ((with_reducible refine Obl.mk ?_); first | ((with_reducible show regOk _ _ = true); kernel_rfl) | rfl | exact trivial | ((repeat' (first | exact trivial | refine And.intro ?_ ?_)); done) | decide | ((repeat' (first | exact List.forall_mem_nil _ | refine Wm rfl ?_)); done))
    all_goals try (exfalso; have h' := of_decide_eq_false h; rw [hwl] at h'; omega)
  · rw [List.getElem?_eq_none (by omega)]
    have hF := s_impl_FunctionOfLine p x.fLine hp
    dsimp only
    generalize functionOfLine p x.fLine = nm at *
    repeat' ((conv => whnf); first | (with_reducible first | refine W1 ?_ | refine W2 ?_ | refine W3 ?_ | refine W4 ?_ | refine W5 ?_ | refine W6 ?_ | refine W7 ?_ | refine W8 ?_ | refine W9 ?_) | refine reg_inl ?_ | refine And.intro (Obl.out (?_ : Obl _)) ?_ | refine ifB_intro (fun h => ?_) (fun h => ?_) | refine Or.inl (call_intro (hF) (And.intro rfl (And.intro rfl trivial)) ?_) | refine Exists.intro _ (And.intro rfl ?_) | ((with_reducible show _ = _); rfl))
    all_goals try ((with_reducible refine Obl.mk ?_); first | ((with_reducible show regOk _ _ = true); kernel_rfl) | rfl | exact trivial | ((repeat' (first | exact trivial | refine And.intro ?_ ?_)); done) | decide | ((repeat' (first | exact List.forall_mem_nil _ | refine Wm rfl ?_)); done))
    all_goals try (exfalso; have h' := of_decide_eq_true h; rw [hwl] at h'; omega)
theorem s_spec_l16Name (p : List TLine) (x : TPlace) (lv : Nat) (hp : p.length ≤ 1048576) (hlv : lv ≤ 1048576) : Sim.Spec Try.prog 99 [tvP p, .agg x.tr, tvI lv] (rS (nameAtI p x.fItem lv)) := by
  refine spec_of_Wo hΓ hmix Try.func99 rfl (by decide) rfl ?_
  have hcl : (x.fItem.fChain.map intRow).length = x.fItem.fChain.length := by simp
  have hwl : IntKind.i64.wrap ((lv : Int) + 1) = ((lv + 1 : Nat) : Int) := by rw [IntWalk.i64_in _ (by omega)]; omega
  unfold nameAtI
  by_cases hlt : lv + 1 < x.fItem.fChain.length
  · obtain ⟨c, hc⟩ := get_of_lt hlt
    rw [hc]
    have hF := s_spec_FunctionOfLine p c hp
    dsimp only
    generalize functionOfLine p c = nm at *
    repeat' ((conv => whnf); first | (with_reducible first | refine W1 ?_ | refine W2 ?_ | refine W3 ?_ | refine W4 ?_ | refine W5 ?_ | refine W6 ?_ | refine W7 ?_ | refine W8 ?_ | refine W9 ?_) | refine reg_inl ?_ | refine And.intro (Obl.out (?_ : Obl _)) ?_ | refine ifB_intro (fun h => ?_) (fun h => ?_) | refine ⟨(lv + 1), (intRow c), hwl, map_get hc, ?_⟩ | refine Or.inl (call_intro (hF) (And.intro rfl (And.intro rfl trivial)) ?_) | refine Exists.intro _ (And.intro rfl ?_) | ((with_reducible show _ = _); rfl))
    all_goals try ((with_reducible refine Obl.mk ?_); first | ((with_reducible show regOk _ _ = true); kernel_rfl) | rfl | exact trivial | ((repeat' (first | exact trivial | refine And.intro ?_ ?_)); done) | decide | ((repeat' (first | exact List.forall_mem_nil _ | refine Wm rfl ?_)); done))
    all_goals try (exfalso; have h' := of_decide_eq_false h; rw [hwl] at h'; omega)
  · rw [List.getElem?_eq_none (by omega)]
    have hF := s_spec_FunctionOfLine p x.fItem.fLine hp
    dsimp only
    generalize functionOfLine p x.fItem.fLine = nm at *
    repeat' ((conv => whnf); first | (with_reducible first | refine W1 ?_ | refine W2 ?_ | refine W3 ?_ | refine W4 ?_ | refine W5 ?_ | refine W6 ?_ | refine W7 ?_ | refine W8 ?_ | refine W9 ?_) | refine reg_inl ?_ | refine And.intro (Obl.out (?_ : Obl _)) ?_ | refine ifB_intro (fun h => ?_) (fun h => ?_) | refine Or.inl (call_intro (hF) (And.intro rfl (And.intro rfl trivial)) ?_) | refine Exists.intro _ (And.intro rfl ?_) | ((with_reducible show _ = _); rfl))
    all_goals try ((with_reducible refine Obl.mk ?_); first | ((with_reducible show regOk _ _ = true); kernel_rfl) | rfl | exact trivial | ((repeat' (first | exact trivial | refine And.intro ?_ ?_)); done) | decide | ((repeat' (first | exact List.forall_mem_nil _ | refine Wm rfl ?_)); done))
    all_goals try (exfalso; have h' := of_decide_eq_true h; rw [hwl] at h'; omega)
theorem s_impl_endOfPlace (x : TPlace) (h0 : 0 ≤ x.fOffset) (h1 : x.fOffset ≤ 1000000) : Sim.Spec Try.prog 104 [.agg x.tr] (rI (endPl x)) := by
  refine spec_of_Wo hΓ hmix Try.func104 rfl (by decide) rfl ?_
  have hS := s_impl_OpSize x.fItem.fOp.fCode
  have hle := opSize_le x.fItem.fOp.fCode
  unfold endPl
  generalize opSize x.fItem.fOp.fCode = z at *
  repeat' ((conv => whnf); first | (with_reducible first | refine W1 ?_ | refine W2 ?_ | refine W3 ?_ | refine W4 ?_ | refine W5 ?_ | refine W6 ?_ | refine W7 ?_ | refine W8 ?_ | refine W9 ?_) | refine reg_inl ?_ | refine And.intro (Obl.out (?_ : Obl _)) ?_ | refine ifB_intro (fun h => ?_) (fun h => ?_) | refine Or.inl (call_intro (hS) (And.intro rfl trivial) ?_) | refine Exists.intro _ (And.intro rfl ?_) | ((with_reducible show _ = _); rfl))
  all_goals try ((with_reducible refine Obl.mk ?_); first | ((with_reducible show regOk _ _ = true); kernel_rfl) | rfl | exact trivial | ((repeat' (first | exact trivial | refine And.intro ?_ ?_)); done) | decide | ((repeat' (first | exact List.forall_mem_nil _ | refine Wm rfl ?_)); done))
  all_goals exact ⟨by rw [IntWalk.i64_in _ (by omega)]⟩
def sameTo (a b : List Int) (n : Nat) : Bool := decide (n ≤ a.length) && (decide (n ≤ b.length) && (a.take n == b.take n))
theorem take_beq {a b : List Int} {k n : Nat} {x y : Int} (hx : a[k]? = some x) (hy : b[k]? = some y) (hkn : k < n) : ((a.take n).drop k == (b.take n).drop k) = ((x == y) && ((a.take n).drop (k + 1) == (b.take n).drop (k + 1))) := by
  rw [drop_at (l := a.take n) (k := k) (x := x) (by rw [List.getElem?_take, if_pos hkn]; exact hx), drop_at (l := b.take n) (k := k) (x := y) (by rw [List.getElem?_take, if_pos hkn]; exact hy), List.cons_beq_cons]
theorem s_spec_l16Same (a b : List Int) (n : Nat) (ha : a.length ≤ 1048576) (hb : b.length ≤ 1048576) : Sim.Spec Try.prog 100 [tvL 1 (a.map intRow), tvL 1 (b.map intRow), tvI n] (rB (sameTo a b n)) := by
  refine spec_of_Wo hΓ hmix Try.func100 rfl (by decide) rfl ?_
  have h1 : (a.map intRow).length = a.length := by simp
  have h2 : (b.map intRow).length = b.length := by simp
  unfold sameTo
  by_cases hna : n ≤ a.length
  · rw [decide_eq_true hna, Bool.true_and]
    by_cases hnb : n ≤ b.length
    · rw [decide_eq_true hnb, Bool.true_and]
      obtain ⟨R, hR⟩ : ∃ R, (a.take n == b.take n) = R := ⟨_, rfl⟩
      rw [hR]
      repeat' ((conv => whnf); first | (with_reducible first | refine W1 ?_ | refine W2 ?_ | refine W3 ?_ | refine W4 ?_ | refine W5 ?_ | refine W6 ?_ | refine W7 ?_ | refine W8 ?_ | refine W9 ?_) | refine reg_inl ?_ | refine And.intro (Obl.out (?_ : Obl _)) ?_ | refine ifB_intro (fun h => ?_) (fun h => ?_) | refine Exists.intro _ (And.intro rfl ?_) | ((with_reducible show _ = _); rfl))
      all_goals try ((with_reducible refine Obl.mk ?_); first | ((with_reducible show regOk _ _ = true); kernel_rfl) | rfl | exact trivial | ((repeat' (first | exact trivial | refine And.intro ?_ ?_)); done) | decide | ((repeat' (first | exact List.forall_mem_nil _ | refine Wm rfl ?_)); done))
      all_goals try (exfalso; simp only [decide_eq_false_iff_not, decide_eq_true_eq] at *; omega)
      conv => whnf
      refine ⟨{ k : Nat // k ≤ n ∧ ((a.take n).drop k == (b.take n).drop k) = R }, fun k => ⟨[(0, .r (.c (.t (.lst 1 (a.map intRow))))), (1, .r (.c (.t (.lst 1 (b.map intRow))))), (2, tI .i64 (n : Int)), (7, tI .i64 (k.1 : Int))], [], []⟩, fun k => n - k.1, ⟨0, by omega, hR⟩, ?_, ?_⟩
      · skip
        repeat' ((conv => whnf); first | (with_reducible first | refine W1 ?_ | refine W2 ?_ | refine W3 ?_ | refine W4 ?_ | refine W5 ?_ | refine W6 ?_ | refine W7 ?_ | refine W8 ?_ | refine W9 ?_) | refine reg_inl ?_ | refine And.intro (Obl.out (?_ : Obl _)) ?_ | refine ifB_intro (fun h => ?_) (fun h => ?_) | refine Exists.intro _ (And.intro rfl ?_) | ((with_reducible show _ = _); rfl))
        all_goals try ((with_reducible refine Obl.mk ?_); first | ((with_reducible show regOk _ _ = true); kernel_rfl) | rfl | exact trivial | ((repeat' (first | exact trivial | refine And.intro ?_ ?_)); done) | decide | ((repeat' (first | exact List.forall_mem_nil _ | refine Wm rfl ?_)); done))
      intro ⟨k, hk, hr⟩
      dsimp only at hk hr ⊢
      by_cases hlt : k < n
      · obtain ⟨x, hx⟩ := get_of_lt (l := a) (k := k) (by omega)
        obtain ⟨y, hy⟩ := get_of_lt (l := b) (k := k) (by omega)
        rw [take_beq hx hy hlt] at hr
        by_cases he : x = y
        · rw [beq_iff_eq.2 he, Bool.true_and] at hr
          repeat' ((conv => whnf); first | (with_reducible first | refine W1 ?_ | refine W2 ?_ | refine W3 ?_ | refine W4 ?_ | refine W5 ?_ | refine W6 ?_ | refine W7 ?_ | refine W8 ?_ | refine W9 ?_) | refine reg_inl ?_ | refine And.intro (Obl.out (?_ : Obl _)) ?_ | refine ifB_intro (fun h => ?_) (fun h => ?_) | refine ⟨k, (intRow x), rfl, map_get hx, ?_⟩ | refine ⟨k, (intRow y), rfl, map_get hy, ?_⟩ | refine Exists.intro _ (And.intro rfl ?_) | ((with_reducible show _ = _); rfl))
          all_goals try ((with_reducible refine Obl.mk ?_); first | ((with_reducible show regOk _ _ = true); kernel_rfl) | rfl | exact trivial | ((repeat' (first | exact trivial | refine And.intro ?_ ?_)); done) | decide | ((repeat' (first | exact List.forall_mem_nil _ | refine Wm rfl ?_)); done))
          all_goals try (exfalso; simp only [decide_eq_false_iff_not, decide_eq_true_eq] at *; omega)
          all_goals try (exfalso; simp_all; done)
          conv => whnf
          refine ⟨⟨k + 1, by omega, hr⟩, ?_, by dsimp only; omega⟩
          repeat' ((conv => whnf); first | (with_reducible first | refine W1 ?_ | refine W2 ?_ | refine W3 ?_ | refine W4 ?_ | refine W5 ?_ | refine W6 ?_ | refine W7 ?_ | refine W8 ?_ | refine W9 ?_) | refine reg_inl ?_ | refine And.intro (Obl.out (?_ : Obl _)) ?_ | refine ifB_intro (fun h => ?_) (fun h => ?_) | refine Exists.intro _ (And.intro rfl ?_) | ((with_reducible show _ = _); rfl))
          all_goals try ((with_reducible refine Obl.mk ?_); first | ((with_reducible show regOk _ _ = true); kernel_rfl) | rfl | exact trivial | ((repeat' (first | exact trivial | refine And.intro ?_ ?_)); done) | decide | ((repeat' (first | exact List.forall_mem_nil _ | refine Wm rfl ?_)); done))
          all_goals try exact ⟨by dsimp only; rw [IntWalk.i64_in _ (by omega)]; rfl⟩
        · rw [beq_eq_false_iff_ne.2 he, Bool.false_and] at hr
          subst hr
          repeat' ((conv => whnf); first | (with_reducible first | refine W1 ?_ | refine W2 ?_ | refine W3 ?_ | refine W4 ?_ | refine W5 ?_ | refine W6 ?_ | refine W7 ?_ | refine W8 ?_ | refine W9 ?_) | refine reg_inl ?_ | refine And.intro (Obl.out (?_ : Obl _)) ?_ | refine ifB_intro (fun h => ?_) (fun h => ?_) | refine ⟨k, (intRow x), rfl, map_get hx, ?_⟩ | refine ⟨k, (intRow y), rfl, map_get hy, ?_⟩ | refine Exists.intro _ (And.intro rfl ?_) | ((with_reducible show _ = _); rfl))
          all_goals try ((with_reducible refine Obl.mk ?_); first | ((with_reducible show regOk _ _ = true); kernel_rfl) | rfl | exact trivial | ((repeat' (first | exact trivial | refine And.intro ?_ ?_)); done) | decide | ((repeat' (first | exact List.forall_mem_nil _ | refine Wm rfl ?_)); done))
          all_goals try (exfalso; simp only [decide_eq_false_iff_not, decide_eq_true_eq] at *; omega)
          all_goals try (exfalso; simp_all; done)
      · rw [List.drop_eq_nil_of_le (by simp; omega), List.drop_eq_nil_of_le (by simp; omega)] at hr
        have hr : true = R := hr
        subst hr
        repeat' ((conv => whnf); first | (with_reducible first | refine W1 ?_ | refine W2 ?_ | refine W3 ?_ | refine W4 ?_ | refine W5 ?_ | refine W6 ?_ | refine W7 ?_ | refine W8 ?_ | refine W9 ?_) | refine reg_inl ?_ | refine And.intro (Obl.out (?_ : Obl _)) ?_ | refine ifB_intro (fun h => ?_) (fun h => ?_) | refine Exists.intro _ (And.intro rfl ?_) | ((with_reducible show _ = _); rfl))
        all_goals try ((with_reducible refine Obl.mk ?_); first | ((with_reducible show regOk _ _ = true); kernel_rfl) | rfl | exact trivial | ((repeat' (first | exact trivial | refine And.intro ?_ ?_)); done) | decide | ((repeat' (first | exact List.forall_mem_nil _ | refine Wm rfl ?_)); done))
        all_goals try (exfalso; simp only [decide_eq_false_iff_not, decide_eq_true_eq] at *; omega)
    · rw [decide_eq_false hnb, Bool.false_and]
      repeat' ((conv => whnf); first | (with_reducible first | refine W1 ?_ | refine W2 ?_ | refine W3 ?_ | refine W4 ?_ | refine W5 ?_ | refine W6 ?_ | refine W7 ?_ | refine W8 ?_ | refine W9 ?_) | refine reg_inl ?_ | refine And.intro (Obl.out (?_ : Obl _)) ?_ | refine ifB_intro (fun h => ?_) (fun h => ?_) | refine Exists.intro _ (And.intro rfl ?_) | ((with_reducible show _ = _); rfl))
      all_goals try ((with_reducible refine Obl.mk ?_); first | ((with_reducible show regOk _ _ = true); kernel_rfl) | rfl | exact trivial | ((repeat' (first | exact trivial | refine And.intro ?_ ?_)); done) | decide | ((repeat' (first | exact List.forall_mem_nil _ | refine Wm rfl ?_)); done))
      all_goals try (exfalso; simp only [decide_eq_false_iff_not, decide_eq_true_eq] at *; omega)
  · rw [decide_eq_false hna, Bool.false_and]
    repeat' ((conv => whnf); first | (with_reducible first | refine W1 ?_ | refine W2 ?_ | refine W3 ?_ | refine W4 ?_ | refine W5 ?_ | refine W6 ?_ | refine W7 ?_ | refine W8 ?_ | refine W9 ?_) | refine reg_inl ?_ | refine And.intro (Obl.out (?_ : Obl _)) ?_ | refine ifB_intro (fun h => ?_) (fun h => ?_) | refine Exists.intro _ (And.intro rfl ?_) | ((with_reducible show _ = _); rfl))
    all_goals try ((with_reducible refine Obl.mk ?_); first | ((with_reducible show regOk _ _ = true); kernel_rfl) | rfl | exact trivial | ((repeat' (first | exact trivial | refine And.intro ?_ ?_)); done) | decide | ((repeat' (first | exact List.forall_mem_nil _ | refine Wm rfl ?_)); done))
    all_goals try (exfalso; simp only [decide_eq_false_iff_not, decide_eq_true_eq] at *; omega)
abbrev vPl (l : List TPlace) : AV := .r (.c (.t (.lst 8 (l.map TPlace.tr))))
theorem chain_small {x : TPlace} (hs : smallR 1048576 x.tr) : x.fItem.fChain.length ≤ 1048576 := by
  have : smallT 1048576 (.lst 1 (x.fItem.fChain.map intRow)) := by
    unfold TPlace.tr at hs
    simp only [TItem.tr, List.cons_append, smallR] at hs
    exact hs.2.2.2.2.2.1
  have := small_len this
  omega
theorem s_impl_InlinesOf (p : List TLine) (l : List TPlace) (hp : smallT 1048576 (.lst 4 (p.map TLine.tr))) (hl : smallT 1048576 (.lst 8 (l.map TPlace.tr))) (hch : chains l ≤ 1048576) : Sim.Spec Try.prog 34 [tvP p, tvL 8 (l.map TPlace.tr)] (rL 5 ((inlinesOf p l).map TInline.tr)) := by
  refine spec_of_Wo hΓ hmix Try.func34 rfl (by decide) rfl ?_
  have hP := s_impl_ProgramOk p hp
  have hpl := small_nat hp
  have hll := small_nat hl
  have hlen : (l.map TPlace.tr).length = l.length := by simp
  have hcs : ∀ x ∈ l, x.fItem.fChain.length ≤ 1048576 := fun x hx => chain_small (smallRs_map hl hx)
  cases hpo : programOk p with
  | false =>
    rw [hpo] at hP
    have : inlinesOf p l = [] := by rw [inlinesOf, if_neg (by simp [hpo])]
    rw [this]
    repeat' ((conv => whnf); first | (with_reducible first | refine W1 ?_ | refine W2 ?_ | refine W3 ?_ | refine W4 ?_ | refine W5 ?_ | refine W6 ?_ | refine W7 ?_ | refine W8 ?_ | refine W9 ?_) | refine reg_inl ?_ | refine And.intro (Obl.out (?_ : Obl _)) ?_ | refine ifB_intro (fun h => ?_) (fun h => ?_) | refine Or.inl (call_intro (hP) (And.intro rfl trivial) ?_) | refine Exists.intro _ (And.intro rfl ?_) | ((with_reducible show _ = _); rfl))
    all_goals try ((with_reducible refine Obl.mk ?_); first | ((with_reducible show regOk _ _ = true); kernel_rfl) | rfl | exact trivial | ((repeat' (first | exact trivial | refine And.intro ?_ ?_)); done) | decide | ((repeat' (first | exact List.forall_mem_nil _ | refine Wm rfl ?_)); done))
    all_goals try (exfalso; simp only [decide_eq_false_iff_not, decide_eq_true_eq] at *; omega)
  | true =>
    rw [hpo] at hP
    cases hnr : near l with
    | false =>
      have : inlinesOf p l = [] := by rw [inlinesOf, if_neg (by simp [hnr])]
      rw [this]
      repeat' ((conv => whnf); first | (with_reducible first | refine W1 ?_ | refine W2 ?_ | refine W3 ?_ | refine W4 ?_ | refine W5 ?_ | refine W6 ?_ | refine W7 ?_ | refine W8 ?_ | refine W9 ?_) | refine reg_inl ?_ | refine And.intro (Obl.out (?_ : Obl _)) ?_ | refine ifB_intro (fun h => ?_) (fun h => ?_) | refine Or.inl (call_intro (hP) (And.intro rfl trivial) ?_) | refine Exists.intro _ (And.intro rfl ?_) | ((with_reducible show _ = _); rfl))
      all_goals try ((with_reducible refine Obl.mk ?_); first | ((with_reducible show regOk _ _ = true); kernel_rfl) | rfl | exact trivial | ((repeat' (first | exact trivial | refine And.intro ?_ ?_)); done) | decide | ((repeat' (first | exact List.forall_mem_nil _ | refine Wm rfl ?_)); done))
      all_goals try (exfalso; simp only [decide_eq_false_iff_not, decide_eq_true_eq] at *; omega)
      conv => whnf
      refine ⟨{ q : Nat × Nat // q.1 ≤ l.length ∧ near (l.drop q.1) = false }, fun q => ⟨[(0, vP p), (1, vPl l), (5, tI .i64 (q.1.2 : Int)), (17, vPl l), (18, tI .i64 ((l.map TPlace.tr).length : Int)), (19, tI .i64 (q.1.1 : Int))], [], []⟩, fun q => l.length - q.1.1, ⟨(0, 0), by dsimp only; omega, hnr⟩, ?_, ?_⟩
      · skip
        repeat' ((conv => whnf); first | (with_reducible first | refine W1 ?_ | refine W2 ?_ | refine W3 ?_ | refine W4 ?_ | refine W5 ?_ | refine W6 ?_ | refine W7 ?_ | refine W8 ?_ | refine W9 ?_) | refine reg_inl ?_ | refine And.intro (Obl.out (?_ : Obl _)) ?_ | refine ifB_intro (fun h => ?_) (fun h => ?_) | refine Exists.intro _ (And.intro rfl ?_) | ((with_reducible show _ = _); rfl))
        all_goals try ((with_reducible refine Obl.mk ?_); first | ((with_reducible show regOk _ _ = true); kernel_rfl) | rfl | exact trivial | ((repeat' (first | exact trivial | refine And.intro ?_ ?_)); done) | decide | ((repeat' (first | exact List.forall_mem_nil _ | refine Wm rfl ?_)); done))
      intro ⟨⟨k, d⟩, hk, hr⟩
      dsimp only at hk hr ⊢
      by_cases hlt : k < l.length
      · obtain ⟨x, hx⟩ := get_of_lt hlt
        rw [near_at hx] at hr
        have hB := s_impl_between x.fOffset 0 1000000
        have hcl : (x.fItem.fChain.map intRow).length = x.fItem.fChain.length := by simp
        cases hb : within x.fOffset 0 1000000 with
        | false =>
          rw [hb] at hB
          repeat' ((conv => whnf); first | (with_reducible first | refine W1 ?_ | refine W2 ?_ | refine W3 ?_ | refine W4 ?_ | refine W5 ?_ | refine W6 ?_ | refine W7 ?_ | refine W8 ?_ | refine W9 ?_) | refine reg_inl ?_ | refine And.intro (Obl.out (?_ : Obl _)) ?_ | refine ifB_intro (fun h => ?_) (fun h => ?_) | refine ⟨k, x.tr, rfl, map_get hx, ?_⟩ | refine Or.inl (call_intro (hB) (And.intro rfl (And.intro rfl (And.intro rfl trivial))) ?_) | refine Exists.intro _ (And.intro rfl ?_) | ((with_reducible show _ = _); rfl))
          all_goals try ((with_reducible refine Obl.mk ?_); first | ((with_reducible show regOk _ _ = true); kernel_rfl) | rfl | exact trivial | ((repeat' (first | exact trivial | refine And.intro ?_ ?_)); done) | decide | ((repeat' (first | exact List.forall_mem_nil _ | refine Wm rfl ?_)); done))
          all_goals try (exfalso; simp only [decide_eq_false_iff_not, decide_eq_true_eq] at *; omega)
        | true =>
          rw [hb] at hB hr
          rw [Bool.true_and] at hr
          repeat' ((conv => whnf); first | (with_reducible first | refine W1 ?_ | refine W2 ?_ | refine W3 ?_ | refine W4 ?_ | refine W5 ?_ | refine W6 ?_ | refine W7 ?_ | refine W8 ?_ | refine W9 ?_) | refine reg_inl ?_ | refine And.intro (Obl.out (?_ : Obl _)) ?_ | refine ifB_intro (fun h => ?_) (fun h => ?_) | refine ⟨k, x.tr, rfl, map_get hx, ?_⟩ | refine Or.inl (call_intro (hB) (And.intro rfl (And.intro rfl (And.intro rfl trivial))) ?_) | refine Exists.intro _ (And.intro rfl ?_) | ((with_reducible show _ = _); rfl))
          all_goals try ((with_reducible refine Obl.mk ?_); first | ((with_reducible show regOk _ _ = true); kernel_rfl) | rfl | exact trivial | ((repeat' (first | exact trivial | refine And.intro ?_ ?_)); done) | decide | ((repeat' (first | exact List.forall_mem_nil _ | refine Wm rfl ?_)); done))
          all_goals try (exfalso; simp only [decide_eq_false_iff_not, decide_eq_true_eq] at *; omega)
          all_goals
            conv => whnf
            refine ⟨⟨(k + 1, max d x.fItem.fChain.length), by dsimp only; omega, hr⟩, ?_, by dsimp only; omega⟩
            repeat' ((conv => whnf); first | (with_reducible first | refine W1 ?_ | refine W2 ?_ | refine W3 ?_ | refine W4 ?_ | refine W5 ?_ | refine W6 ?_ | refine W7 ?_ | refine W8 ?_ | refine W9 ?_) | refine reg_inl ?_ | refine And.intro (Obl.out (?_ : Obl _)) ?_ | refine ifB_intro (fun h => ?_) (fun h => ?_) | refine Exists.intro _ (And.intro rfl ?_) | ((with_reducible show _ = _); rfl))
            all_goals try ((with_reducible refine Obl.mk ?_); first | ((with_reducible show regOk _ _ = true); kernel_rfl) | rfl | exact trivial | ((repeat' (first | exact trivial | refine And.intro ?_ ?_)); done) | decide | ((repeat' (first | exact List.forall_mem_nil _ | refine Wm rfl ?_)); done))
            all_goals try exact ⟨by dsimp only; rw [IntWalk.i64_in _ (by omega)]; rfl⟩
            all_goals try exact ⟨congrArg (Tr.int _) (by dsimp only; rw [hcl]; (try split) <;> omega)⟩
      · rw [List.drop_eq_nil_of_le (by omega)] at hr
        cases hr
    | true =>
      have hio : inlinesOf p l = lvls p l (deepF l 0) 0 := by rw [inlinesOf, if_pos ⟨hpo, hnr⟩]
      have hnm := near_mem hnr
      rw [hio]
      obtain ⟨D, hD⟩ : ∃ D, deepF l 0 = D := ⟨_, rfl⟩
      have hD0 : deepF (l.drop 0) 0 = D := hD
      obtain ⟨R, hR⟩ : ∃ R, lvls p l (deepF l 0) 0 = R := ⟨_, rfl⟩
      rw [hR]
      rw [hD] at hR
      repeat' ((conv => whnf); first | (with_reducible first | refine W1 ?_ | refine W2 ?_ | refine W3 ?_ | refine W4 ?_ | refine W5 ?_ | refine W6 ?_ | refine W7 ?_ | refine W8 ?_ | refine W9 ?_) | refine reg_inl ?_ | refine And.intro (Obl.out (?_ : Obl _)) ?_ | refine ifB_intro (fun h => ?_) (fun h => ?_) | refine Or.inl (call_intro (hP) (And.intro rfl trivial) ?_) | refine Exists.intro _ (And.intro rfl ?_) | ((with_reducible show _ = _); rfl))
      all_goals try ((with_reducible refine Obl.mk ?_); first | ((with_reducible show regOk _ _ = true); kernel_rfl) | rfl | exact trivial | ((repeat' (first | exact trivial | refine And.intro ?_ ?_)); done) | decide | ((repeat' (first | exact List.forall_mem_nil _ | refine Wm rfl ?_)); done))
      all_goals try (exfalso; simp only [decide_eq_false_iff_not, decide_eq_true_eq] at *; omega)
      conv => whnf
      refine ⟨{ q : Nat × Nat // q.1 ≤ l.length ∧ q.2 ≤ 1048576 ∧ deepF (l.drop q.1) q.2 = D }, fun q => ⟨[(0, vP p), (1, vPl l), (5, tI .i64 (q.1.2 : Int)), (17, vPl l), (18, tI .i64 ((l.map TPlace.tr).length : Int)), (19, tI .i64 (q.1.1 : Int))], [], []⟩, fun q => l.length - q.1.1, ⟨(0, 0), by dsimp only; omega, by dsimp only; omega, hD0⟩, ?_, ?_⟩
      · skip
        repeat' ((conv => whnf); first | (with_reducible first | refine W1 ?_ | refine W2 ?_ | refine W3 ?_ | refine W4 ?_ | refine W5 ?_ | refine W6 ?_ | refine W7 ?_ | refine W8 ?_ | refine W9 ?_) | refine reg_inl ?_ | refine And.intro (Obl.out (?_ : Obl _)) ?_ | refine ifB_intro (fun h => ?_) (fun h => ?_) | refine Exists.intro _ (And.intro rfl ?_) | ((with_reducible show _ = _); rfl))
        all_goals try ((with_reducible refine Obl.mk ?_); first | ((with_reducible show regOk _ _ = true); kernel_rfl) | rfl | exact trivial | ((repeat' (first | exact trivial | refine And.intro ?_ ?_)); done) | decide | ((repeat' (first | exact List.forall_mem_nil _ | refine Wm rfl ?_)); done))
      intro ⟨⟨k, d⟩, hk, hd, hr⟩
      dsimp only at hk hd hr ⊢
      by_cases hlt : k < l.length
      · obtain ⟨x, hx⟩ := get_of_lt hlt
        rw [deepF_at hx] at hr
        have hB := s_impl_between x.fOffset 0 1000000
        have hcl : (x.fItem.fChain.map intRow).length = x.fItem.fChain.length := by simp
        have hcx := hcs x (List.mem_of_getElem? hx)
        rw [within_iff.2 (hnm x (List.mem_of_getElem? hx))] at hB
        repeat' ((conv => whnf); first | (with_reducible first | refine W1 ?_ | refine W2 ?_ | refine W3 ?_ | refine W4 ?_ | refine W5 ?_ | refine W6 ?_ | refine W7 ?_ | refine W8 ?_ | refine W9 ?_) | refine reg_inl ?_ | refine And.intro (Obl.out (?_ : Obl _)) ?_ | refine ifB_intro (fun h => ?_) (fun h => ?_) | refine ⟨k, x.tr, rfl, map_get hx, ?_⟩ | refine Or.inl (call_intro (hB) (And.intro rfl (And.intro rfl (And.intro rfl trivial))) ?_) | refine Exists.intro _ (And.intro rfl ?_) | ((with_reducible show _ = _); rfl))
        all_goals try ((with_reducible refine Obl.mk ?_); first | ((with_reducible show regOk _ _ = true); kernel_rfl) | rfl | exact trivial | ((repeat' (first | exact trivial | refine And.intro ?_ ?_)); done) | decide | ((repeat' (first | exact List.forall_mem_nil _ | refine Wm rfl ?_)); done))
        all_goals try (exfalso; simp only [decide_eq_false_iff_not, decide_eq_true_eq] at *; omega)
        all_goals
          conv => whnf
          refine ⟨⟨(k + 1, max d x.fItem.fChain.length), by dsimp only; omega, by dsimp only; omega, hr⟩, ?_, by dsimp only; omega⟩
          repeat' ((conv => whnf); first | (with_reducible first | refine W1 ?_ | refine W2 ?_ | refine W3 ?_ | refine W4 ?_ | refine W5 ?_ | refine W6 ?_ | refine W7 ?_ | refine W8 ?_ | refine W9 ?_) | refine reg_inl ?_ | refine And.intro (Obl.out (?_ : Obl _)) ?_ | refine ifB_intro (fun h => ?_) (fun h => ?_) | refine Exists.intro _ (And.intro rfl ?_) | ((with_reducible show _ = _); rfl))
          all_goals try ((with_reducible refine Obl.mk ?_); first | ((with_reducible show regOk _ _ = true); kernel_rfl) | rfl | exact trivial | ((repeat' (first | exact trivial | refine And.intro ?_ ?_)); done) | decide | ((repeat' (first | exact List.forall_mem_nil _ | refine Wm rfl ?_)); done))
          all_goals try exact ⟨by dsimp only; rw [IntWalk.i64_in _ (by omega)]; rfl⟩
          all_goals try exact ⟨congrArg (Tr.int _) (by dsimp only; rw [hcl]; (try split) <;> omega)⟩
      · rw [List.drop_eq_nil_of_le (by omega), deepF] at hr
        subst hr
        clear hD hD0 hio
        repeat' ((conv => whnf); first | (with_reducible first | refine W1 ?_ | refine W2 ?_ | refine W3 ?_ | refine W4 ?_ | refine W5 ?_ | refine W6 ?_ | refine W7 ?_ | refine W8 ?_ | refine W9 ?_) | refine reg_inl ?_ | refine And.intro (Obl.out (?_ : Obl _)) ?_ | refine ifB_intro (fun h => ?_) (fun h => ?_) | refine Exists.intro _ (And.intro rfl ?_) | ((with_reducible show _ = _); rfl))
        all_goals try ((with_reducible refine Obl.mk ?_); first | ((with_reducible show regOk _ _ = true); kernel_rfl) | rfl | exact trivial | ((repeat' (first | exact trivial | refine And.intro ?_ ?_)); done) | decide | ((repeat' (first | exact List.forall_mem_nil _ | refine Wm rfl ?_)); done))
        all_goals try (exfalso; simp only [decide_eq_false_iff_not, decide_eq_true_eq] at *; omega)
        conv => whnf
        refine ⟨{ q : Nat × List TInline // q.1 ≤ d ∧ q.2.length + chainsFrom q.1 l ≤ 1048576 ∧ q.2 ++ lvls p l (d - q.1) q.1 = R }, fun q => ⟨[(0, vP p), (1, vPl l), (5, tI .i64 (d : Int)), (8, .r (.c (.own (8, 0, 0)))), (9, tI .i64 (q.1.1 : Int))], [((8, 0, 0), some (.arr true 5 (q.1.2.map TInline.tr)))], [8]⟩, fun q => d - q.1.1, ⟨(0, []), by dsimp only; omega, by rw [chainsFrom_zero]; simpa using hch, by simpa using hR⟩, ?_, ?_⟩
        · skip
          repeat' ((conv => whnf); first | (with_reducible first | refine W1 ?_ | refine W2 ?_ | refine W3 ?_ | refine W4 ?_ | refine W5 ?_ | refine W6 ?_ | refine W7 ?_ | refine W8 ?_ | refine W9 ?_) | refine reg_inl ?_ | refine And.intro (Obl.out (?_ : Obl _)) ?_ | refine ifB_intro (fun h => ?_) (fun h => ?_) | refine Exists.intro _ (And.intro rfl ?_) | ((with_reducible show _ = _); rfl))
          all_goals try ((with_reducible refine Obl.mk ?_); first | ((with_reducible show regOk _ _ = true); kernel_rfl) | rfl | exact trivial | ((repeat' (first | exact trivial | refine And.intro ?_ ?_)); done) | decide | ((repeat' (first | exact List.forall_mem_nil _ | refine Wm rfl ?_)); done))
        intro ⟨⟨lv, acc⟩, hlv, hac, hr⟩
        dsimp only at hlv hac hr ⊢
        by_cases hlt : lv < d
        · obtain ⟨n, hn⟩ : ∃ n, d - lv = n + 1 := ⟨d - lv - 1, by omega⟩
          have hn2 : d - (lv + 1) = n := by omega
          rw [hn, lvls] at hr
          have h0 : lvN p l lv (l.length - 0) 0 = lvN p l lv l.length 0 := by rw [Nat.sub_zero]
          rw [← h0] at hr
          rw [chainsFrom_at] at hac
          have hac0 : acc.length + (atLv lv (l.drop 0) + chainsFrom (lv + 1) l) ≤ 1048576 := hac
          have hwl : IntKind.i64.wrap ((lv : Int) + 1) = ((lv + 1 : Nat) : Int) := by rw [IntWalk.i64_in _ (by omega)]; omega
          repeat' ((conv => whnf); first | (with_reducible first | refine W1 ?_ | refine W2 ?_ | refine W3 ?_ | refine W4 ?_ | refine W5 ?_ | refine W6 ?_ | refine W7 ?_ | refine W8 ?_ | refine W9 ?_) | refine reg_inl ?_ | refine And.intro (Obl.out (?_ : Obl _)) ?_ | refine ifB_intro (fun h => ?_) (fun h => ?_) | refine Exists.intro _ (And.intro rfl ?_) | ((with_reducible show _ = _); rfl))
          all_goals try ((with_reducible refine Obl.mk ?_); first | ((with_reducible show regOk _ _ = true); kernel_rfl) | rfl | exact trivial | ((repeat' (first | exact trivial | refine And.intro ?_ ?_)); done) | decide | ((repeat' (first | exact List.forall_mem_nil _ | refine Wm rfl ?_)); done))
          all_goals try (exfalso; simp only [decide_eq_false_iff_not, decide_eq_true_eq] at *; omega)
          conv => whnf
          refine ⟨{ q : Nat × List TInline // q.1 ≤ l.length ∧ q.2.length + (atLv lv (l.drop q.1) + chainsFrom (lv + 1) l) ≤ 1048576 ∧ q.2 ++ (lvN p l lv (l.length - q.1) q.1 ++ lvls p l n (lv + 1)) = R }, fun q => ⟨[(0, vP p), (1, vPl l), (5, tI .i64 (d : Int)), (8, .r (.c (.own (8, 0, 0)))), (9, tI .i64 (lv : Int)), (10, tI .i64 (q.1.1 : Int))], [((8, 0, 0), some (.arr true 5 (q.1.2.map TInline.tr)))], [8]⟩, fun q => l.length - q.1.1, ⟨(0, acc), by dsimp only; omega, hac0, hr⟩, ?_, ?_⟩
          · skip
            repeat' ((conv => whnf); first | (with_reducible first | refine W1 ?_ | refine W2 ?_ | refine W3 ?_ | refine W4 ?_ | refine W5 ?_ | refine W6 ?_ | refine W7 ?_ | refine W8 ?_ | refine W9 ?_) | refine reg_inl ?_ | refine And.intro (Obl.out (?_ : Obl _)) ?_ | refine ifB_intro (fun h => ?_) (fun h => ?_) | refine Exists.intro _ (And.intro rfl ?_) | ((with_reducible show _ = _); rfl))
            all_goals try ((with_reducible refine Obl.mk ?_); first | ((with_reducible show regOk _ _ = true); kernel_rfl) | rfl | exact trivial | ((repeat' (first | exact trivial | refine And.intro ?_ ?_)); done) | decide | ((repeat' (first | exact List.forall_mem_nil _ | refine Wm rfl ?_)); done))
          clear hr hac hac0 h0
          intro ⟨⟨i, acc⟩, hi, hac, hr⟩
          dsimp only at hi hac hr ⊢
          by_cases hil : i < l.length
          · obtain ⟨x, hx⟩ := get_of_lt hil
            have hcl : (x.fItem.fChain.map intRow).length = x.fItem.fChain.length := by simp
            have hcx := hcs x (List.mem_of_getElem? hx)
            have hxo := hnm x (List.mem_of_getElem? hx)
            rw [lvN_step hx] at hr
            rw [atLv_drop hx] at hac
            by_cases hcb : lv < x.fItem.fChain.length
            · obtain ⟨c, hc⟩ := get_of_lt hcb
              rw [if_pos hcb] at hac
              rw [hc] at hr
              dsimp only at hr
              have hN := s_impl_nameAt p x.fItem lv hpl (by omega)
              obtain ⟨nm, hnmE⟩ : ∃ nm, nameAtI p x.fItem lv = nm := ⟨_, rfl⟩
              rw [hnmE] at hN hr
              have hrl := runN_le (p := p) (ch := x.fItem.fChain) (lv := lv) (nm := nm) (l := l.drop (i + 1)) (k := i + 1)
              rw [List.length_drop] at hrl
              obtain ⟨E, hE⟩ : ∃ E, runN p x.fItem.fChain lv nm (l.drop (i + 1)) (i + 1) = E := ⟨_, rfl⟩
              rw [hE] at hr hrl
              repeat' ((conv => whnf); first | (with_reducible first | refine W1 ?_ | refine W2 ?_ | refine W3 ?_ | refine W4 ?_ | refine W5 ?_ | refine W6 ?_ | refine W7 ?_ | refine W8 ?_ | refine W9 ?_) | refine reg_inl ?_ | refine And.intro (Obl.out (?_ : Obl _)) ?_ | refine ifB_intro (fun h => ?_) (fun h => ?_) | refine ⟨i, x.tr, rfl, map_get hx, ?_⟩ | refine Or.inl (call_intro (hN) (And.intro rfl (And.intro (And.intro rfl (And.intro rfl (And.intro rfl (And.intro rfl (And.intro rfl (And.intro rfl (And.intro rfl trivial))))))) (And.intro rfl trivial))) ?_) | refine Exists.intro _ (And.intro rfl ?_) | ((with_reducible show _ = _); rfl))
              all_goals try ((with_reducible refine Obl.mk ?_); first | ((with_reducible show regOk _ _ = true); kernel_rfl) | rfl | exact trivial | ((repeat' (first | exact trivial | refine And.intro ?_ ?_)); done) | decide | ((repeat' (first | exact List.forall_mem_nil _ | refine Wm rfl ?_)); done))
              all_goals try (exfalso; simp only [decide_eq_false_iff_not, decide_eq_true_eq] at *; omega)
              all_goals try (exfalso; have h' := of_decide_eq_true h; rw [hcl] at h'; omega)
              conv => whnf
              refine ⟨{ k : Nat // i < k ∧ k ≤ l.length ∧ runN p x.fItem.fChain lv nm (l.drop k) k = E }, fun q => ⟨[(0, vP p), (1, vPl l), (5, tI .i64 (d : Int)), (8, .r (.c (.own (8, 0, 0)))), (9, tI .i64 (lv : Int)), (10, tI .i64 (i : Int)), (11, .r (.c (.t (.lst 1 (x.fItem.fChain.map intRow))))), (12, tI .i64 (q.1 : Int)), (13, tS nm)], [((8, 0, 0), some (.arr true 5 (acc.map TInline.tr)))], [8]⟩, fun q => l.length - q.1, ⟨i + 1, by omega, by omega, hE⟩, ?_, ?_⟩
              · skip
                repeat' ((conv => whnf); first | (with_reducible first | refine W1 ?_ | refine W2 ?_ | refine W3 ?_ | refine W4 ?_ | refine W5 ?_ | refine W6 ?_ | refine W7 ?_ | refine W8 ?_ | refine W9 ?_) | refine reg_inl ?_ | refine And.intro (Obl.out (?_ : Obl _)) ?_ | refine ifB_intro (fun h => ?_) (fun h => ?_) | refine Exists.intro _ (And.intro rfl ?_) | ((with_reducible show _ = _); rfl))
                all_goals try ((with_reducible refine Obl.mk ?_); first | ((with_reducible show regOk _ _ = true); kernel_rfl) | rfl | exact trivial | ((repeat' (first | exact trivial | refine And.intro ?_ ?_)); done) | decide | ((repeat' (first | exact List.forall_mem_nil _ | refine Wm rfl ?_)); done))
                all_goals try exact ⟨by dsimp only; rw [IntWalk.i64_in _ (by omega)]; rfl⟩
                all_goals try exact ⟨by dsimp only; congr 1; omega⟩
              intro ⟨k, hik, hkl, hk⟩
              dsimp only at hik hkl hk ⊢
              by_cases hkl2 : k < l.length
              · obtain ⟨y, hy⟩ := get_of_lt hkl2
                have hcy := hcs y (List.mem_of_getElem? hy)
                have hcly : (y.fItem.fChain.map intRow).length = y.fItem.fChain.length := by simp
                have hN2 := s_impl_nameAt p y.fItem lv hpl (by omega)
                rw [runN_at hy, joinsI] at hk
                generalize nameAtI p y.fItem lv = ny at *
                by_cases hcy2 : lv < y.fItem.fChain.length
                · rw [decide_eq_true hcy2, Bool.true_and] at hk
                  have hQ := s_slices_EqualI (y.fItem.fChain.take (lv + 1)) (x.fItem.fChain.take (lv + 1)) (by simp; omega) (by simp; omega)
                  rw [List.map_take, List.map_take] at hQ
                  have hle1 : lv + 1 ≤ (y.fItem.fChain.map intRow).length := by rw [hcly]; omega
                  have hle2 : lv + 1 ≤ (x.fItem.fChain.map intRow).length := by rw [hcl]; omega
                  cases hq : (y.fItem.fChain.take (lv + 1) == x.fItem.fChain.take (lv + 1)) with
                  | false =>
                    rw [hq] at hQ hk
                    rw [Bool.false_and, if_neg (by simp)] at hk
                    subst hk
                    repeat' ((conv => whnf); first | (with_reducible first | refine W1 ?_ | refine W2 ?_ | refine W3 ?_ | refine W4 ?_ | refine W5 ?_ | refine W6 ?_ | refine W7 ?_ | refine W8 ?_ | refine W9 ?_) | refine reg_inl ?_ | refine And.intro (Obl.out (?_ : Obl _)) ?_ | refine ifB_intro (fun h => ?_) (fun h => ?_) | refine ⟨k, y.tr, rfl, map_get hy, ?_⟩ | refine ⟨0, lv+1, rfl, hwl, (by omega), hle1, ?_⟩ | refine ⟨0, lv+1, rfl, hwl, (by omega), hle2, ?_⟩ | refine Or.inl (call_intro (hQ) (And.intro rfl (And.intro rfl trivial)) ?_) | refine Or.inl (call_intro (hN2) (And.intro rfl (And.intro (And.intro rfl (And.intro rfl (And.intro rfl (And.intro rfl (And.intro rfl (And.intro rfl (And.intro rfl trivial))))))) (And.intro rfl trivial))) ?_) | refine Exists.intro _ (And.intro rfl ?_) | ((with_reducible show _ = _); rfl))
                    all_goals try ((with_reducible refine Obl.mk ?_); first | ((with_reducible show regOk _ _ = true); kernel_rfl) | rfl | exact trivial | ((repeat' (first | exact trivial | refine And.intro ?_ ?_)); done) | decide | ((repeat' (first | exact List.forall_mem_nil _ | refine Wm rfl ?_)); done))
                    all_goals try (exfalso; simp only [decide_eq_false_iff_not, decide_eq_true_eq] at *; omega)
                    obtain ⟨z, hz⟩ := get_of_lt (l := l) (k := k - 1) (by omega)
                    rw [hz] at hr
                    dsimp only at hr
                    have hwk : IntKind.i64.wrap ((k : Int) - 1) = ((k - 1 : Nat) : Int) := by rw [IntWalk.i64_in _ (by omega)]; omega
                    have hzo := hnm z (List.mem_of_getElem? hz)
                    have hEP := s_impl_endOfPlace z hzo.1 hzo.2
                    have hat := atLv_le (lv := lv) (l := l) (show i + 1 ≤ k by omega)
                    repeat' ((conv => whnf); first | (with_reducible first | refine W1 ?_ | refine W2 ?_ | refine W3 ?_ | refine W4 ?_ | refine W5 ?_ | refine W6 ?_ | refine W7 ?_ | refine W8 ?_ | refine W9 ?_) | refine reg_inl ?_ | refine And.intro (Obl.out (?_ : Obl _)) ?_ | refine ifB_intro (fun h => ?_) (fun h => ?_) | refine ⟨i, x.tr, rfl, map_get hx, ?_⟩ | refine ⟨(k - 1), z.tr, hwk, map_get hz, ?_⟩ | refine ⟨lv, (intRow c), rfl, map_get hc, ?_⟩ | refine Or.inl (call_intro (hEP) (And.intro (And.intro rfl (And.intro rfl (And.intro rfl (And.intro rfl (And.intro rfl (And.intro rfl (And.intro rfl (And.intro rfl trivial)))))))) trivial) ?_) | refine Exists.intro _ (And.intro rfl ?_) | ((with_reducible show _ = _); rfl))
                    all_goals try ((with_reducible refine Obl.mk ?_); first | ((with_reducible show regOk _ _ = true); kernel_rfl) | rfl | exact trivial | ((repeat' (first | exact trivial | refine And.intro ?_ ?_)); done) | decide | ((repeat' (first | exact List.forall_mem_nil _ | refine Wm rfl ?_)); done))
                    all_goals try exact ⟨⟨by simp <;> omega, by simp <;> omega⟩⟩
                    conv => whnf
                    refine ⟨⟨(k, acc ++ [inlRec p lv x c z]), by dsimp only; omega, by simp; omega, by rw [← hr]; simp⟩, ?_, by dsimp only; omega⟩
                    repeat' ((conv => whnf); first | (with_reducible first | refine W1 ?_ | refine W2 ?_ | refine W3 ?_ | refine W4 ?_ | refine W5 ?_ | refine W6 ?_ | refine W7 ?_ | refine W8 ?_ | refine W9 ?_) | refine reg_inl ?_ | refine And.intro (Obl.out (?_ : Obl _)) ?_ | refine ifB_intro (fun h => ?_) (fun h => ?_) | refine Exists.intro _ (And.intro rfl ?_) | ((with_reducible show _ = _); rfl))
                    all_goals try ((with_reducible refine Obl.mk ?_); first | ((with_reducible show regOk _ _ = true); kernel_rfl) | rfl | exact trivial | ((repeat' (first | exact trivial | refine And.intro ?_ ?_)); done) | decide | ((repeat' (first | exact List.forall_mem_nil _ | refine Wm rfl ?_)); done))
                    all_goals try exact ⟨by simp [inlRec, TInline.tr, hnmE]⟩
                  | true =>
                    rw [hq] at hQ hk
                    rw [Bool.true_and] at hk
                    by_cases hny : ny = nm
                    · rw [beq_iff_eq.2 hny, if_pos rfl] at hk
                      repeat' ((conv => whnf); first | (with_reducible first | refine W1 ?_ | refine W2 ?_ | refine W3 ?_ | refine W4 ?_ | refine W5 ?_ | refine W6 ?_ | refine W7 ?_ | refine W8 ?_ | refine W9 ?_) | refine reg_inl ?_ | refine And.intro (Obl.out (?_ : Obl _)) ?_ | refine ifB_intro (fun h => ?_) (fun h => ?_) | refine ⟨k, y.tr, rfl, map_get hy, ?_⟩ | refine ⟨0, lv+1, rfl, hwl, (by omega), hle1, ?_⟩ | refine ⟨0, lv+1, rfl, hwl, (by omega), hle2, ?_⟩ | refine Or.inl (call_intro (hQ) (And.intro rfl (And.intro rfl trivial)) ?_) | refine Or.inl (call_intro (hN2) (And.intro rfl (And.intro (And.intro rfl (And.intro rfl (And.intro rfl (And.intro rfl (And.intro rfl (And.intro rfl (And.intro rfl trivial))))))) (And.intro rfl trivial))) ?_) | refine Exists.intro _ (And.intro rfl ?_) | ((with_reducible show _ = _); rfl))
                      all_goals try ((with_reducible refine Obl.mk ?_); first | ((with_reducible show regOk _ _ = true); kernel_rfl) | rfl | exact trivial | ((repeat' (first | exact trivial | refine And.intro ?_ ?_)); done) | decide | ((repeat' (first | exact List.forall_mem_nil _ | refine Wm rfl ?_)); done))
                      all_goals try (exfalso; simp only [decide_eq_false_iff_not, decide_eq_true_eq] at *; omega)
                      all_goals try (exfalso; simp_all; done)
                      conv => whnf
                      refine ⟨⟨k + 1, by omega, by omega, hk⟩, ?_, by dsimp only; omega⟩
                      repeat' ((conv => whnf); first | (with_reducible first | refine W1 ?_ | refine W2 ?_ | refine W3 ?_ | refine W4 ?_ | refine W5 ?_ | refine W6 ?_ | refine W7 ?_ | refine W8 ?_ | refine W9 ?_) | refine reg_inl ?_ | refine And.intro (Obl.out (?_ : Obl _)) ?_ | refine ifB_intro (fun h => ?_) (fun h => ?_) | refine Exists.intro _ (And.intro rfl ?_) | ((with_reducible show _ = _); rfl))
                      all_goals try ((with_reducible refine Obl.mk ?_); first | ((with_reducible show regOk _ _ = true); kernel_rfl) | rfl | exact trivial | ((repeat' (first | exact trivial | refine And.intro ?_ ?_)); done) | decide | ((repeat' (first | exact List.forall_mem_nil _ | refine Wm rfl ?_)); done))
                      all_goals try exact ⟨by dsimp only; rw [IntWalk.i64_in _ (by omega)]; rfl⟩
                    · rw [beq_eq_false_iff_ne.2 hny, if_neg (by simp)] at hk
                      subst hk
                      repeat' ((conv => whnf); first | (with_reducible first | refine W1 ?_ | refine W2 ?_ | refine W3 ?_ | refine W4 ?_ | refine W5 ?_ | refine W6 ?_ | refine W7 ?_ | refine W8 ?_ | refine W9 ?_) | refine reg_inl ?_ | refine And.intro (Obl.out (?_ : Obl _)) ?_ | refine ifB_intro (fun h => ?_) (fun h => ?_) | refine ⟨k, y.tr, rfl, map_get hy, ?_⟩ | refine ⟨0, lv+1, rfl, hwl, (by omega), hle1, ?_⟩ | refine ⟨0, lv+1, rfl, hwl, (by omega), hle2, ?_⟩ | refine Or.inl (call_intro (hQ) (And.intro rfl (And.intro rfl trivial)) ?_) | refine Or.inl (call_intro (hN2) (And.intro rfl (And.intro (And.intro rfl (And.intro rfl (And.intro rfl (And.intro rfl (And.intro rfl (And.intro rfl (And.intro rfl trivial))))))) (And.intro rfl trivial))) ?_) | refine Exists.intro _ (And.intro rfl ?_) | ((with_reducible show _ = _); rfl))
                      all_goals try ((with_reducible refine Obl.mk ?_); first | ((with_reducible show regOk _ _ = true); kernel_rfl) | rfl | exact trivial | ((repeat' (first | exact trivial | refine And.intro ?_ ?_)); done) | decide | ((repeat' (first | exact List.forall_mem_nil _ | refine Wm rfl ?_)); done))
                      all_goals try (exfalso; simp only [decide_eq_false_iff_not, decide_eq_true_eq] at *; omega)
                      all_goals try (exfalso; simp_all; done)
                      obtain ⟨z, hz⟩ := get_of_lt (l := l) (k := k - 1) (by omega)
                      rw [hz] at hr
                      dsimp only at hr
                      have hwk : IntKind.i64.wrap ((k : Int) - 1) = ((k - 1 : Nat) : Int) := by rw [IntWalk.i64_in _ (by omega)]; omega
                      have hzo := hnm z (List.mem_of_getElem? hz)
                      have hEP := s_impl_endOfPlace z hzo.1 hzo.2
                      have hat := atLv_le (lv := lv) (l := l) (show i + 1 ≤ k by omega)
                      repeat' ((conv => whnf); first | (with_reducible first | refine W1 ?_ | refine W2 ?_ | refine W3 ?_ | refine W4 ?_ | refine W5 ?_ | refine W6 ?_ | refine W7 ?_ | refine W8 ?_ | refine W9 ?_) | refine reg_inl ?_ | refine And.intro (Obl.out (?_ : Obl _)) ?_ | refine ifB_intro (fun h => ?_) (fun h => ?_) | refine ⟨i, x.tr, rfl, map_get hx, ?_⟩ | refine ⟨(k - 1), z.tr, hwk, map_get hz, ?_⟩ | refine ⟨lv, (intRow c), rfl, map_get hc, ?_⟩ | refine Or.inl (call_intro (hEP) (And.intro (And.intro rfl (And.intro rfl (And.intro rfl (And.intro rfl (And.intro rfl (And.intro rfl (And.intro rfl (And.intro rfl trivial)))))))) trivial) ?_) | refine Exists.intro _ (And.intro rfl ?_) | ((with_reducible show _ = _); rfl))
                      all_goals try ((with_reducible refine Obl.mk ?_); first | ((with_reducible show regOk _ _ = true); kernel_rfl) | rfl | exact trivial | ((repeat' (first | exact trivial | refine And.intro ?_ ?_)); done) | decide | ((repeat' (first | exact List.forall_mem_nil _ | refine Wm rfl ?_)); done))
                      all_goals try exact ⟨⟨by simp <;> omega, by simp <;> omega⟩⟩
                      conv => whnf
                      refine ⟨⟨(k, acc ++ [inlRec p lv x c z]), by dsimp only; omega, by simp; omega, by rw [← hr]; simp⟩, ?_, by dsimp only; omega⟩
                      repeat' ((conv => whnf); first | (with_reducible first | refine W1 ?_ | refine W2 ?_ | refine W3 ?_ | refine W4 ?_ | refine W5 ?_ | refine W6 ?_ | refine W7 ?_ | refine W8 ?_ | refine W9 ?_) | refine reg_inl ?_ | refine And.intro (Obl.out (?_ : Obl _)) ?_ | refine ifB_intro (fun h => ?_) (fun h => ?_) | refine Exists.intro _ (And.intro rfl ?_) | ((with_reducible show _ = _); rfl))
                      all_goals try ((with_reducible refine Obl.mk ?_); first | ((with_reducible show regOk _ _ = true); kernel_rfl) | rfl | exact trivial | ((repeat' (first | exact trivial | refine And.intro ?_ ?_)); done) | decide | ((repeat' (first | exact List.forall_mem_nil _ | refine Wm rfl ?_)); done))
                      all_goals try exact ⟨by simp [inlRec, TInline.tr, hnmE]⟩
                · rw [decide_eq_false hcy2, Bool.false_and, if_neg (by simp)] at hk
                  subst hk
                  repeat' ((conv => whnf); first | (with_reducible first | refine W1 ?_ | refine W2 ?_ | refine W3 ?_ | refine W4 ?_ | refine W5 ?_ | refine W6 ?_ | refine W7 ?_ | refine W8 ?_ | refine W9 ?_) | refine reg_inl ?_ | refine And.intro (Obl.out (?_ : Obl _)) ?_ | refine ifB_intro (fun h => ?_) (fun h => ?_) | refine ⟨k, y.tr, rfl, map_get hy, ?_⟩ | refine Exists.intro _ (And.intro rfl ?_) | ((with_reducible show _ = _); rfl))
                  all_goals try ((with_reducible refine Obl.mk ?_); first | ((with_reducible show regOk _ _ = true); kernel_rfl) | rfl | exact trivial | ((repeat' (first | exact trivial | refine And.intro ?_ ?_)); done) | decide | ((repeat' (first | exact List.forall_mem_nil _ | refine Wm rfl ?_)); done))
                  all_goals try (exfalso; simp only [decide_eq_false_iff_not, decide_eq_true_eq] at *; omega)
                  all_goals try (exfalso; have h' := of_decide_eq_true h; rw [hcly] at h'; omega)
                  obtain ⟨z, hz⟩ := get_of_lt (l := l) (k := k - 1) (by omega)
                  rw [hz] at hr
                  dsimp only at hr
                  have hwk : IntKind.i64.wrap ((k : Int) - 1) = ((k - 1 : Nat) : Int) := by rw [IntWalk.i64_in _ (by omega)]; omega
                  have hzo := hnm z (List.mem_of_getElem? hz)
                  have hEP := s_impl_endOfPlace z hzo.1 hzo.2
                  have hat := atLv_le (lv := lv) (l := l) (show i + 1 ≤ k by omega)
                  repeat' ((conv => whnf); first | (with_reducible first | refine W1 ?_ | refine W2 ?_ | refine W3 ?_ | refine W4 ?_ | refine W5 ?_ | refine W6 ?_ | refine W7 ?_ | refine W8 ?_ | refine W9 ?_) | refine reg_inl ?_ | refine And.intro (Obl.out (?_ : Obl _)) ?_ | refine ifB_intro (fun h => ?_) (fun h => ?_) | refine ⟨i, x.tr, rfl, map_get hx, ?_⟩ | refine ⟨(k - 1), z.tr, hwk, map_get hz, ?_⟩ | refine ⟨lv, (intRow c), rfl, map_get hc, ?_⟩ | refine Or.inl (call_intro (hEP) (And.intro (And.intro rfl (And.intro rfl (And.intro rfl (And.intro rfl (And.intro rfl (And.intro rfl (And.intro rfl (And.intro rfl trivial)))))))) trivial) ?_) | refine Exists.intro _ (And.intro rfl ?_) | ((with_reducible show _ = _); rfl))
                  all_goals try ((with_reducible refine Obl.mk ?_); first | ((with_reducible show regOk _ _ = true); kernel_rfl) | rfl | exact trivial | ((repeat' (first | exact trivial | refine And.intro ?_ ?_)); done) | decide | ((repeat' (first | exact List.forall_mem_nil _ | refine Wm rfl ?_)); done))
                  all_goals try exact ⟨⟨by simp <;> omega, by simp <;> omega⟩⟩
                  conv => whnf
                  refine ⟨⟨(k, acc ++ [inlRec p lv x c z]), by dsimp only; omega, by simp; omega, by rw [← hr]; simp⟩, ?_, by dsimp only; omega⟩
                  repeat' ((conv => whnf); first | (with_reducible first | refine W1 ?_ | refine W2 ?_ | refine W3 ?_ | refine W4 ?_ | refine W5 ?_ | refine W6 ?_ | refine W7 ?_ | refine W8 ?_ | refine W9 ?_) | refine reg_inl ?_ | refine And.intro (Obl.out (?_ : Obl _)) ?_ | refine ifB_intro (fun h => ?_) (fun h => ?_) | refine Exists.intro _ (And.intro rfl ?_) | ((with_reducible show _ = _); rfl))
                  all_goals try ((with_reducible refine Obl.mk ?_); first | ((with_reducible show regOk _ _ = true); kernel_rfl) | rfl | exact trivial | ((repeat' (first | exact trivial | refine And.intro ?_ ?_)); done) | decide | ((repeat' (first | exact List.forall_mem_nil _ | refine Wm rfl ?_)); done))
                  all_goals try exact ⟨by simp [inlRec, TInline.tr, hnmE]⟩
              · rw [runN_end (by omega)] at hk
                subst hk
                repeat' ((conv => whnf); first | (with_reducible first | refine W1 ?_ | refine W2 ?_ | refine W3 ?_ | refine W4 ?_ | refine W5 ?_ | refine W6 ?_ | refine W7 ?_ | refine W8 ?_ | refine W9 ?_) | refine reg_inl ?_ | refine And.intro (Obl.out (?_ : Obl _)) ?_ | refine ifB_intro (fun h => ?_) (fun h => ?_) | refine Exists.intro _ (And.intro rfl ?_) | ((with_reducible show _ = _); rfl))
                all_goals try ((with_reducible refine Obl.mk ?_); first | ((with_reducible show regOk _ _ = true); kernel_rfl) | rfl | exact trivial | ((repeat' (first | exact trivial | refine And.intro ?_ ?_)); done) | decide | ((repeat' (first | exact List.forall_mem_nil _ | refine Wm rfl ?_)); done))
                all_goals try (exfalso; simp only [decide_eq_false_iff_not, decide_eq_true_eq] at *; omega)
                obtain ⟨z, hz⟩ := get_of_lt (l := l) (k := k - 1) (by omega)
                rw [hz] at hr
                dsimp only at hr
                have hwk : IntKind.i64.wrap ((k : Int) - 1) = ((k - 1 : Nat) : Int) := by rw [IntWalk.i64_in _ (by omega)]; omega
                have hzo := hnm z (List.mem_of_getElem? hz)
                have hEP := s_impl_endOfPlace z hzo.1 hzo.2
                have hat := atLv_le (lv := lv) (l := l) (show i + 1 ≤ k by omega)
                repeat' ((conv => whnf); first | (with_reducible first | refine W1 ?_ | refine W2 ?_ | refine W3 ?_ | refine W4 ?_ | refine W5 ?_ | refine W6 ?_ | refine W7 ?_ | refine W8 ?_ | refine W9 ?_) | refine reg_inl ?_ | refine And.intro (Obl.out (?_ : Obl _)) ?_ | refine ifB_intro (fun h => ?_) (fun h => ?_) | refine ⟨i, x.tr, rfl, map_get hx, ?_⟩ | refine ⟨(k - 1), z.tr, hwk, map_get hz, ?_⟩ | refine ⟨lv, (intRow c), rfl, map_get hc, ?_⟩ | refine Or.inl (call_intro (hEP) (And.intro (And.intro rfl (And.intro rfl (And.intro rfl (And.intro rfl (And.intro rfl (And.intro rfl (And.intro rfl (And.intro rfl trivial)))))))) trivial) ?_) | refine Exists.intro _ (And.intro rfl ?_) | ((with_reducible show _ = _); rfl))
                all_goals try ((with_reducible refine Obl.mk ?_); first | ((with_reducible show regOk _ _ = true); kernel_rfl) | rfl | exact trivial | ((repeat' (first | exact trivial | refine And.intro ?_ ?_)); done) | decide | ((repeat' (first | exact List.forall_mem_nil _ | refine Wm rfl ?_)); done))
                all_goals try exact ⟨⟨by simp <;> omega, by simp <;> omega⟩⟩
                conv => whnf
                refine ⟨⟨(k, acc ++ [inlRec p lv x c z]), by dsimp only; omega, by simp; omega, by rw [← hr]; simp⟩, ?_, by dsimp only; omega⟩
                repeat' ((conv => whnf); first | (with_reducible first | refine W1 ?_ | refine W2 ?_ | refine W3 ?_ | refine W4 ?_ | refine W5 ?_ | refine W6 ?_ | refine W7 ?_ | refine W8 ?_ | refine W9 ?_) | refine reg_inl ?_ | refine And.intro (Obl.out (?_ : Obl _)) ?_ | refine ifB_intro (fun h => ?_) (fun h => ?_) | refine Exists.intro _ (And.intro rfl ?_) | ((with_reducible show _ = _); rfl))
                all_goals try ((with_reducible refine Obl.mk ?_); first | ((with_reducible show regOk _ _ = true); kernel_rfl) | rfl | exact trivial | ((repeat' (first | exact trivial | refine And.intro ?_ ?_)); done) | decide | ((repeat' (first | exact List.forall_mem_nil _ | refine Wm rfl ?_)); done))
                all_goals try exact ⟨by simp [inlRec, TInline.tr, hnmE]⟩
            · rw [if_neg hcb, Nat.zero_add] at hac
              rw [List.getElem?_eq_none (by omega)] at hr
              dsimp only at hr
              repeat' ((conv => whnf); first | (with_reducible first | refine W1 ?_ | refine W2 ?_ | refine W3 ?_ | refine W4 ?_ | refine W5 ?_ | refine W6 ?_ | refine W7 ?_ | refine W8 ?_ | refine W9 ?_) | refine reg_inl ?_ | refine And.intro (Obl.out (?_ : Obl _)) ?_ | refine ifB_intro (fun h => ?_) (fun h => ?_) | refine ⟨i, x.tr, rfl, map_get hx, ?_⟩ | refine Exists.intro _ (And.intro rfl ?_) | ((with_reducible show _ = _); rfl))
              all_goals try ((with_reducible refine Obl.mk ?_); first | ((with_reducible show regOk _ _ = true); kernel_rfl) | rfl | exact trivial | ((repeat' (first | exact trivial | refine And.intro ?_ ?_)); done) | decide | ((repeat' (first | exact List.forall_mem_nil _ | refine Wm rfl ?_)); done))
              all_goals try (exfalso; simp only [decide_eq_false_iff_not, decide_eq_true_eq] at *; omega)
              all_goals try (exfalso; have h' := of_decide_eq_false h; rw [hcl] at h'; omega)
              conv => whnf
              refine ⟨⟨(i + 1, acc), by dsimp only; omega, hac, hr⟩, ?_, by dsimp only; omega⟩
              repeat' ((conv => whnf); first | (with_reducible first | refine W1 ?_ | refine W2 ?_ | refine W3 ?_ | refine W4 ?_ | refine W5 ?_ | refine W6 ?_ | refine W7 ?_ | refine W8 ?_ | refine W9 ?_) | refine reg_inl ?_ | refine And.intro (Obl.out (?_ : Obl _)) ?_ | refine ifB_intro (fun h => ?_) (fun h => ?_) | refine Exists.intro _ (And.intro rfl ?_) | ((with_reducible show _ = _); rfl))
              all_goals try ((with_reducible refine Obl.mk ?_); first | ((with_reducible show regOk _ _ = true); kernel_rfl) | rfl | exact trivial | ((repeat' (first | exact trivial | refine And.intro ?_ ?_)); done) | decide | ((repeat' (first | exact List.forall_mem_nil _ | refine Wm rfl ?_)); done))
              all_goals try exact ⟨by dsimp only; rw [IntWalk.i64_in _ (by omega)]; rfl⟩
          · rw [show l.length - i = 0 by omega, lvN, List.nil_append] at hr
            rw [List.drop_eq_nil_of_le (by omega)] at hac
            have hac2 : acc.length + chainsFrom (lv + 1) l ≤ 1048576 := by
              have : atLv lv ([] : List TPlace) = 0 := rfl
              omega
            repeat' ((conv => whnf); first | (with_reducible first | refine W1 ?_ | refine W2 ?_ | refine W3 ?_ | refine W4 ?_ | refine W5 ?_ | refine W6 ?_ | refine W7 ?_ | refine W8 ?_ | refine W9 ?_) | refine reg_inl ?_ | refine And.intro (Obl.out (?_ : Obl _)) ?_ | refine ifB_intro (fun h => ?_) (fun h => ?_) | refine Exists.intro _ (And.intro rfl ?_) | ((with_reducible show _ = _); rfl))
            all_goals try ((with_reducible refine Obl.mk ?_); first | ((with_reducible show regOk _ _ = true); kernel_rfl) | rfl | exact trivial | ((repeat' (first | exact trivial | refine And.intro ?_ ?_)); done) | decide | ((repeat' (first | exact List.forall_mem_nil _ | refine Wm rfl ?_)); done))
            all_goals try (exfalso; simp only [decide_eq_false_iff_not, decide_eq_true_eq] at *; omega)
            conv => whnf
            refine ⟨⟨(lv + 1, acc), by dsimp only; omega, hac2, by dsimp only; rw [hn2]; exact hr⟩, ?_, by dsimp only; omega⟩
            repeat' ((conv => whnf); first | (with_reducible first | refine W1 ?_ | refine W2 ?_ | refine W3 ?_ | refine W4 ?_ | refine W5 ?_ | refine W6 ?_ | refine W7 ?_ | refine W8 ?_ | refine W9 ?_) | refine reg_inl ?_ | refine And.intro (Obl.out (?_ : Obl _)) ?_ | refine ifB_intro (fun h => ?_) (fun h => ?_) | refine Exists.intro _ (And.intro rfl ?_) | ((with_reducible show _ = _); rfl))
            all_goals try ((with_reducible refine Obl.mk ?_); first | ((with_reducible show regOk _ _ = true); kernel_rfl) | rfl | exact trivial | ((repeat' (first | exact trivial | refine And.intro ?_ ?_)); done) | decide | ((repeat' (first | exact List.forall_mem_nil _ | refine Wm rfl ?_)); done))
            all_goals try exact ⟨by dsimp only; rw [hwl]⟩
            all_goals try exact ⟨by dsimp only; rw [IntWalk.i64_in _ (by omega)]; rfl⟩
        · rw [show d - lv = 0 by omega, lvls, List.append_nil] at hr
          subst hr
          repeat' ((conv => whnf); first | (with_reducible first | refine W1 ?_ | refine W2 ?_ | refine W3 ?_ | refine W4 ?_ | refine W5 ?_ | refine W6 ?_ | refine W7 ?_ | refine W8 ?_ | refine W9 ?_) | refine reg_inl ?_ | refine And.intro (Obl.out (?_ : Obl _)) ?_ | refine ifB_intro (fun h => ?_) (fun h => ?_) | refine Exists.intro _ (And.intro rfl ?_) | ((with_reducible show _ = _); rfl))
          all_goals try ((with_reducible refine Obl.mk ?_); first | ((with_reducible show regOk _ _ = true); kernel_rfl) | rfl | exact trivial | ((repeat' (first | exact trivial | refine And.intro ?_ ?_)); done) | decide | ((repeat' (first | exact List.forall_mem_nil _ | refine Wm rfl ?_)); done))
          all_goals try (exfalso; simp only [decide_eq_false_iff_not, decide_eq_true_eq] at *; omega)
theorem s_spec_InlinesOf (p : List TLine) (l : List TPlace) (hp : smallT 1048576 (.lst 4 (p.map TLine.tr))) (hl : smallT 1048576 (.lst 8 (l.map TPlace.tr))) (hch : chains l ≤ 1048576) : Sim.Spec Try.prog 32 [tvP p, tvL 8 (l.map TPlace.tr)] (rL 5 ((inlinesOf p l).map TInline.tr)) := by
  refine spec_of_Wo hΓ hmix Try.func32 rfl (by decide) rfl ?_
  have hP := s_spec_ProgramOk p hp
  have hpl := small_nat hp
  have hll := small_nat hl
  have hlen : (l.map TPlace.tr).length = l.length := by simp
  have hcs : ∀ x ∈ l, x.fItem.fChain.length ≤ 1048576 := fun x hx => chain_small (smallRs_map hl hx)
  have hNr := s_spec_l12Near l hll
  cases hpo : programOk p with
  | false =>
    rw [hpo] at hP
    have : inlinesOf p l = [] := by rw [inlinesOf, if_neg (by simp [hpo])]
    rw [this]
    repeat' ((conv => whnf); first | (with_reducible first | refine W1 ?_ | refine W2 ?_ | refine W3 ?_ | refine W4 ?_ | refine W5 ?_ | refine W6 ?_ | refine W7 ?_ | refine W8 ?_ | refine W9 ?_) | refine reg_inl ?_ | refine And.intro (Obl.out (?_ : Obl _)) ?_ | refine ifB_intro (fun h => ?_) (fun h => ?_) | refine Or.inl (call_intro (hP) (And.intro rfl trivial) ?_) | refine Or.inl (call_intro (hNr) (And.intro rfl trivial) ?_) | refine Exists.intro _ (And.intro rfl ?_) | ((with_reducible show _ = _); rfl))
    all_goals try ((with_reducible refine Obl.mk ?_); first | ((with_reducible show regOk _ _ = true); kernel_rfl) | rfl | exact trivial | ((repeat' (first | exact trivial | refine And.intro ?_ ?_)); done) | decide | ((repeat' (first | exact List.forall_mem_nil _ | refine Wm rfl ?_)); done))
    all_goals try (exfalso; simp only [decide_eq_false_iff_not, decide_eq_true_eq] at *; omega)
  | true =>
    rw [hpo] at hP
    cases hnr : near l with
    | false =>
      have : inlinesOf p l = [] := by rw [inlinesOf, if_neg (by simp [hnr])]
      rw [this]
      rw [hnr] at hNr
      repeat' ((conv => whnf); first | (with_reducible first | refine W1 ?_ | refine W2 ?_ | refine W3 ?_ | refine W4 ?_ | refine W5 ?_ | refine W6 ?_ | refine W7 ?_ | refine W8 ?_ | refine W9 ?_) | refine reg_inl ?_ | refine And.intro (Obl.out (?_ : Obl _)) ?_ | refine ifB_intro (fun h => ?_) (fun h => ?_) | refine Or.inl (call_intro (hP) (And.intro rfl trivial) ?_) | refine Or.inl (call_intro (hNr) (And.intro rfl trivial) ?_) | refine Exists.intro _ (And.intro rfl ?_) | ((with_reducible show _ = _); rfl))
      all_goals try ((with_reducible refine Obl.mk ?_); first | ((with_reducible show regOk _ _ = true); kernel_rfl) | rfl | exact trivial | ((repeat' (first | exact trivial | refine And.intro ?_ ?_)); done) | decide | ((repeat' (first | exact List.forall_mem_nil _ | refine Wm rfl ?_)); done))
      all_goals try (exfalso; simp only [decide_eq_false_iff_not, decide_eq_true_eq] at *; omega)
    | true =>
      have hio : inlinesOf p l = lvls p l (deepF l 0) 0 := by rw [inlinesOf, if_pos ⟨hpo, hnr⟩]
      have hnm := near_mem hnr
      rw [hio]
      rw [hnr] at hNr
      obtain ⟨D, hD⟩ : ∃ D, deepF l 0 = D := ⟨_, rfl⟩
      have hD0 : deepF (l.drop 0) 0 = D := hD
      obtain ⟨R, hR⟩ : ∃ R, lvls p l (deepF l 0) 0 = R := ⟨_, rfl⟩
      rw [hR]
      rw [hD] at hR
      repeat' ((conv => whnf); first | (with_reducible first | refine W1 ?_ | refine W2 ?_ | refine W3 ?_ | refine W4 ?_ | refine W5 ?_ | refine W6 ?_ | refine W7 ?_ | refine W8 ?_ | refine W9 ?_) | refine reg_inl ?_ | refine And.intro (Obl.out (?_ : Obl _)) ?_ | refine ifB_intro (fun h => ?_) (fun h => ?_) | refine Or.inl (call_intro (hP) (And.intro rfl trivial) ?_) | refine Or.inl (call_intro (hNr) (And.intro rfl trivial) ?_) | refine Exists.intro _ (And.intro rfl ?_) | ((with_reducible show _ = _); rfl))
      all_goals try ((with_reducible refine Obl.mk ?_); first | ((with_reducible show regOk _ _ = true); kernel_rfl) | rfl | exact trivial | ((repeat' (first | exact trivial | refine And.intro ?_ ?_)); done) | decide | ((repeat' (first | exact List.forall_mem_nil _ | refine Wm rfl ?_)); done))
      all_goals try (exfalso; simp only [decide_eq_false_iff_not, decide_eq_true_eq] at *; omega)
      conv => whnf
      refine ⟨{ q : Nat × Nat // q.1 ≤ l.length ∧ q.2 ≤ 1048576 ∧ deepF (l.drop q.1) q.2 = D }, fun q => ⟨[(0, vP p), (1, vPl l), (5, .r (.c (.own (8, 0, 0)))), (6, tI .i64 (q.1.2 : Int)), (7, tI .i64 (q.1.1 : Int))], [((8, 0, 0), some (.arr true 5 []))], [8]⟩, fun q => l.length - q.1.1, ⟨(0, 0), by dsimp only; omega, by dsimp only; omega, hD0⟩, ?_, ?_⟩
      · skip
        repeat' ((conv => whnf); first | (with_reducible first | refine W1 ?_ | refine W2 ?_ | refine W3 ?_ | refine W4 ?_ | refine W5 ?_ | refine W6 ?_ | refine W7 ?_ | refine W8 ?_ | refine W9 ?_) | refine reg_inl ?_ | refine And.intro (Obl.out (?_ : Obl _)) ?_ | refine ifB_intro (fun h => ?_) (fun h => ?_) | refine Exists.intro _ (And.intro rfl ?_) | ((with_reducible show _ = _); rfl))
        all_goals try ((with_reducible refine Obl.mk ?_); first | ((with_reducible show regOk _ _ = true); kernel_rfl) | rfl | exact trivial | ((repeat' (first | exact trivial | refine And.intro ?_ ?_)); done) | decide | ((repeat' (first | exact List.forall_mem_nil _ | refine Wm rfl ?_)); done))
      intro ⟨⟨k, d⟩, hk, hd, hr⟩
      dsimp only at hk hd hr ⊢
      by_cases hlt : k < l.length
      · obtain ⟨x, hx⟩ := get_of_lt hlt
        rw [deepF_at hx] at hr
        have hB := s_impl_between x.fOffset 0 1000000
        have hcl : (x.fItem.fChain.map intRow).length = x.fItem.fChain.length := by simp
        have hcx := hcs x (List.mem_of_getElem? hx)
        rw [within_iff.2 (hnm x (List.mem_of_getElem? hx))] at hB
        repeat' ((conv => whnf); first | (with_reducible first | refine W1 ?_ | refine W2 ?_ | refine W3 ?_ | refine W4 ?_ | refine W5 ?_ | refine W6 ?_ | refine W7 ?_ | refine W8 ?_ | refine W9 ?_) | refine reg_inl ?_ | refine And.intro (Obl.out (?_ : Obl _)) ?_ | refine ifB_intro (fun h => ?_) (fun h => ?_) | refine ⟨k, x.tr, rfl, map_get hx, ?_⟩ | refine Or.inl (call_intro (hB) (And.intro rfl (And.intro rfl (And.intro rfl trivial))) ?_) | refine Exists.intro _ (And.intro rfl ?_) | ((with_reducible show _ = _); rfl))
        all_goals try ((with_reducible refine Obl.mk ?_); first | ((with_reducible show regOk _ _ = true); kernel_rfl) | rfl | exact trivial | ((repeat' (first | exact trivial | refine And.intro ?_ ?_)); done) | decide | ((repeat' (first | exact List.forall_mem_nil _ | refine Wm rfl ?_)); done))
        all_goals try (exfalso; simp only [decide_eq_false_iff_not, decide_eq_true_eq] at *; omega)
        all_goals
          conv => whnf
          refine ⟨⟨(k + 1, max d x.fItem.fChain.length), by dsimp only; omega, by dsimp only; omega, hr⟩, ?_, by dsimp only; omega⟩
          repeat' ((conv => whnf); first | (with_reducible first | refine W1 ?_ | refine W2 ?_ | refine W3 ?_ | refine W4 ?_ | refine W5 ?_ | refine W6 ?_ | refine W7 ?_ | refine W8 ?_ | refine W9 ?_) | refine reg_inl ?_ | refine And.intro (Obl.out (?_ : Obl _)) ?_ | refine ifB_intro (fun h => ?_) (fun h => ?_) | refine Exists.intro _ (And.intro rfl ?_) | ((with_reducible show _ = _); rfl))
          all_goals try ((with_reducible refine Obl.mk ?_); first | ((with_reducible show regOk _ _ = true); kernel_rfl) | rfl | exact trivial | ((repeat' (first | exact trivial | refine And.intro ?_ ?_)); done) | decide | ((repeat' (first | exact List.forall_mem_nil _ | refine Wm rfl ?_)); done))
          all_goals try exact ⟨by dsimp only; rw [IntWalk.i64_in _ (by omega)]; rfl⟩
          all_goals try exact ⟨congrArg (Tr.int _) (by dsimp only; rw [hcl]; (try split) <;> omega)⟩
      · rw [List.drop_eq_nil_of_le (by omega), deepF] at hr
        subst hr
        clear hD hD0 hio
        repeat' ((conv => whnf); first | (with_reducible first | refine W1 ?_ | refine W2 ?_ | refine W3 ?_ | refine W4 ?_ | refine W5 ?_ | refine W6 ?_ | refine W7 ?_ | refine W8 ?_ | refine W9 ?_) | refine reg_inl ?_ | refine And.intro (Obl.out (?_ : Obl _)) ?_ | refine ifB_intro (fun h => ?_) (fun h => ?_) | refine Exists.intro _ (And.intro rfl ?_) | ((with_reducible show _ = _); rfl))
        all_goals try ((with_reducible refine Obl.mk ?_); first | ((with_reducible show regOk _ _ = true); kernel_rfl) | rfl | exact trivial | ((repeat' (first | exact trivial | refine And.intro ?_ ?_)); done) | decide | ((repeat' (first | exact List.forall_mem_nil _ | refine Wm rfl ?_)); done))
        all_goals try (exfalso; simp only [decide_eq_false_iff_not, decide_eq_true_eq] at *; omega)
        conv => whnf
        refine ⟨{ q : Nat × List TInline // q.1 ≤ d ∧ q.2.length + chainsFrom q.1 l ≤ 1048576 ∧ q.2 ++ lvls p l (d - q.1) q.1 = R }, fun q => ⟨[(0, vP p), (1, vPl l), (6, tI .i64 (d : Int)), (5, .r (.c (.own (8, 0, 0)))), (8, tI .i64 (q.1.1 : Int))], [((8, 0, 0), some (.arr true 5 (q.1.2.map TInline.tr)))], [8]⟩, fun q => d - q.1.1, ⟨(0, []), by dsimp only; omega, by rw [chainsFrom_zero]; simpa using hch, by simpa using hR⟩, ?_, ?_⟩
        · skip
          repeat' ((conv => whnf); first | (with_reducible first | refine W1 ?_ | refine W2 ?_ | refine W3 ?_ | refine W4 ?_ | refine W5 ?_ | refine W6 ?_ | refine W7 ?_ | refine W8 ?_ | refine W9 ?_) | refine reg_inl ?_ | refine And.intro (Obl.out (?_ : Obl _)) ?_ | refine ifB_intro (fun h => ?_) (fun h => ?_) | refine Exists.intro _ (And.intro rfl ?_) | ((with_reducible show _ = _); rfl))
          all_goals try ((with_reducible refine Obl.mk ?_); first | ((with_reducible show regOk _ _ = true); kernel_rfl) | rfl | exact trivial | ((repeat' (first | exact trivial | refine And.intro ?_ ?_)); done) | decide | ((repeat' (first | exact List.forall_mem_nil _ | refine Wm rfl ?_)); done))
        intro ⟨⟨lv, acc⟩, hlv, hac, hr⟩
        dsimp only at hlv hac hr ⊢
        by_cases hlt : lv < d
        · obtain ⟨n, hn⟩ : ∃ n, d - lv = n + 1 := ⟨d - lv - 1, by omega⟩
          have hn2 : d - (lv + 1) = n := by omega
          rw [hn, lvls] at hr
          have h0 : lvN p l lv (l.length - 0) 0 = lvN p l lv l.length 0 := by rw [Nat.sub_zero]
          rw [← h0] at hr
          rw [chainsFrom_at] at hac
          have hac0 : acc.length + (atLv lv (l.drop 0) + chainsFrom (lv + 1) l) ≤ 1048576 := hac
          have hwl : IntKind.i64.wrap ((lv : Int) + 1) = ((lv + 1 : Nat) : Int) := by rw [IntWalk.i64_in _ (by omega)]; omega
          repeat' ((conv => whnf); first | (with_reducible first | refine W1 ?_ | refine W2 ?_ | refine W3 ?_ | refine W4 ?_ | refine W5 ?_ | refine W6 ?_ | refine W7 ?_ | refine W8 ?_ | refine W9 ?_) | refine reg_inl ?_ | refine And.intro (Obl.out (?_ : Obl _)) ?_ | refine ifB_intro (fun h => ?_) (fun h => ?_) | refine Exists.intro _ (And.intro rfl ?_) | ((with_reducible show _ = _); rfl))
          all_goals try ((with_reducible refine Obl.mk ?_); first | ((with_reducible show regOk _ _ = true); kernel_rfl) | rfl | exact trivial | ((repeat' (first | exact trivial | refine And.intro ?_ ?_)); done) | decide | ((repeat' (first | exact List.forall_mem_nil _ | refine Wm rfl ?_)); done))
          all_goals try (exfalso; simp only [decide_eq_false_iff_not, decide_eq_true_eq] at *; omega)
          conv => whnf
          refine ⟨{ q : Nat × List TInline // q.1 ≤ l.length ∧ q.2.length + (atLv lv (l.drop q.1) + chainsFrom (lv + 1) l) ≤ 1048576 ∧ q.2 ++ (lvN p l lv (l.length - q.1) q.1 ++ lvls p l n (lv + 1)) = R }, fun q => ⟨[(0, vP p), (1, vPl l), (6, tI .i64 (d : Int)), (5, .r (.c (.own (8, 0, 0)))), (8, tI .i64 (lv : Int)), (9, tI .i64 (q.1.1 : Int))], [((8, 0, 0), some (.arr true 5 (q.1.2.map TInline.tr)))], [8]⟩, fun q => l.length - q.1.1, ⟨(0, acc), by dsimp only; omega, hac0, hr⟩, ?_, ?_⟩
          · skip
            repeat' ((conv => whnf); first | (with_reducible first | refine W1 ?_ | refine W2 ?_ | refine W3 ?_ | refine W4 ?_ | refine W5 ?_ | refine W6 ?_ | refine W7 ?_ | refine W8 ?_ | refine W9 ?_) | refine reg_inl ?_ | refine And.intro (Obl.out (?_ : Obl _)) ?_ | refine ifB_intro (fun h => ?_) (fun h => ?_) | refine Exists.intro _ (And.intro rfl ?_) | ((with_reducible show _ = _); rfl))
            all_goals try ((with_reducible refine Obl.mk ?_); first | ((with_reducible show regOk _ _ = true); kernel_rfl) | rfl | exact trivial | ((repeat' (first | exact trivial | refine And.intro ?_ ?_)); done) | decide | ((repeat' (first | exact List.forall_mem_nil _ | refine Wm rfl ?_)); done))
          clear hr hac hac0 h0
          intro ⟨⟨i, acc⟩, hi, hac, hr⟩
          dsimp only at hi hac hr ⊢
          by_cases hil : i < l.length
          · obtain ⟨x, hx⟩ := get_of_lt hil
            have hcl : (x.fItem.fChain.map intRow).length = x.fItem.fChain.length := by simp
            have hcx := hcs x (List.mem_of_getElem? hx)
            have hxo := hnm x (List.mem_of_getElem? hx)
            rw [lvN_step hx] at hr
            rw [atLv_drop hx] at hac
            by_cases hcb : lv < x.fItem.fChain.length
            · obtain ⟨c, hc⟩ := get_of_lt hcb
              rw [if_pos hcb] at hac
              rw [hc] at hr
              dsimp only at hr
              have hN := s_spec_l16Name p x lv hpl (by omega)
              obtain ⟨nm, hnmE⟩ : ∃ nm, nameAtI p x.fItem lv = nm := ⟨_, rfl⟩
              rw [hnmE] at hN hr
              have hrl := runN_le (p := p) (ch := x.fItem.fChain) (lv := lv) (nm := nm) (l := l.drop (i + 1)) (k := i + 1)
              rw [List.length_drop] at hrl
              obtain ⟨E, hE⟩ : ∃ E, runN p x.fItem.fChain lv nm (l.drop (i + 1)) (i + 1) = E := ⟨_, rfl⟩
              rw [hE] at hr hrl
              repeat' ((conv => whnf); first | (with_reducible first | refine W1 ?_ | refine W2 ?_ | refine W3 ?_ | refine W4 ?_ | refine W5 ?_ | refine W6 ?_ | refine W7 ?_ | refine W8 ?_ | refine W9 ?_) | refine reg_inl ?_ | refine And.intro (Obl.out (?_ : Obl _)) ?_ | refine ifB_intro (fun h => ?_) (fun h => ?_) | refine ⟨i, x.tr, rfl, map_get hx, ?_⟩ | refine Or.inl (call_intro (hN) (And.intro rfl (And.intro (And.intro rfl (And.intro rfl (And.intro rfl (And.intro rfl (And.intro rfl (And.intro rfl (And.intro rfl (And.intro rfl trivial)))))))) (And.intro rfl trivial))) ?_) | refine Exists.intro _ (And.intro rfl ?_) | ((with_reducible show _ = _); rfl))
              all_goals try ((with_reducible refine Obl.mk ?_); first | ((with_reducible show regOk _ _ = true); kernel_rfl) | rfl | exact trivial | ((repeat' (first | exact trivial | refine And.intro ?_ ?_)); done) | decide | ((repeat' (first | exact List.forall_mem_nil _ | refine Wm rfl ?_)); done))
              all_goals try (exfalso; simp only [decide_eq_false_iff_not, decide_eq_true_eq] at *; omega)
              all_goals try (exfalso; have h' := of_decide_eq_true h; rw [hcl] at h'; omega)
              conv => whnf
              refine ⟨{ k : Nat // i < k ∧ k ≤ l.length ∧ runN p x.fItem.fChain lv nm (l.drop k) k = E }, fun q => ⟨[(0, vP p), (1, vPl l), (6, tI .i64 (d : Int)), (5, .r (.c (.own (8, 0, 0)))), (8, tI .i64 (lv : Int)), (9, tI .i64 (i : Int)), (10, .r (.c (.t (.lst 1 (x.fItem.fChain.map intRow))))), (11, tI .i64 (((q.1 - 1 : Nat) : Int) : Int)), (12, tS nm)], [((8, 0, 0), some (.arr true 5 (acc.map TInline.tr)))], [8]⟩, fun q => l.length - q.1, ⟨i + 1, by omega, by omega, hE⟩, ?_, ?_⟩
              · skip
                repeat' ((conv => whnf); first | (with_reducible first | refine W1 ?_ | refine W2 ?_ | refine W3 ?_ | refine W4 ?_ | refine W5 ?_ | refine W6 ?_ | refine W7 ?_ | refine W8 ?_ | refine W9 ?_) | refine reg_inl ?_ | refine And.intro (Obl.out (?_ : Obl _)) ?_ | refine ifB_intro (fun h => ?_) (fun h => ?_) | refine Exists.intro _ (And.intro rfl ?_) | ((with_reducible show _ = _); rfl))
                all_goals try ((with_reducible refine Obl.mk ?_); first | ((with_reducible show regOk _ _ = true); kernel_rfl) | rfl | exact trivial | ((repeat' (first | exact trivial | refine And.intro ?_ ?_)); done) | decide | ((repeat' (first | exact List.forall_mem_nil _ | refine Wm rfl ?_)); done))
                all_goals try exact ⟨by dsimp only; rw [IntWalk.i64_in _ (by omega)]; rfl⟩
                all_goals try exact ⟨by dsimp only; congr 1; omega⟩
              intro ⟨k, hik, hkl, hk⟩
              dsimp only at hik hkl hk ⊢
              have hwk1 : IntKind.i64.wrap (((k - 1 : Nat) : Int) + 1) = (k : Int) := by rw [IntWalk.i64_in _ (by omega)]; omega
              by_cases hkl2 : k < l.length
              · obtain ⟨y, hy⟩ := get_of_lt hkl2
                have hcy := hcs y (List.mem_of_getElem? hy)
                have hN2 := s_spec_l16Name p y lv hpl (by omega)
                have hQ := s_spec_l16Same x.fItem.fChain y.fItem.fChain (lv + 1) hcx hcy
                have hsame : sameTo x.fItem.fChain y.fItem.fChain (lv + 1) = (decide (lv < y.fItem.fChain.length) && (y.fItem.fChain.take (lv + 1) == x.fItem.fChain.take (lv + 1))) := by
                  rw [sameTo, decide_eq_true (show lv + 1 ≤ x.fItem.fChain.length by omega), Bool.true_and, show (x.fItem.fChain.take (lv + 1) == y.fItem.fChain.take (lv + 1)) = (y.fItem.fChain.take (lv + 1) == x.fItem.fChain.take (lv + 1)) from BEq.comm]
                  rfl
                rw [runN_at hy, joinsI, ← Bool.and_assoc, ← hsame] at hk
                generalize nameAtI p y.fItem lv = ny at *
                generalize sameTo x.fItem.fChain y.fItem.fChain (lv + 1) = sq at *
                clear hsame
                cases sq with
                | false =>
                  rw [Bool.false_and, if_neg (by simp)] at hk
                  subst hk
                  repeat' ((conv => whnf); first | (with_reducible first | refine W1 ?_ | refine W2 ?_ | refine W3 ?_ | refine W4 ?_ | refine W5 ?_ | refine W6 ?_ | refine W7 ?_ | refine W8 ?_ | refine W9 ?_) | refine reg_inl ?_ | refine And.intro (Obl.out (?_ : Obl _)) ?_ | refine ifB_intro (fun h => ?_) (fun h => ?_) | refine ⟨k, y.tr, hwk1, map_get hy, ?_⟩ | refine Or.inl (call_intro (hQ) (And.intro rfl (And.intro rfl (And.intro (congrArg (Tr.int _) (by first | rfl | (simp (disch := omega) only [IntWalk.i64_in]; done) | ((try simp (disch := omega) only [IntWalk.i64_in]); omega))) trivial))) ?_) | refine Or.inl (call_intro (hN2) (And.intro rfl (And.intro (And.intro rfl (And.intro rfl (And.intro rfl (And.intro rfl (And.intro rfl (And.intro rfl (And.intro rfl (And.intro rfl trivial)))))))) (And.intro rfl trivial))) ?_) | refine Exists.intro _ (And.intro rfl ?_) | ((with_reducible show _ = _); rfl))
                  all_goals try ((with_reducible refine Obl.mk ?_); first | ((with_reducible show regOk _ _ = true); kernel_rfl) | rfl | exact trivial | ((repeat' (first | exact trivial | refine And.intro ?_ ?_)); done) | decide | ((repeat' (first | exact List.forall_mem_nil _ | refine Wm rfl ?_)); done))
                  all_goals try (exfalso; simp only [decide_eq_false_iff_not, decide_eq_true_eq] at *; omega)
                  all_goals try (exfalso; have h' := of_decide_eq_false h; rw [hwk1] at h'; omega)
                  obtain ⟨z, hz⟩ := get_of_lt (l := l) (k := k - 1) (by omega)
                  rw [hz] at hr
                  dsimp only at hr
                  have hzo := hnm z (List.mem_of_getElem? hz)
                  have hS := s_spec_OpSize z.fItem.fOp.fCode
                  have hsz := opSize_le z.fItem.fOp.fCode
                  have hwe : IntKind.i64.wrap (z.fOffset + opSize z.fItem.fOp.fCode) = endPl z := by rw [IntWalk.i64_in _ (by omega)]; rfl
                  have hat := atLv_le (lv := lv) (l := l) (show i + 1 ≤ k by omega)
                  repeat' ((conv => whnf); first | (with_reducible first | refine W1 ?_ | refine W2 ?_ | refine W3 ?_ | refine W4 ?_ | refine W5 ?_ | refine W6 ?_ | refine W7 ?_ | refine W8 ?_ | refine W9 ?_) | refine reg_inl ?_ | refine And.intro (Obl.out (?_ : Obl _)) ?_ | refine ifB_intro (fun h => ?_) (fun h => ?_) | refine ⟨i, x.tr, rfl, map_get hx, ?_⟩ | refine ⟨(k - 1), z.tr, rfl, map_get hz, ?_⟩ | refine ⟨lv, (intRow c), rfl, map_get hc, ?_⟩ | refine Or.inl (call_intro (hS) (And.intro rfl trivial) ?_) | refine Exists.intro _ (And.intro rfl ?_) | ((with_reducible show _ = _); rfl))
                  all_goals try ((with_reducible refine Obl.mk ?_); first | ((with_reducible show regOk _ _ = true); kernel_rfl) | rfl | exact trivial | ((repeat' (first | exact trivial | refine And.intro ?_ ?_)); done) | decide | ((repeat' (first | exact List.forall_mem_nil _ | refine Wm rfl ?_)); done))
                  all_goals try exact ⟨⟨by simp <;> omega, by simp <;> omega⟩⟩
                  conv => whnf
                  refine ⟨⟨(k, acc ++ [inlRec p lv x c z]), by dsimp only; omega, by simp; omega, by rw [← hr]; simp⟩, ?_, by dsimp only; omega⟩
                  repeat' ((conv => whnf); first | (with_reducible first | refine W1 ?_ | refine W2 ?_ | refine W3 ?_ | refine W4 ?_ | refine W5 ?_ | refine W6 ?_ | refine W7 ?_ | refine W8 ?_ | refine W9 ?_) | refine reg_inl ?_ | refine And.intro (Obl.out (?_ : Obl _)) ?_ | refine ifB_intro (fun h => ?_) (fun h => ?_) | refine Exists.intro _ (And.intro rfl ?_) | ((with_reducible show _ = _); rfl))
                  all_goals try ((with_reducible refine Obl.mk ?_); first | ((with_reducible show regOk _ _ = true); kernel_rfl) | rfl | exact trivial | ((repeat' (first | exact trivial | refine And.intro ?_ ?_)); done) | decide | ((repeat' (first | exact List.forall_mem_nil _ | refine Wm rfl ?_)); done))
                  all_goals try exact ⟨by dsimp only; rw [hwk1]⟩
                  all_goals try exact ⟨by simp [inlRec, TInline.tr, hnmE, hwe]⟩
                | true =>
                  rw [Bool.true_and] at hk
                  by_cases hny : ny = nm
                  · rw [beq_iff_eq.2 hny, if_pos rfl] at hk
                    repeat' ((conv => whnf); first | (with_reducible first | refine W1 ?_ | refine W2 ?_ | refine W3 ?_ | refine W4 ?_ | refine W5 ?_ | refine W6 ?_ | refine W7 ?_ | refine W8 ?_ | refine W9 ?_) | refine reg_inl ?_ | refine And.intro (Obl.out (?_ : Obl _)) ?_ | refine ifB_intro (fun h => ?_) (fun h => ?_) | refine ⟨k, y.tr, hwk1, map_get hy, ?_⟩ | refine Or.inl (call_intro (hQ) (And.intro rfl (And.intro rfl (And.intro (congrArg (Tr.int _) (by first | rfl | (simp (disch := omega) only [IntWalk.i64_in]; done) | ((try simp (disch := omega) only [IntWalk.i64_in]); omega))) trivial))) ?_) | refine Or.inl (call_intro (hN2) (And.intro rfl (And.intro (And.intro rfl (And.intro rfl (And.intro rfl (And.intro rfl (And.intro rfl (And.intro rfl (And.intro rfl (And.intro rfl trivial)))))))) (And.intro rfl trivial))) ?_) | refine Exists.intro _ (And.intro rfl ?_) | ((with_reducible show _ = _); rfl))
                    all_goals try ((with_reducible refine Obl.mk ?_); first | ((with_reducible show regOk _ _ = true); kernel_rfl) | rfl | exact trivial | ((repeat' (first | exact trivial | refine And.intro ?_ ?_)); done) | decide | ((repeat' (first | exact List.forall_mem_nil _ | refine Wm rfl ?_)); done))
                    all_goals try (exfalso; simp only [decide_eq_false_iff_not, decide_eq_true_eq] at *; omega)
                    all_goals try (exfalso; have h' := of_decide_eq_false h; rw [hwk1] at h'; omega)
                    all_goals try (exfalso; simp_all; done)
                    conv => whnf
                    refine ⟨⟨k + 1, by omega, by omega, hk⟩, ?_, by dsimp only; omega⟩
                    repeat' ((conv => whnf); first | (with_reducible first | refine W1 ?_ | refine W2 ?_ | refine W3 ?_ | refine W4 ?_ | refine W5 ?_ | refine W6 ?_ | refine W7 ?_ | refine W8 ?_ | refine W9 ?_) | refine reg_inl ?_ | refine And.intro (Obl.out (?_ : Obl _)) ?_ | refine ifB_intro (fun h => ?_) (fun h => ?_) | refine Exists.intro _ (And.intro rfl ?_) | ((with_reducible show _ = _); rfl))
                    all_goals try ((with_reducible refine Obl.mk ?_); first | ((with_reducible show regOk _ _ = true); kernel_rfl) | rfl | exact trivial | ((repeat' (first | exact trivial | refine And.intro ?_ ?_)); done) | decide | ((repeat' (first | exact List.forall_mem_nil _ | refine Wm rfl ?_)); done))
                    all_goals try exact ⟨by dsimp only; rw [hwk1]; congr 1⟩
                  · rw [beq_eq_false_iff_ne.2 hny, if_neg (by simp)] at hk
                    subst hk
                    repeat' ((conv => whnf); first | (with_reducible first | refine W1 ?_ | refine W2 ?_ | refine W3 ?_ | refine W4 ?_ | refine W5 ?_ | refine W6 ?_ | refine W7 ?_ | refine W8 ?_ | refine W9 ?_) | refine reg_inl ?_ | refine And.intro (Obl.out (?_ : Obl _)) ?_ | refine ifB_intro (fun h => ?_) (fun h => ?_) | refine ⟨k, y.tr, hwk1, map_get hy, ?_⟩ | refine Or.inl (call_intro (hQ) (And.intro rfl (And.intro rfl (And.intro (congrArg (Tr.int _) (by first | rfl | (simp (disch := omega) only [IntWalk.i64_in]; done) | ((try simp (disch := omega) only [IntWalk.i64_in]); omega))) trivial))) ?_) | refine Or.inl (call_intro (hN2) (And.intro rfl (And.intro (And.intro rfl (And.intro rfl (And.intro rfl (And.intro rfl (And.intro rfl (And.intro rfl (And.intro rfl (And.intro rfl trivial)))))))) (And.intro rfl trivial))) ?_) | refine Exists.intro _ (And.intro rfl ?_) | ((with_reducible show _ = _); rfl))
                    all_goals try ((with_reducible refine Obl.mk ?_); first | ((with_reducible show regOk _ _ = true); kernel_rfl) | rfl | exact trivial | ((repeat' (first | exact trivial | refine And.intro ?_ ?_)); done) | decide | ((repeat' (first | exact List.forall_mem_nil _ | refine Wm rfl ?_)); done))
                    all_goals try (exfalso; simp only [decide_eq_false_iff_not, decide_eq_true_eq] at *; omega)
                    all_goals try (exfalso; have h' := of_decide_eq_false h; rw [hwk1] at h'; omega)
                    all_goals try (exfalso; simp_all; done)
                    obtain ⟨z, hz⟩ := get_of_lt (l := l) (k := k - 1) (by omega)
                    rw [hz] at hr
                    dsimp only at hr
                    have hzo := hnm z (List.mem_of_getElem? hz)
                    have hS := s_spec_OpSize z.fItem.fOp.fCode
                    have hsz := opSize_le z.fItem.fOp.fCode
                    have hwe : IntKind.i64.wrap (z.fOffset + opSize z.fItem.fOp.fCode) = endPl z := by rw [IntWalk.i64_in _ (by omega)]; rfl
                    have hat := atLv_le (lv := lv) (l := l) (show i + 1 ≤ k by omega)
                    repeat' ((conv => whnf); first | (with_reducible first | refine W1 ?_ | refine W2 ?_ | refine W3 ?_ | refine W4 ?_ | refine W5 ?_ | refine W6 ?_ | refine W7 ?_ | refine W8 ?_ | refine W9 ?_) | refine reg_inl ?_ | refine And.intro (Obl.out (?_ : Obl _)) ?_ | refine ifB_intro (fun h => ?_) (fun h => ?_) | refine ⟨i, x.tr, rfl, map_get hx, ?_⟩ | refine ⟨(k - 1), z.tr, rfl, map_get hz, ?_⟩ | refine ⟨lv, (intRow c), rfl, map_get hc, ?_⟩ | refine Or.inl (call_intro (hS) (And.intro rfl trivial) ?_) | refine Exists.intro _ (And.intro rfl ?_) | ((with_reducible show _ = _); rfl))
                    all_goals try ((with_reducible refine Obl.mk ?_); first | ((with_reducible show regOk _ _ = true); kernel_rfl) | rfl | exact trivial | ((repeat' (first | exact trivial | refine And.intro ?_ ?_)); done) | decide | ((repeat' (first | exact List.forall_mem_nil _ | refine Wm rfl ?_)); done))
                    all_goals try exact ⟨⟨by simp <;> omega, by simp <;> omega⟩⟩
                    conv => whnf
                    refine ⟨⟨(k, acc ++ [inlRec p lv x c z]), by dsimp only; omega, by simp; omega, by rw [← hr]; simp⟩, ?_, by dsimp only; omega⟩
                    repeat' ((conv => whnf); first | (with_reducible first | refine W1 ?_ | refine W2 ?_ | refine W3 ?_ | refine W4 ?_ | refine W5 ?_ | refine W6 ?_ | refine W7 ?_ | refine W8 ?_ | refine W9 ?_) | refine reg_inl ?_ | refine And.intro (Obl.out (?_ : Obl _)) ?_ | refine ifB_intro (fun h => ?_) (fun h => ?_) | refine Exists.intro _ (And.intro rfl ?_) | ((with_reducible show _ = _); rfl))
                    all_goals try ((with_reducible refine Obl.mk ?_); first | ((with_reducible show regOk _ _ = true); kernel_rfl) | rfl | exact trivial | ((repeat' (first | exact trivial | refine And.intro ?_ ?_)); done) | decide | ((repeat' (first | exact List.forall_mem_nil _ | refine Wm rfl ?_)); done))
                    all_goals try exact ⟨by dsimp only; rw [hwk1]⟩
                    all_goals try exact ⟨by simp [inlRec, TInline.tr, hnmE, hwe]⟩
              · rw [runN_end (by omega)] at hk
                subst hk
                repeat' ((conv => whnf); first | (with_reducible first | refine W1 ?_ | refine W2 ?_ | refine W3 ?_ | refine W4 ?_ | refine W5 ?_ | refine W6 ?_ | refine W7 ?_ | refine W8 ?_ | refine W9 ?_) | refine reg_inl ?_ | refine And.intro (Obl.out (?_ : Obl _)) ?_ | refine ifB_intro (fun h => ?_) (fun h => ?_) | refine Exists.intro _ (And.intro rfl ?_) | ((with_reducible show _ = _); rfl))
                all_goals try ((with_reducible refine Obl.mk ?_); first | ((with_reducible show regOk _ _ = true); kernel_rfl) | rfl | exact trivial | ((repeat' (first | exact trivial | refine And.intro ?_ ?_)); done) | decide | ((repeat' (first | exact List.forall_mem_nil _ | refine Wm rfl ?_)); done))
                all_goals try (exfalso; simp only [decide_eq_false_iff_not, decide_eq_true_eq] at *; omega)
                all_goals try (exfalso; have h' := of_decide_eq_true h; rw [hwk1] at h'; omega)
                obtain ⟨z, hz⟩ := get_of_lt (l := l) (k := k - 1) (by omega)
                rw [hz] at hr
                dsimp only at hr
                have hzo := hnm z (List.mem_of_getElem? hz)
                have hS := s_spec_OpSize z.fItem.fOp.fCode
                have hsz := opSize_le z.fItem.fOp.fCode
                have hwe : IntKind.i64.wrap (z.fOffset + opSize z.fItem.fOp.fCode) = endPl z := by rw [IntWalk.i64_in _ (by omega)]; rfl
                have hat := atLv_le (lv := lv) (l := l) (show i + 1 ≤ k by omega)
                repeat' ((conv => whnf); first | (with_reducible first | refine W1 ?_ | refine W2 ?_ | refine W3 ?_ | refine W4 ?_ | refine W5 ?_ | refine W6 ?_ | refine W7 ?_ | refine W8 ?_ | refine W9 ?_) | refine reg_inl ?_ | refine And.intro (Obl.out (?_ : Obl _)) ?_ | refine ifB_intro (fun h => ?_) (fun h => ?_) | refine ⟨i, x.tr, rfl, map_get hx, ?_⟩ | refine ⟨(k - 1), z.tr, rfl, map_get hz, ?_⟩ | refine ⟨lv, (intRow c), rfl, map_get hc, ?_⟩ | refine Or.inl (call_intro (hS) (And.intro rfl trivial) ?_) | refine Exists.intro _ (And.intro rfl ?_) | ((with_reducible show _ = _); rfl))
                all_goals try ((with_reducible refine Obl.mk ?_); first | ((with_reducible show regOk _ _ = true); kernel_rfl) | rfl | exact trivial | ((repeat' (first | exact trivial | refine And.intro ?_ ?_)); done) | decide | ((repeat' (first | exact List.forall_mem_nil _ | refine Wm rfl ?_)); done))
                all_goals try exact ⟨⟨by simp <;> omega, by simp <;> omega⟩⟩
                conv => whnf
                refine ⟨⟨(k, acc ++ [inlRec p lv x c z]), by dsimp only; omega, by simp; omega, by rw [← hr]; simp⟩, ?_, by dsimp only; omega⟩
                repeat' ((conv => whnf); first | (with_reducible first | refine W1 ?_ | refine W2 ?_ | refine W3 ?_ | refine W4 ?_ | refine W5 ?_ | refine W6 ?_ | refine W7 ?_ | refine W8 ?_ | refine W9 ?_) | refine reg_inl ?_ | refine And.intro (Obl.out (?_ : Obl _)) ?_ | refine ifB_intro (fun h => ?_) (fun h => ?_) | refine Exists.intro _ (And.intro rfl ?_) | ((with_reducible show _ = _); rfl))
                all_goals try ((with_reducible refine Obl.mk ?_); first | ((with_reducible show regOk _ _ = true); kernel_rfl) | rfl | exact trivial | ((repeat' (first | exact trivial | refine And.intro ?_ ?_)); done) | decide | ((repeat' (first | exact List.forall_mem_nil _ | refine Wm rfl ?_)); done))
                all_goals try exact ⟨by dsimp only; rw [hwk1]⟩
                all_goals try exact ⟨by simp [inlRec, TInline.tr, hnmE, hwe]⟩
            · rw [if_neg hcb, Nat.zero_add] at hac
              rw [List.getElem?_eq_none (by omega)] at hr
              dsimp only at hr
              repeat' ((conv => whnf); first | (with_reducible first | refine W1 ?_ | refine W2 ?_ | refine W3 ?_ | refine W4 ?_ | refine W5 ?_ | refine W6 ?_ | refine W7 ?_ | refine W8 ?_ | refine W9 ?_) | refine reg_inl ?_ | refine And.intro (Obl.out (?_ : Obl _)) ?_ | refine ifB_intro (fun h => ?_) (fun h => ?_) | refine ⟨i, x.tr, rfl, map_get hx, ?_⟩ | refine Exists.intro _ (And.intro rfl ?_) | ((with_reducible show _ = _); rfl))
              all_goals try ((with_reducible refine Obl.mk ?_); first | ((with_reducible show regOk _ _ = true); kernel_rfl) | rfl | exact trivial | ((repeat' (first | exact trivial | refine And.intro ?_ ?_)); done) | decide | ((repeat' (first | exact List.forall_mem_nil _ | refine Wm rfl ?_)); done))
              all_goals try (exfalso; simp only [decide_eq_false_iff_not, decide_eq_true_eq] at *; omega)
              all_goals try (exfalso; have h' := of_decide_eq_false h; rw [hcl] at h'; omega)
              conv => whnf
              refine ⟨⟨(i + 1, acc), by dsimp only; omega, hac, hr⟩, ?_, by dsimp only; omega⟩
              repeat' ((conv => whnf); first | (with_reducible first | refine W1 ?_ | refine W2 ?_ | refine W3 ?_ | refine W4 ?_ | refine W5 ?_ | refine W6 ?_ | refine W7 ?_ | refine W8 ?_ | refine W9 ?_) | refine reg_inl ?_ | refine And.intro (Obl.out (?_ : Obl _)) ?_ | refine ifB_intro (fun h => ?_) (fun h => ?_) | refine Exists.intro _ (And.intro rfl ?_) | ((with_reducible show _ = _); rfl))
              all_goals try ((with_reducible refine Obl.mk ?_); first | ((with_reducible show regOk _ _ = true); kernel_rfl) | rfl | exact trivial | ((repeat' (first | exact trivial | refine And.intro ?_ ?_)); done) | decide | ((repeat' (first | exact List.forall_mem_nil _ | refine Wm rfl ?_)); done))
              all_goals try exact ⟨by dsimp only; rw [IntWalk.i64_in _ (by omega)]; rfl⟩
          · rw [show l.length - i = 0 by omega, lvN, List.nil_append] at hr
            rw [List.drop_eq_nil_of_le (by omega)] at hac
            have hac2 : acc.length + chainsFrom (lv + 1) l ≤ 1048576 := by
              have : atLv lv ([] : List TPlace) = 0 := rfl
              omega
            repeat' ((conv => whnf); first | (with_reducible first | refine W1 ?_ | refine W2 ?_ | refine W3 ?_ | refine W4 ?_ | refine W5 ?_ | refine W6 ?_ | refine W7 ?_ | refine W8 ?_ | refine W9 ?_) | refine reg_inl ?_ | refine And.intro (Obl.out (?_ : Obl _)) ?_ | refine ifB_intro (fun h => ?_) (fun h => ?_) | refine Exists.intro _ (And.intro rfl ?_) | ((with_reducible show _ = _); rfl))
            all_goals try ((with_reducible refine Obl.mk ?_); first | ((with_reducible show regOk _ _ = true); kernel_rfl) | rfl | exact trivial | ((repeat' (first | exact trivial | refine And.intro ?_ ?_)); done) | decide | ((repeat' (first | exact List.forall_mem_nil _ | refine Wm rfl ?_)); done))
            all_goals try (exfalso; simp only [decide_eq_false_iff_not, decide_eq_true_eq] at *; omega)
            conv => whnf
            refine ⟨⟨(lv + 1, acc), by dsimp only; omega, hac2, by dsimp only; rw [hn2]; exact hr⟩, ?_, by dsimp only; omega⟩
            repeat' ((conv => whnf); first | (with_reducible first | refine W1 ?_ | refine W2 ?_ | refine W3 ?_ | refine W4 ?_ | refine W5 ?_ | refine W6 ?_ | refine W7 ?_ | refine W8 ?_ | refine W9 ?_) | refine reg_inl ?_ | refine And.intro (Obl.out (?_ : Obl _)) ?_ | refine ifB_intro (fun h => ?_) (fun h => ?_) | refine Exists.intro _ (And.intro rfl ?_) | ((with_reducible show _ = _); rfl))
            all_goals try ((with_reducible refine Obl.mk ?_); first | ((with_reducible show regOk _ _ = true); kernel_rfl) | rfl | exact trivial | ((repeat' (first | exact trivial | refine And.intro ?_ ?_)); done) | decide | ((repeat' (first | exact List.forall_mem_nil _ | refine Wm rfl ?_)); done))
            all_goals try exact ⟨by dsimp only; rw [hwl]⟩
            all_goals try exact ⟨by dsimp only; rw [IntWalk.i64_in _ (by omega)]; rfl⟩
        · rw [show d - lv = 0 by omega, lvls, List.append_nil] at hr
          subst hr
          repeat' ((conv => whnf); first | (with_reducible first | refine W1 ?_ | refine W2 ?_ | refine W3 ?_ | refine W4 ?_ | refine W5 ?_ | refine W6 ?_ | refine W7 ?_ | refine W8 ?_ | refine W9 ?_) | refine reg_inl ?_ | refine And.intro (Obl.out (?_ : Obl _)) ?_ | refine ifB_intro (fun h => ?_) (fun h => ?_) | refine Exists.intro _ (And.intro rfl ?_) | ((with_reducible show _ = _); rfl))
          all_goals try ((with_reducible refine Obl.mk ?_); first | ((with_reducible show regOk _ _ = true); kernel_rfl) | rfl | exact trivial | ((repeat' (first | exact trivial | refine And.intro ?_ ?_)); done) | decide | ((repeat' (first | exact List.forall_mem_nil _ | refine Wm rfl ?_)); done))
          all_goals try (exfalso; simp only [decide_eq_false_iff_not, decide_eq_true_eq] at *; omega)
end Go.Proofs.Ytehniaekfijmiaa
