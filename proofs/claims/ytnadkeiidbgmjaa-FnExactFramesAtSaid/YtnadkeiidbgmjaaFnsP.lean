/- InlinesAt, ViewOf, RowsOf in both texts. -/
import Derived.Test.YtnadkeiidbgmjaaFnsL
import Derived.Test.YtnadkeiidbgmjaaFnsQ
namespace Go.Proofs.Ytnadkeiidbgmjaa
open Go.Sim
set_option maxRecDepth 100000
set_option maxHeartbeats 4000000
def inAt (off : Int) (x : TInline) : Bool := decide (x.fStart ≤ off) && decide (off < x.fEnd)
def inlinesAt (l : List TInline) (off : Int) : List TInline := if inlinesOk l then l.filter (inAt off) else []
theorem filter_take {α : Type} {p : α → Bool} {l : List α} {k : Nat} {x : α} (h : l[k]? = some x) : (l.take (k + 1)).filter p = (l.take k).filter p ++ (if p x then [x] else []) := by
  obtain ⟨hk, rfl⟩ := List.getElem?_eq_some_iff.1 h
  rw [List.take_succ_eq_append_getElem hk, List.filter_append]
  congr 1
  by_cases hp : p l[k] <;> simp [hp]
theorem s_impl_InlinesAt (l : List TInline) (off : Int) (hl : l.length ≤ 1048576) (hn : ∀ x ∈ l, x.fName.length ≤ 1099511627775) : Sim.Spec Try.prog 32 [tvL 5 (l.map TInline.tr), tvI off] (rL 5 ((inlinesAt l off).map TInline.tr)) := by
  refine spec_of_W hΓ hmix Try.func32 rfl (by decide) rfl ?_
  have hlen : (l.map TInline.tr).length = l.length := by simp
  unfold inlinesAt
  cases hok : inlinesOk l with
  | false =>
    have hs := s_impl_InlinesOk l hl hn
    rw [hok] at hs
    repeat' (
      (conv => whnf)
      first
      | refine Or.inl ?_
      | refine And.intro (Obl.out (?_ : Obl _)) ?_
      | refine ifB_intro (fun h => ?_) (fun h => ?_)
      | refine call_intro (hs) (And.intro rfl trivial) ?_
      | refine Exists.intro _ (And.intro rfl ?_)
      | ((with_reducible show _ = _); rfl))
    all_goals try (
      (with_reducible refine Obl.mk ?_)
      first
      | ((with_reducible show regOk _ _ = true); kernel_rfl)
      | ((with_reducible show eqTyOk _ _ = true); kernel_rfl)
      | rfl
      | exact trivial
      | ((repeat' (first | exact trivial | refine And.intro ?_ ?_)); done)
      | decide
      | (intro r hr; simp only [List.mem_cons, List.not_mem_nil, or_false] at hr; first | (subst hr; rfl) | (rcases hr with rfl | rfl <;> rfl) | (rcases hr with rfl | rfl | rfl <;> rfl) | (rcases hr with rfl | rfl | rfl | rfl <;> rfl))
      | (refine And.intro ?_ ?_ <;> simp only [List.length_map, List.length_append, List.length_cons, List.length_nil] <;> omega))
  | true =>
    have hs := s_impl_InlinesOk l hl hn
    rw [hok] at hs
    rw [if_pos rfl]
    repeat' (
      (conv => whnf)
      first
      | refine Or.inl ?_
      | refine And.intro (Obl.out (?_ : Obl _)) ?_
      | refine ifB_intro (fun h => ?_) (fun h => ?_)
      | refine call_intro (hs) (And.intro rfl trivial) ?_
      | refine Exists.intro _ (And.intro rfl ?_)
      | ((with_reducible show _ = _); rfl))
    all_goals try (
      (with_reducible refine Obl.mk ?_)
      first
      | ((with_reducible show regOk _ _ = true); kernel_rfl)
      | ((with_reducible show eqTyOk _ _ = true); kernel_rfl)
      | rfl
      | exact trivial
      | ((repeat' (first | exact trivial | refine And.intro ?_ ?_)); done)
      | decide
      | (intro r hr; simp only [List.mem_cons, List.not_mem_nil, or_false] at hr; first | (subst hr; rfl) | (rcases hr with rfl | rfl <;> rfl) | (rcases hr with rfl | rfl | rfl <;> rfl) | (rcases hr with rfl | rfl | rfl | rfl <;> rfl))
      | (refine And.intro ?_ ?_ <;> simp only [List.length_map, List.length_append, List.length_cons, List.length_nil] <;> omega))
    conv => whnf
    refine ⟨{ k : Nat // k ≤ l.length }, fun k => ⟨[(1, tI .i64 off), (5, .r (.c (.own (11, 0, 0)))), (12, .r (.c (.t (.lst 5 (l.map TInline.tr))))), (13, tI .i64 ((l.map TInline.tr).length : Int)), (14, tI .i64 (k.1 : Int))], [((11, 0, 0), some (.arr true 5 (((l.take k.1).filter (inAt off)).map TInline.tr)))], [11]⟩, fun k => l.length - k.1, ⟨0, by omega⟩, ?_, ?_⟩
    · skip
      repeat' (
        (conv => whnf)
        first
        | refine Or.inl ?_
        | refine And.intro (Obl.out (?_ : Obl _)) ?_
        | refine ifB_intro (fun h => ?_) (fun h => ?_)
        | refine Exists.intro _ (And.intro rfl ?_)
        | ((with_reducible show _ = _); rfl))
      all_goals try (
        (with_reducible refine Obl.mk ?_)
        first
        | ((with_reducible show regOk _ _ = true); kernel_rfl)
        | ((with_reducible show eqTyOk _ _ = true); kernel_rfl)
        | rfl
        | exact trivial
        | ((repeat' (first | exact trivial | refine And.intro ?_ ?_)); done)
        | decide
        | (intro r hr; simp only [List.mem_cons, List.not_mem_nil, or_false] at hr; first | (subst hr; rfl) | (rcases hr with rfl | rfl <;> rfl) | (rcases hr with rfl | rfl | rfl <;> rfl) | (rcases hr with rfl | rfl | rfl | rfl <;> rfl))
        | (refine And.intro ?_ ?_ <;> simp only [List.length_map, List.length_append, List.length_cons, List.length_nil] <;> omega))
    intro ⟨k, hk⟩
    dsimp only
    by_cases hlt : k < l.length
    · obtain ⟨x, hx⟩ := get_of_lt hlt
      have hf := filter_take (p := inAt off) hx
      have hfl : ((l.take k).filter (inAt off)).length ≤ k := Nat.le_trans (List.length_filter_le _ _) (by simp; omega)
      repeat' (
        (conv => whnf)
        first
        | refine Or.inl ?_
        | refine And.intro (Obl.out (?_ : Obl _)) ?_
        | refine ifB_intro (fun h => ?_) (fun h => ?_)
        | refine ⟨k, x.tr, rfl, map_get hx, ?_⟩
        | refine Exists.intro _ (And.intro rfl ?_)
        | ((with_reducible show _ = _); rfl))
      all_goals try (
        (with_reducible refine Obl.mk ?_)
        first
        | ((with_reducible show regOk _ _ = true); kernel_rfl)
        | ((with_reducible show eqTyOk _ _ = true); kernel_rfl)
        | rfl
        | exact trivial
        | ((repeat' (first | exact trivial | refine And.intro ?_ ?_)); done)
        | decide
        | (intro r hr; simp only [List.mem_cons, List.not_mem_nil, or_false] at hr; first | (subst hr; rfl) | (rcases hr with rfl | rfl <;> rfl) | (rcases hr with rfl | rfl | rfl <;> rfl) | (rcases hr with rfl | rfl | rfl | rfl <;> rfl))
        | (refine And.intro ?_ ?_ <;> simp only [List.length_map, List.length_append, List.length_cons, List.length_nil] <;> omega))
      all_goals try (exfalso; simp only [decide_eq_false_iff_not, decide_eq_true_eq] at *; omega)
      all_goals try exact ⟨⟨by simp only [List.length_map, List.length_cons, List.length_nil]; omega, by simp only [List.length_map, List.length_cons, List.length_nil]; omega⟩⟩
      all_goals conv => whnf
      all_goals refine ⟨⟨k + 1, by omega⟩, ?_, by dsimp only; omega⟩
      repeat' (
        (conv => whnf)
        first
        | refine Or.inl ?_
        | refine And.intro (Obl.out (?_ : Obl _)) ?_
        | refine ifB_intro (fun h => ?_) (fun h => ?_)
        | refine Exists.intro _ (And.intro rfl ?_)
        | ((with_reducible show _ = _); rfl))
      all_goals try (
        (with_reducible refine Obl.mk ?_)
        first
        | ((with_reducible show regOk _ _ = true); kernel_rfl)
        | ((with_reducible show eqTyOk _ _ = true); kernel_rfl)
        | rfl
        | exact trivial
        | ((repeat' (first | exact trivial | refine And.intro ?_ ?_)); done)
        | decide
        | (intro r hr; simp only [List.mem_cons, List.not_mem_nil, or_false] at hr; first | (subst hr; rfl) | (rcases hr with rfl | rfl <;> rfl) | (rcases hr with rfl | rfl | rfl <;> rfl) | (rcases hr with rfl | rfl | rfl | rfl <;> rfl))
        | (refine And.intro ?_ ?_ <;> simp only [List.length_map, List.length_append, List.length_cons, List.length_nil] <;> omega))
      all_goals try exact ⟨by dsimp only; rw [IntWalk.i64_in _ (by omega)]; rfl⟩
      all_goals first
        | (have hp : inAt off x = true := by (simp_all [inAt]) <;> (intros; omega)
           rw [hp, if_pos rfl] at hf
           exact ⟨by dsimp only; rw [hf, List.map_append]; rfl⟩)
        | (have hp : inAt off x = false := by (simp_all [inAt]) <;> (intros; omega)
           rw [hp, if_neg (by simp), List.append_nil] at hf
           exact ⟨by dsimp only; rw [hf]⟩)
    · have hge : l.length ≤ k := by omega
      rw [List.take_of_length_le hge]
      repeat' (
        (conv => whnf)
        first
        | refine Or.inl ?_
        | refine And.intro (Obl.out (?_ : Obl _)) ?_
        | refine ifB_intro (fun h => ?_) (fun h => ?_)
        | refine Exists.intro _ (And.intro rfl ?_)
        | ((with_reducible show _ = _); rfl))
      all_goals try (
        (with_reducible refine Obl.mk ?_)
        first
        | ((with_reducible show regOk _ _ = true); kernel_rfl)
        | ((with_reducible show eqTyOk _ _ = true); kernel_rfl)
        | rfl
        | exact trivial
        | ((repeat' (first | exact trivial | refine And.intro ?_ ?_)); done)
        | decide
        | (intro r hr; simp only [List.mem_cons, List.not_mem_nil, or_false] at hr; first | (subst hr; rfl) | (rcases hr with rfl | rfl <;> rfl) | (rcases hr with rfl | rfl | rfl <;> rfl) | (rcases hr with rfl | rfl | rfl | rfl <;> rfl))
        | (refine And.intro ?_ ?_ <;> simp only [List.length_map, List.length_append, List.length_cons, List.length_nil] <;> omega))
      all_goals try (exfalso; simp only [decide_eq_false_iff_not, decide_eq_true_eq] at *; omega)
theorem s_spec_InlinesAt (l : List TInline) (off : Int) (hl : l.length ≤ 1048576) (hn : ∀ x ∈ l, x.fName.length ≤ 1099511627775) : Sim.Spec Try.prog 30 [tvL 5 (l.map TInline.tr), tvI off] (rL 5 ((inlinesAt l off).map TInline.tr)) := by
  refine spec_of_W hΓ hmix Try.func30 rfl (by decide) rfl ?_
  have hlen : (l.map TInline.tr).length = l.length := by simp
  unfold inlinesAt
  cases hok : inlinesOk l with
  | false =>
    have hs := s_spec_InlinesOk l hl hn
    rw [hok] at hs
    repeat' (
      (conv => whnf)
      first
      | refine Or.inl ?_
      | refine And.intro (Obl.out (?_ : Obl _)) ?_
      | refine ifB_intro (fun h => ?_) (fun h => ?_)
      | refine call_intro (hs) (And.intro rfl trivial) ?_
      | refine Exists.intro _ (And.intro rfl ?_)
      | ((with_reducible show _ = _); rfl))
    all_goals try (
      (with_reducible refine Obl.mk ?_)
      first
      | ((with_reducible show regOk _ _ = true); kernel_rfl)
      | ((with_reducible show eqTyOk _ _ = true); kernel_rfl)
      | rfl
      | exact trivial
      | ((repeat' (first | exact trivial | refine And.intro ?_ ?_)); done)
      | decide
      | (intro r hr; simp only [List.mem_cons, List.not_mem_nil, or_false] at hr; first | (subst hr; rfl) | (rcases hr with rfl | rfl <;> rfl) | (rcases hr with rfl | rfl | rfl <;> rfl) | (rcases hr with rfl | rfl | rfl | rfl <;> rfl))
      | (refine And.intro ?_ ?_ <;> simp only [List.length_map, List.length_append, List.length_cons, List.length_nil] <;> omega))
    conv => whnf
    refine ⟨Unit, fun _ => ⟨[(0, .r (.c (.t (.lst 5 (l.map TInline.tr))))), (5, .r (.c (.own (8, 0, 0)))), (6, tB false), (7, tI .i64 0)], [((8, 0, 0), some (.arr true 5 []))], [8]⟩, fun _ => 0, (), ?_, ?_⟩
    · skip
      repeat' (
        (conv => whnf)
        first
        | refine Or.inl ?_
        | refine And.intro (Obl.out (?_ : Obl _)) ?_
        | refine ifB_intro (fun h => ?_) (fun h => ?_)
        | refine Exists.intro _ (And.intro rfl ?_)
        | ((with_reducible show _ = _); rfl))
      all_goals try (
        (with_reducible refine Obl.mk ?_)
        first
        | ((with_reducible show regOk _ _ = true); kernel_rfl)
        | ((with_reducible show eqTyOk _ _ = true); kernel_rfl)
        | rfl
        | exact trivial
        | ((repeat' (first | exact trivial | refine And.intro ?_ ?_)); done)
        | decide
        | (intro r hr; simp only [List.mem_cons, List.not_mem_nil, or_false] at hr; first | (subst hr; rfl) | (rcases hr with rfl | rfl <;> rfl) | (rcases hr with rfl | rfl | rfl <;> rfl) | (rcases hr with rfl | rfl | rfl | rfl <;> rfl))
        | (refine And.intro ?_ ?_ <;> simp only [List.length_map, List.length_append, List.length_cons, List.length_nil] <;> omega))
    intro _
    repeat' (
      (conv => whnf)
      first
      | refine Or.inl ?_
      | refine And.intro (Obl.out (?_ : Obl _)) ?_
      | refine ifB_intro (fun h => ?_) (fun h => ?_)
      | refine Exists.intro _ (And.intro rfl ?_)
      | ((with_reducible show _ = _); rfl))
    all_goals try (
      (with_reducible refine Obl.mk ?_)
      first
      | ((with_reducible show regOk _ _ = true); kernel_rfl)
      | ((with_reducible show eqTyOk _ _ = true); kernel_rfl)
      | rfl
      | exact trivial
      | ((repeat' (first | exact trivial | refine And.intro ?_ ?_)); done)
      | decide
      | (intro r hr; simp only [List.mem_cons, List.not_mem_nil, or_false] at hr; first | (subst hr; rfl) | (rcases hr with rfl | rfl <;> rfl) | (rcases hr with rfl | rfl | rfl <;> rfl) | (rcases hr with rfl | rfl | rfl | rfl <;> rfl))
      | (refine And.intro ?_ ?_ <;> simp only [List.length_map, List.length_append, List.length_cons, List.length_nil] <;> omega))
    all_goals simp at *
  | true =>
    have hs := s_spec_InlinesOk l hl hn
    rw [hok] at hs
    rw [if_pos rfl]
    repeat' (
      (conv => whnf)
      first
      | refine Or.inl ?_
      | refine And.intro (Obl.out (?_ : Obl _)) ?_
      | refine ifB_intro (fun h => ?_) (fun h => ?_)
      | refine call_intro (hs) (And.intro rfl trivial) ?_
      | refine Exists.intro _ (And.intro rfl ?_)
      | ((with_reducible show _ = _); rfl))
    all_goals try (
      (with_reducible refine Obl.mk ?_)
      first
      | ((with_reducible show regOk _ _ = true); kernel_rfl)
      | ((with_reducible show eqTyOk _ _ = true); kernel_rfl)
      | rfl
      | exact trivial
      | ((repeat' (first | exact trivial | refine And.intro ?_ ?_)); done)
      | decide
      | (intro r hr; simp only [List.mem_cons, List.not_mem_nil, or_false] at hr; first | (subst hr; rfl) | (rcases hr with rfl | rfl <;> rfl) | (rcases hr with rfl | rfl | rfl <;> rfl) | (rcases hr with rfl | rfl | rfl | rfl <;> rfl))
      | (refine And.intro ?_ ?_ <;> simp only [List.length_map, List.length_append, List.length_cons, List.length_nil] <;> omega))
    conv => whnf
    refine ⟨{ k : Nat // k ≤ l.length }, fun k => ⟨[(0, .r (.c (.t (.lst 5 (l.map TInline.tr))))), (1, tI .i64 off), (5, .r (.c (.own (8, 0, 0)))), (6, tB true), (7, tI .i64 (k.1 : Int))], [((8, 0, 0), some (.arr true 5 (((l.take k.1).filter (inAt off)).map TInline.tr)))], [8]⟩, fun k => l.length - k.1, ⟨0, by omega⟩, ?_, ?_⟩
    · skip
      repeat' (
        (conv => whnf)
        first
        | refine Or.inl ?_
        | refine And.intro (Obl.out (?_ : Obl _)) ?_
        | refine ifB_intro (fun h => ?_) (fun h => ?_)
        | refine Exists.intro _ (And.intro rfl ?_)
        | ((with_reducible show _ = _); rfl))
      all_goals try (
        (with_reducible refine Obl.mk ?_)
        first
        | ((with_reducible show regOk _ _ = true); kernel_rfl)
        | ((with_reducible show eqTyOk _ _ = true); kernel_rfl)
        | rfl
        | exact trivial
        | ((repeat' (first | exact trivial | refine And.intro ?_ ?_)); done)
        | decide
        | (intro r hr; simp only [List.mem_cons, List.not_mem_nil, or_false] at hr; first | (subst hr; rfl) | (rcases hr with rfl | rfl <;> rfl) | (rcases hr with rfl | rfl | rfl <;> rfl) | (rcases hr with rfl | rfl | rfl | rfl <;> rfl))
        | (refine And.intro ?_ ?_ <;> simp only [List.length_map, List.length_append, List.length_cons, List.length_nil] <;> omega))
    intro ⟨k, hk⟩
    dsimp only
    by_cases hlt : k < l.length
    · obtain ⟨x, hx⟩ := get_of_lt hlt
      have hf := filter_take (p := inAt off) hx
      have hfl : ((l.take k).filter (inAt off)).length ≤ k := Nat.le_trans (List.length_filter_le _ _) (by simp; omega)
      repeat' (
        (conv => whnf)
        first
        | refine Or.inl ?_
        | refine And.intro (Obl.out (?_ : Obl _)) ?_
        | refine ifB_intro (fun h => ?_) (fun h => ?_)
        | refine ⟨k, x.tr, rfl, map_get hx, ?_⟩
        | refine Exists.intro _ (And.intro rfl ?_)
        | ((with_reducible show _ = _); rfl))
      all_goals try (
        (with_reducible refine Obl.mk ?_)
        first
        | ((with_reducible show regOk _ _ = true); kernel_rfl)
        | ((with_reducible show eqTyOk _ _ = true); kernel_rfl)
        | rfl
        | exact trivial
        | ((repeat' (first | exact trivial | refine And.intro ?_ ?_)); done)
        | decide
        | (intro r hr; simp only [List.mem_cons, List.not_mem_nil, or_false] at hr; first | (subst hr; rfl) | (rcases hr with rfl | rfl <;> rfl) | (rcases hr with rfl | rfl | rfl <;> rfl) | (rcases hr with rfl | rfl | rfl | rfl <;> rfl))
        | (refine And.intro ?_ ?_ <;> simp only [List.length_map, List.length_append, List.length_cons, List.length_nil] <;> omega))
      all_goals try (exfalso; simp only [decide_eq_false_iff_not, decide_eq_true_eq] at *; omega)
      all_goals try exact ⟨⟨by simp only [List.length_map, List.length_cons, List.length_nil]; omega, by simp only [List.length_map, List.length_cons, List.length_nil]; omega⟩⟩
      all_goals conv => whnf
      all_goals refine ⟨⟨k + 1, by omega⟩, ?_, by dsimp only; omega⟩
      repeat' (
        (conv => whnf)
        first
        | refine Or.inl ?_
        | refine And.intro (Obl.out (?_ : Obl _)) ?_
        | refine ifB_intro (fun h => ?_) (fun h => ?_)
        | refine Exists.intro _ (And.intro rfl ?_)
        | ((with_reducible show _ = _); rfl))
      all_goals try (
        (with_reducible refine Obl.mk ?_)
        first
        | ((with_reducible show regOk _ _ = true); kernel_rfl)
        | ((with_reducible show eqTyOk _ _ = true); kernel_rfl)
        | rfl
        | exact trivial
        | ((repeat' (first | exact trivial | refine And.intro ?_ ?_)); done)
        | decide
        | (intro r hr; simp only [List.mem_cons, List.not_mem_nil, or_false] at hr; first | (subst hr; rfl) | (rcases hr with rfl | rfl <;> rfl) | (rcases hr with rfl | rfl | rfl <;> rfl) | (rcases hr with rfl | rfl | rfl | rfl <;> rfl))
        | (refine And.intro ?_ ?_ <;> simp only [List.length_map, List.length_append, List.length_cons, List.length_nil] <;> omega))
      all_goals try exact ⟨by dsimp only; rw [IntWalk.i64_in _ (by omega)]; rfl⟩
      all_goals first
        | (have hp : inAt off x = true := by (simp_all [inAt]) <;> (intros; omega)
           rw [hp, if_pos rfl] at hf
           exact ⟨by dsimp only; rw [hf, List.map_append]; rfl⟩)
        | (have hp : inAt off x = false := by (simp_all [inAt]) <;> (intros; omega)
           rw [hp, if_neg (by simp), List.append_nil] at hf
           exact ⟨by dsimp only; rw [hf]⟩)
    · have hge : l.length ≤ k := by omega
      rw [List.take_of_length_le hge]
      repeat' (
        (conv => whnf)
        first
        | refine Or.inl ?_
        | refine And.intro (Obl.out (?_ : Obl _)) ?_
        | refine ifB_intro (fun h => ?_) (fun h => ?_)
        | refine Exists.intro _ (And.intro rfl ?_)
        | ((with_reducible show _ = _); rfl))
      all_goals try (
        (with_reducible refine Obl.mk ?_)
        first
        | ((with_reducible show regOk _ _ = true); kernel_rfl)
        | ((with_reducible show eqTyOk _ _ = true); kernel_rfl)
        | rfl
        | exact trivial
        | ((repeat' (first | exact trivial | refine And.intro ?_ ?_)); done)
        | decide
        | (intro r hr; simp only [List.mem_cons, List.not_mem_nil, or_false] at hr; first | (subst hr; rfl) | (rcases hr with rfl | rfl <;> rfl) | (rcases hr with rfl | rfl | rfl <;> rfl) | (rcases hr with rfl | rfl | rfl | rfl <;> rfl))
        | (refine And.intro ?_ ?_ <;> simp only [List.length_map, List.length_append, List.length_cons, List.length_nil] <;> omega))
      all_goals try (exfalso; simp only [decide_eq_false_iff_not, decide_eq_true_eq] at *; omega)
theorem inlinesAt_sub {l : List TInline} {off : Int} : ∀ x ∈ inlinesAt l off, x ∈ l := by
  intro x hx
  unfold inlinesAt at hx
  split at hx
  · exact (List.mem_filter.1 hx).1
  · cases hx
theorem inlinesAt_len (l : List TInline) (off : Int) : (inlinesAt l off).length ≤ l.length := by
  unfold inlinesAt
  split
  · exact List.length_filter_le _ _
  · simp
end Go.Proofs.Ytnadkeiidbgmjaa
