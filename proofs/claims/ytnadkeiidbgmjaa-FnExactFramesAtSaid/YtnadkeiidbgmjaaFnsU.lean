/- SymbolAt, FramesAt in both texts. -/
import Derived.Test.YtnadkeiidbgmjaaFnsP
import Derived.Test.YtnadkeiidbgmjaaFnsI
import Derived.Test.YtnadkeiidbgmjaaFnsS
namespace Go.Proofs.Ytnadkeiidbgmjaa
open Go.Sim
set_option maxRecDepth 100000
set_option maxHeartbeats 4000000
def symHit (off : Int) (x : TSymbol) : Bool := within x.fStart 0 1000000 && (within x.fSize 0 1000000 && (decide (x.fStart ≤ off) && decide (off < x.fStart + x.fSize)))
def symAtF (off : Int) : List TSymbol → Nat → Int
  | [], _ => -1
  | x :: l, k => if symHit off x then (k : Int) else symAtF off l (k + 1)
def symbolAt (l : List TSymbol) (off : Int) : Int := symAtF off l 0
theorem symAtF_at {off : Int} {l : List TSymbol} {k : Nat} {x : TSymbol} (hx : l[k]? = some x) : symAtF off (l.drop k) k = if symHit off x then (k : Int) else symAtF off (l.drop (k + 1)) (k + 1) := by
  rw [drop_at hx, symAtF]
theorem symAtF_range {off : Int} : ∀ (l : List TSymbol) (k : Nat), symAtF off l k = -1 ∨ ((k : Int) ≤ symAtF off l k ∧ symAtF off l k < k + l.length)
  | [], k => .inl (by rw [symAtF])
  | x :: l, k => by
    rw [symAtF]
    split
    · exact .inr ⟨by omega, by simp only [List.length_cons]; omega⟩
    · rcases symAtF_range l (k + 1) with h | h
      · exact .inl h
      · exact .inr ⟨by omega, by simp only [List.length_cons]; omega⟩
theorem symbolAt_range (l : List TSymbol) (off : Int) : symbolAt l off = -1 ∨ (0 ≤ symbolAt l off ∧ symbolAt l off < l.length) := by
  have := symAtF_range (off := off) l 0
  unfold symbolAt
  omega
theorem s_impl_SymbolAt (i : TImage) (off : Int) (hl : i.fSymbols.length ≤ 1048576) : Sim.Spec Try.prog 136 [.agg i.tr, tvI off] (rI (symbolAt i.fSymbols off)) := by
  refine spec_of_W hΓ hmix Try.func136 rfl (by decide) rfl ?_
  obtain ⟨code, l⟩ := i
  dsimp only at hl ⊢
  have hlen : (l.map TSymbol.tr).length = l.length := by simp
  unfold symbolAt
  repeat' (
    (conv => whnf)
    first
    | refine Or.inl ?_
    | refine And.intro (Obl.out (?_ : Obl _)) ?_
    | refine ifB_intro (fun h => ?_) (fun h => ?_)
    | refine Exists.intro _ (And.intro rfl ?_)
    | ((with_reducible show _ = _); rfl))
  all_goals try (
    (with_reducible refine Obl.mk ?_)
    first
    | ((with_reducible show regOk _ _ = true); kernel_rfl)
    | ((with_reducible show eqTyOk _ _ = true); kernel_rfl)
    | rfl
    | exact trivial
    | ((repeat' (first | exact trivial | refine And.intro ?_ ?_)); done)
    | decide
    | (intro r hr; simp only [List.mem_cons, List.not_mem_nil, or_false] at hr; first | (subst hr; rfl) | (rcases hr with rfl | rfl <;> rfl) | (rcases hr with rfl | rfl | rfl <;> rfl) | (rcases hr with rfl | rfl | rfl | rfl <;> rfl))
    | (refine And.intro ?_ ?_ <;> simp only [List.length_map, List.length_append, List.length_cons, List.length_nil] <;> omega))
  conv => whnf
  refine ⟨{ k : Nat // k ≤ l.length ∧ symAtF off (l.drop k) k = symAtF off l 0 }, fun k => ⟨[(1, tI .i64 off), (8, .r (.c (.t (.lst 3 (l.map TSymbol.tr))))), (9, tI .i64 ((l.map TSymbol.tr).length : Int)), (10, tI .i64 (k.1 : Int))], [], []⟩, fun k => l.length - k.1, ⟨0, by omega, by rw [List.drop_zero]⟩, ?_, ?_⟩
  · skip
    repeat' (
      (conv => whnf)
      first
      | refine Or.inl ?_
      | refine And.intro (Obl.out (?_ : Obl _)) ?_
      | refine ifB_intro (fun h => ?_) (fun h => ?_)
      | refine Exists.intro _ (And.intro rfl ?_)
      | ((with_reducible show _ = _); rfl))
    all_goals try (
      (with_reducible refine Obl.mk ?_)
      first
      | ((with_reducible show regOk _ _ = true); kernel_rfl)
      | ((with_reducible show eqTyOk _ _ = true); kernel_rfl)
      | rfl
      | exact trivial
      | ((repeat' (first | exact trivial | refine And.intro ?_ ?_)); done)
      | decide
      | (intro r hr; simp only [List.mem_cons, List.not_mem_nil, or_false] at hr; first | (subst hr; rfl) | (rcases hr with rfl | rfl <;> rfl) | (rcases hr with rfl | rfl | rfl <;> rfl) | (rcases hr with rfl | rfl | rfl | rfl <;> rfl))
      | (refine And.intro ?_ ?_ <;> simp only [List.length_map, List.length_append, List.length_cons, List.length_nil] <;> omega))
  intro ⟨k, hk, hr⟩
  dsimp only
  by_cases hlt : k < l.length
  · obtain ⟨x, hx⟩ := get_of_lt hlt
    rw [symAtF_at hx] at hr
    have hb1 := s_impl_between x.fStart 0 1000000
    have hb2 := s_impl_between x.fSize 0 1000000
    have hback : symHit off x = false → symAtF off (l.drop (k + 1)) (k + 1) = symAtF off l 0 := fun h => by rw [h, if_neg (by simp)] at hr; exact hr
    cases hw1 : within x.fStart 0 1000000 with
    | false =>
      have hh : symHit off x = false := by rw [symHit, hw1]; rfl
      rw [hw1] at hb1
      repeat' (
        (conv => whnf)
        first
        | refine Or.inl ?_
        | refine And.intro (Obl.out (?_ : Obl _)) ?_
        | refine ifB_intro (fun h => ?_) (fun h => ?_)
        | refine ⟨k, x.tr, rfl, map_get hx, ?_⟩
        | refine call_intro (hb1) (And.intro rfl (And.intro rfl (And.intro rfl trivial))) ?_
        | refine Exists.intro _ (And.intro rfl ?_)
        | ((with_reducible show _ = _); rfl))
      all_goals try (
        (with_reducible refine Obl.mk ?_)
        first
        | ((with_reducible show regOk _ _ = true); kernel_rfl)
        | ((with_reducible show eqTyOk _ _ = true); kernel_rfl)
        | rfl
        | exact trivial
        | ((repeat' (first | exact trivial | refine And.intro ?_ ?_)); done)
        | decide
        | (intro r hr; simp only [List.mem_cons, List.not_mem_nil, or_false] at hr; first | (subst hr; rfl) | (rcases hr with rfl | rfl <;> rfl) | (rcases hr with rfl | rfl | rfl <;> rfl) | (rcases hr with rfl | rfl | rfl | rfl <;> rfl))
        | (refine And.intro ?_ ?_ <;> simp only [List.length_map, List.length_append, List.length_cons, List.length_nil] <;> omega))
      all_goals try (exfalso; simp only [decide_eq_false_iff_not, decide_eq_true_eq] at *; omega)
      all_goals conv => whnf
      all_goals refine ⟨⟨k + 1, by omega, hback hh⟩, ?_, by dsimp only; omega⟩
      repeat' (
        (conv => whnf)
        first
        | refine Or.inl ?_
        | refine And.intro (Obl.out (?_ : Obl _)) ?_
        | refine ifB_intro (fun h => ?_) (fun h => ?_)
        | refine Exists.intro _ (And.intro rfl ?_)
        | ((with_reducible show _ = _); rfl))
      all_goals try (
        (with_reducible refine Obl.mk ?_)
        first
        | ((with_reducible show regOk _ _ = true); kernel_rfl)
        | ((with_reducible show eqTyOk _ _ = true); kernel_rfl)
        | rfl
        | exact trivial
        | ((repeat' (first | exact trivial | refine And.intro ?_ ?_)); done)
        | decide
        | (intro r hr; simp only [List.mem_cons, List.not_mem_nil, or_false] at hr; first | (subst hr; rfl) | (rcases hr with rfl | rfl <;> rfl) | (rcases hr with rfl | rfl | rfl <;> rfl) | (rcases hr with rfl | rfl | rfl | rfl <;> rfl))
        | (refine And.intro ?_ ?_ <;> simp only [List.length_map, List.length_append, List.length_cons, List.length_nil] <;> omega))
      all_goals exact ⟨by dsimp only; rw [IntWalk.i64_in _ (by omega)]; rfl⟩
    | true =>
      rw [hw1] at hb1
      cases hw2 : within x.fSize 0 1000000 with
      | false =>
        have hh : symHit off x = false := by rw [symHit, hw1, hw2]; rfl
        rw [hw2] at hb2
        repeat' (
          (conv => whnf)
          first
          | refine Or.inl ?_
          | refine And.intro (Obl.out (?_ : Obl _)) ?_
          | refine ifB_intro (fun h => ?_) (fun h => ?_)
          | refine ⟨k, x.tr, rfl, map_get hx, ?_⟩
          | refine call_intro (hb1) (And.intro rfl (And.intro rfl (And.intro rfl trivial))) ?_
          | refine call_intro (hb2) (And.intro rfl (And.intro rfl (And.intro rfl trivial))) ?_
          | refine Exists.intro _ (And.intro rfl ?_)
          | ((with_reducible show _ = _); rfl))
        all_goals try (
          (with_reducible refine Obl.mk ?_)
          first
          | ((with_reducible show regOk _ _ = true); kernel_rfl)
          | ((with_reducible show eqTyOk _ _ = true); kernel_rfl)
          | rfl
          | exact trivial
          | ((repeat' (first | exact trivial | refine And.intro ?_ ?_)); done)
          | decide
          | (intro r hr; simp only [List.mem_cons, List.not_mem_nil, or_false] at hr; first | (subst hr; rfl) | (rcases hr with rfl | rfl <;> rfl) | (rcases hr with rfl | rfl | rfl <;> rfl) | (rcases hr with rfl | rfl | rfl | rfl <;> rfl))
          | (refine And.intro ?_ ?_ <;> simp only [List.length_map, List.length_append, List.length_cons, List.length_nil] <;> omega))
        all_goals try (exfalso; simp only [decide_eq_false_iff_not, decide_eq_true_eq] at *; omega)
        all_goals conv => whnf
        all_goals refine ⟨⟨k + 1, by omega, hback hh⟩, ?_, by dsimp only; omega⟩
        repeat' (
          (conv => whnf)
          first
          | refine Or.inl ?_
          | refine And.intro (Obl.out (?_ : Obl _)) ?_
          | refine ifB_intro (fun h => ?_) (fun h => ?_)
          | refine Exists.intro _ (And.intro rfl ?_)
          | ((with_reducible show _ = _); rfl))
        all_goals try (
          (with_reducible refine Obl.mk ?_)
          first
          | ((with_reducible show regOk _ _ = true); kernel_rfl)
          | ((with_reducible show eqTyOk _ _ = true); kernel_rfl)
          | rfl
          | exact trivial
          | ((repeat' (first | exact trivial | refine And.intro ?_ ?_)); done)
          | decide
          | (intro r hr; simp only [List.mem_cons, List.not_mem_nil, or_false] at hr; first | (subst hr; rfl) | (rcases hr with rfl | rfl <;> rfl) | (rcases hr with rfl | rfl | rfl <;> rfl) | (rcases hr with rfl | rfl | rfl | rfl <;> rfl))
          | (refine And.intro ?_ ?_ <;> simp only [List.length_map, List.length_append, List.length_cons, List.length_nil] <;> omega))
        all_goals exact ⟨by dsimp only; rw [IntWalk.i64_in _ (by omega)]; rfl⟩
      | true =>
        rw [hw2] at hb2
        have hi1 := within_iff.1 hw1
        have hi2 := within_iff.1 hw2
        have hw3 : IntKind.i64.wrap (x.fStart + x.fSize) = x.fStart + x.fSize := IntWalk.i64_in _ (by omega)
        cases hh : symHit off x with
        | true =>
          rw [hh, if_pos rfl] at hr
          rw [symHit, hw1, hw2] at hh
          simp only [Bool.true_and, Bool.and_eq_true, decide_eq_true_eq] at hh
          repeat' (
            (conv => whnf)
            first
            | refine Or.inl ?_
            | refine And.intro (Obl.out (?_ : Obl _)) ?_
            | refine ifB_intro (fun h => ?_) (fun h => ?_)
            | refine ⟨k, x.tr, rfl, map_get hx, ?_⟩
            | refine call_intro (hb1) (And.intro rfl (And.intro rfl (And.intro rfl trivial))) ?_
            | refine call_intro (hb2) (And.intro rfl (And.intro rfl (And.intro rfl trivial))) ?_
            | refine Exists.intro _ (And.intro rfl ?_)
            | ((with_reducible show _ = _); rfl))
          all_goals try (
            (with_reducible refine Obl.mk ?_)
            first
            | ((with_reducible show regOk _ _ = true); kernel_rfl)
            | ((with_reducible show eqTyOk _ _ = true); kernel_rfl)
            | rfl
            | exact trivial
            | ((repeat' (first | exact trivial | refine And.intro ?_ ?_)); done)
            | decide
            | (intro r hr; simp only [List.mem_cons, List.not_mem_nil, or_false] at hr; first | (subst hr; rfl) | (rcases hr with rfl | rfl <;> rfl) | (rcases hr with rfl | rfl | rfl <;> rfl) | (rcases hr with rfl | rfl | rfl | rfl <;> rfl))
            | (refine And.intro ?_ ?_ <;> simp only [List.length_map, List.length_append, List.length_cons, List.length_nil] <;> omega))
          all_goals try (exfalso; simp only [decide_eq_false_iff_not, decide_eq_true_eq] at *; omega)
          all_goals try exact ⟨by rw [hr]⟩
          all_goals (exfalso; (try rw [hw3] at h); simp only [decide_eq_false_iff_not] at h; omega)
        | false =>
          have hbk := hback hh
          rw [symHit, hw1, hw2] at hh
          simp only [Bool.true_and, Bool.and_eq_false_iff, decide_eq_false_iff_not] at hh
          repeat' (
            (conv => whnf)
            first
            | refine Or.inl ?_
            | refine And.intro (Obl.out (?_ : Obl _)) ?_
            | refine ifB_intro (fun h => ?_) (fun h => ?_)
            | refine ⟨k, x.tr, rfl, map_get hx, ?_⟩
            | refine call_intro (hb1) (And.intro rfl (And.intro rfl (And.intro rfl trivial))) ?_
            | refine call_intro (hb2) (And.intro rfl (And.intro rfl (And.intro rfl trivial))) ?_
            | refine Exists.intro _ (And.intro rfl ?_)
            | ((with_reducible show _ = _); rfl))
          all_goals try (
            (with_reducible refine Obl.mk ?_)
            first
            | ((with_reducible show regOk _ _ = true); kernel_rfl)
            | ((with_reducible show eqTyOk _ _ = true); kernel_rfl)
            | rfl
            | exact trivial
            | ((repeat' (first | exact trivial | refine And.intro ?_ ?_)); done)
            | decide
            | (intro r hr; simp only [List.mem_cons, List.not_mem_nil, or_false] at hr; first | (subst hr; rfl) | (rcases hr with rfl | rfl <;> rfl) | (rcases hr with rfl | rfl | rfl <;> rfl) | (rcases hr with rfl | rfl | rfl | rfl <;> rfl))
            | (refine And.intro ?_ ?_ <;> simp only [List.length_map, List.length_append, List.length_cons, List.length_nil] <;> omega))
          all_goals try (exfalso; simp only [decide_eq_false_iff_not, decide_eq_true_eq] at *; omega)
          all_goals try (exfalso; rw [hw3] at *; simp only [decide_eq_true_eq] at *; omega)
          all_goals conv => whnf
          all_goals refine ⟨⟨k + 1, by omega, hbk⟩, ?_, by dsimp only; omega⟩
          repeat' (
            (conv => whnf)
            first
            | refine Or.inl ?_
            | refine And.intro (Obl.out (?_ : Obl _)) ?_
            | refine ifB_intro (fun h => ?_) (fun h => ?_)
            | refine Exists.intro _ (And.intro rfl ?_)
            | ((with_reducible show _ = _); rfl))
          all_goals try (
            (with_reducible refine Obl.mk ?_)
            first
            | ((with_reducible show regOk _ _ = true); kernel_rfl)
            | ((with_reducible show eqTyOk _ _ = true); kernel_rfl)
            | rfl
            | exact trivial
            | ((repeat' (first | exact trivial | refine And.intro ?_ ?_)); done)
            | decide
            | (intro r hr; simp only [List.mem_cons, List.not_mem_nil, or_false] at hr; first | (subst hr; rfl) | (rcases hr with rfl | rfl <;> rfl) | (rcases hr with rfl | rfl | rfl <;> rfl) | (rcases hr with rfl | rfl | rfl | rfl <;> rfl))
            | (refine And.intro ?_ ?_ <;> simp only [List.length_map, List.length_append, List.length_cons, List.length_nil] <;> omega))
          all_goals exact ⟨by dsimp only; rw [IntWalk.i64_in _ (by omega)]; rfl⟩
  · have hge : l.length ≤ k := by omega
    rw [List.drop_eq_nil_of_le hge, symAtF] at hr
    repeat' (
      (conv => whnf)
      first
      | refine Or.inl ?_
      | refine And.intro (Obl.out (?_ : Obl _)) ?_
      | refine ifB_intro (fun h => ?_) (fun h => ?_)
      | refine Exists.intro _ (And.intro rfl ?_)
      | ((with_reducible show _ = _); rfl))
    all_goals try (
      (with_reducible refine Obl.mk ?_)
      first
      | ((with_reducible show regOk _ _ = true); kernel_rfl)
      | ((with_reducible show eqTyOk _ _ = true); kernel_rfl)
      | rfl
      | exact trivial
      | ((repeat' (first | exact trivial | refine And.intro ?_ ?_)); done)
      | decide
      | (intro r hr; simp only [List.mem_cons, List.not_mem_nil, or_false] at hr; first | (subst hr; rfl) | (rcases hr with rfl | rfl <;> rfl) | (rcases hr with rfl | rfl | rfl <;> rfl) | (rcases hr with rfl | rfl | rfl | rfl <;> rfl))
      | (refine And.intro ?_ ?_ <;> simp only [List.length_map, List.length_append, List.length_cons, List.length_nil] <;> omega))
    all_goals try (exfalso; simp only [decide_eq_false_iff_not, decide_eq_true_eq] at *; omega)
    exact ⟨by rw [← hr]⟩
theorem s_spec_SymbolAt (i : TImage) (off : Int) (hl : i.fSymbols.length ≤ 1048576) : Sim.Spec Try.prog 133 [.agg i.tr, tvI off] (rI (symbolAt i.fSymbols off)) := by
  refine spec_of_W hΓ hmix Try.func133 rfl (by decide) rfl ?_
  obtain ⟨code, l⟩ := i
  dsimp only at hl ⊢
  have hlen : (l.map TSymbol.tr).length = l.length := by simp
  unfold symbolAt
  repeat' (
    (conv => whnf)
    first
    | refine Or.inl ?_
    | refine And.intro (Obl.out (?_ : Obl _)) ?_
    | refine ifB_intro (fun h => ?_) (fun h => ?_)
    | refine Exists.intro _ (And.intro rfl ?_)
    | ((with_reducible show _ = _); rfl))
  all_goals try (
    (with_reducible refine Obl.mk ?_)
    first
    | ((with_reducible show regOk _ _ = true); kernel_rfl)
    | ((with_reducible show eqTyOk _ _ = true); kernel_rfl)
    | rfl
    | exact trivial
    | ((repeat' (first | exact trivial | refine And.intro ?_ ?_)); done)
    | decide
    | (intro r hr; simp only [List.mem_cons, List.not_mem_nil, or_false] at hr; first | (subst hr; rfl) | (rcases hr with rfl | rfl <;> rfl) | (rcases hr with rfl | rfl | rfl <;> rfl) | (rcases hr with rfl | rfl | rfl | rfl <;> rfl))
    | (refine And.intro ?_ ?_ <;> simp only [List.length_map, List.length_append, List.length_cons, List.length_nil] <;> omega))
  conv => whnf
  refine ⟨{ k : Nat // k ≤ l.length ∧ symAtF off (l.drop k) k = symAtF off l 0 }, fun k => ⟨[(1, tI .i64 off), (2, .r (.c (.ptr (2, 0, 0) 0))), (5, tI .i64 (k.1 : Int))], [((2, 0, 0), some (.box [.t (.str code), .t (.lst 3 (l.map TSymbol.tr))]))], [2]⟩, fun k => l.length - k.1, ⟨0, by omega, by rw [List.drop_zero]⟩, ?_, ?_⟩
  · skip
    repeat' (
      (conv => whnf)
      first
      | refine Or.inl ?_
      | refine And.intro (Obl.out (?_ : Obl _)) ?_
      | refine ifB_intro (fun h => ?_) (fun h => ?_)
      | refine Exists.intro _ (And.intro rfl ?_)
      | ((with_reducible show _ = _); rfl))
    all_goals try (
      (with_reducible refine Obl.mk ?_)
      first
      | ((with_reducible show regOk _ _ = true); kernel_rfl)
      | ((with_reducible show eqTyOk _ _ = true); kernel_rfl)
      | rfl
      | exact trivial
      | ((repeat' (first | exact trivial | refine And.intro ?_ ?_)); done)
      | decide
      | (intro r hr; simp only [List.mem_cons, List.not_mem_nil, or_false] at hr; first | (subst hr; rfl) | (rcases hr with rfl | rfl <;> rfl) | (rcases hr with rfl | rfl | rfl <;> rfl) | (rcases hr with rfl | rfl | rfl | rfl <;> rfl))
      | (refine And.intro ?_ ?_ <;> simp only [List.length_map, List.length_append, List.length_cons, List.length_nil] <;> omega))
  intro ⟨k, hk, hr⟩
  dsimp only
  by_cases hlt : k < l.length
  · obtain ⟨x, hx⟩ := get_of_lt hlt
    rw [symAtF_at hx] at hr
    have hb1 := s_spec_l01In x.fStart 0 1000000
    have hb2 := s_spec_l01In x.fSize 0 1000000
    have hback : symHit off x = false → symAtF off (l.drop (k + 1)) (k + 1) = symAtF off l 0 := fun h => by rw [h, if_neg (by simp)] at hr; exact hr
    cases hw1 : within x.fStart 0 1000000 with
    | false =>
      have hh : symHit off x = false := by rw [symHit, hw1]; rfl
      rw [hw1] at hb1
      repeat' (
        (conv => whnf)
        first
        | refine Or.inl ?_
        | refine And.intro (Obl.out (?_ : Obl _)) ?_
        | refine ifB_intro (fun h => ?_) (fun h => ?_)
        | refine ⟨k, x.tr, rfl, map_get hx, ?_⟩
        | refine call_intro (hb1) (And.intro rfl (And.intro rfl (And.intro rfl trivial))) ?_
        | refine Exists.intro _ (And.intro rfl ?_)
        | ((with_reducible show _ = _); rfl))
      all_goals try (
        (with_reducible refine Obl.mk ?_)
        first
        | ((with_reducible show regOk _ _ = true); kernel_rfl)
        | ((with_reducible show eqTyOk _ _ = true); kernel_rfl)
        | rfl
        | exact trivial
        | ((repeat' (first | exact trivial | refine And.intro ?_ ?_)); done)
        | decide
        | (intro r hr; simp only [List.mem_cons, List.not_mem_nil, or_false] at hr; first | (subst hr; rfl) | (rcases hr with rfl | rfl <;> rfl) | (rcases hr with rfl | rfl | rfl <;> rfl) | (rcases hr with rfl | rfl | rfl | rfl <;> rfl))
        | (refine And.intro ?_ ?_ <;> simp only [List.length_map, List.length_append, List.length_cons, List.length_nil] <;> omega))
      all_goals try (exfalso; simp only [decide_eq_false_iff_not, decide_eq_true_eq] at *; omega)
      all_goals conv => whnf
      all_goals refine ⟨⟨k + 1, by omega, hback hh⟩, ?_, by dsimp only; omega⟩
      repeat' (
        (conv => whnf)
        first
        | refine Or.inl ?_
        | refine And.intro (Obl.out (?_ : Obl _)) ?_
        | refine ifB_intro (fun h => ?_) (fun h => ?_)
        | refine Exists.intro _ (And.intro rfl ?_)
        | ((with_reducible show _ = _); rfl))
      all_goals try (
        (with_reducible refine Obl.mk ?_)
        first
        | ((with_reducible show regOk _ _ = true); kernel_rfl)
        | ((with_reducible show eqTyOk _ _ = true); kernel_rfl)
        | rfl
        | exact trivial
        | ((repeat' (first | exact trivial | refine And.intro ?_ ?_)); done)
        | decide
        | (intro r hr; simp only [List.mem_cons, List.not_mem_nil, or_false] at hr; first | (subst hr; rfl) | (rcases hr with rfl | rfl <;> rfl) | (rcases hr with rfl | rfl | rfl <;> rfl) | (rcases hr with rfl | rfl | rfl | rfl <;> rfl))
        | (refine And.intro ?_ ?_ <;> simp only [List.length_map, List.length_append, List.length_cons, List.length_nil] <;> omega))
      all_goals exact ⟨by dsimp only; rw [IntWalk.i64_in _ (by omega)]; rfl⟩
    | true =>
      rw [hw1] at hb1
      cases hw2 : within x.fSize 0 1000000 with
      | false =>
        have hh : symHit off x = false := by rw [symHit, hw1, hw2]; rfl
        rw [hw2] at hb2
        repeat' (
          (conv => whnf)
          first
          | refine Or.inl ?_
          | refine And.intro (Obl.out (?_ : Obl _)) ?_
          | refine ifB_intro (fun h => ?_) (fun h => ?_)
          | refine ⟨k, x.tr, rfl, map_get hx, ?_⟩
          | refine call_intro (hb1) (And.intro rfl (And.intro rfl (And.intro rfl trivial))) ?_
          | refine call_intro (hb2) (And.intro rfl (And.intro rfl (And.intro rfl trivial))) ?_
          | refine Exists.intro _ (And.intro rfl ?_)
          | ((with_reducible show _ = _); rfl))
        all_goals try (
          (with_reducible refine Obl.mk ?_)
          first
          | ((with_reducible show regOk _ _ = true); kernel_rfl)
          | ((with_reducible show eqTyOk _ _ = true); kernel_rfl)
          | rfl
          | exact trivial
          | ((repeat' (first | exact trivial | refine And.intro ?_ ?_)); done)
          | decide
          | (intro r hr; simp only [List.mem_cons, List.not_mem_nil, or_false] at hr; first | (subst hr; rfl) | (rcases hr with rfl | rfl <;> rfl) | (rcases hr with rfl | rfl | rfl <;> rfl) | (rcases hr with rfl | rfl | rfl | rfl <;> rfl))
          | (refine And.intro ?_ ?_ <;> simp only [List.length_map, List.length_append, List.length_cons, List.length_nil] <;> omega))
        all_goals try (exfalso; simp only [decide_eq_false_iff_not, decide_eq_true_eq] at *; omega)
        all_goals conv => whnf
        all_goals refine ⟨⟨k + 1, by omega, hback hh⟩, ?_, by dsimp only; omega⟩
        repeat' (
          (conv => whnf)
          first
          | refine Or.inl ?_
          | refine And.intro (Obl.out (?_ : Obl _)) ?_
          | refine ifB_intro (fun h => ?_) (fun h => ?_)
          | refine Exists.intro _ (And.intro rfl ?_)
          | ((with_reducible show _ = _); rfl))
        all_goals try (
          (with_reducible refine Obl.mk ?_)
          first
          | ((with_reducible show regOk _ _ = true); kernel_rfl)
          | ((with_reducible show eqTyOk _ _ = true); kernel_rfl)
          | rfl
          | exact trivial
          | ((repeat' (first | exact trivial | refine And.intro ?_ ?_)); done)
          | decide
          | (intro r hr; simp only [List.mem_cons, List.not_mem_nil, or_false] at hr; first | (subst hr; rfl) | (rcases hr with rfl | rfl <;> rfl) | (rcases hr with rfl | rfl | rfl <;> rfl) | (rcases hr with rfl | rfl | rfl | rfl <;> rfl))
          | (refine And.intro ?_ ?_ <;> simp only [List.length_map, List.length_append, List.length_cons, List.length_nil] <;> omega))
        all_goals exact ⟨by dsimp only; rw [IntWalk.i64_in _ (by omega)]; rfl⟩
      | true =>
        rw [hw2] at hb2
        have hi1 := within_iff.1 hw1
        have hi2 := within_iff.1 hw2
        have hw3 : IntKind.i64.wrap (x.fStart + x.fSize) = x.fStart + x.fSize := IntWalk.i64_in _ (by omega)
        cases hh : symHit off x with
        | true =>
          rw [hh, if_pos rfl] at hr
          rw [symHit, hw1, hw2] at hh
          simp only [Bool.true_and, Bool.and_eq_true, decide_eq_true_eq] at hh
          repeat' (
            (conv => whnf)
            first
            | refine Or.inl ?_
            | refine And.intro (Obl.out (?_ : Obl _)) ?_
            | refine ifB_intro (fun h => ?_) (fun h => ?_)
            | refine ⟨k, x.tr, rfl, map_get hx, ?_⟩
            | refine call_intro (hb1) (And.intro rfl (And.intro rfl (And.intro rfl trivial))) ?_
            | refine call_intro (hb2) (And.intro rfl (And.intro rfl (And.intro rfl trivial))) ?_
            | refine Exists.intro _ (And.intro rfl ?_)
            | ((with_reducible show _ = _); rfl))
          all_goals try (
            (with_reducible refine Obl.mk ?_)
            first
            | ((with_reducible show regOk _ _ = true); kernel_rfl)
            | ((with_reducible show eqTyOk _ _ = true); kernel_rfl)
            | rfl
            | exact trivial
            | ((repeat' (first | exact trivial | refine And.intro ?_ ?_)); done)
            | decide
            | (intro r hr; simp only [List.mem_cons, List.not_mem_nil, or_false] at hr; first | (subst hr; rfl) | (rcases hr with rfl | rfl <;> rfl) | (rcases hr with rfl | rfl | rfl <;> rfl) | (rcases hr with rfl | rfl | rfl | rfl <;> rfl))
            | (refine And.intro ?_ ?_ <;> simp only [List.length_map, List.length_append, List.length_cons, List.length_nil] <;> omega))
          all_goals try (exfalso; simp only [decide_eq_false_iff_not, decide_eq_true_eq] at *; omega)
          all_goals try exact ⟨by rw [hr]⟩
          all_goals (exfalso; (try rw [hw3] at h); simp only [decide_eq_false_iff_not] at h; omega)
        | false =>
          have hbk := hback hh
          rw [symHit, hw1, hw2] at hh
          simp only [Bool.true_and, Bool.and_eq_false_iff, decide_eq_false_iff_not] at hh
          repeat' (
            (conv => whnf)
            first
            | refine Or.inl ?_
            | refine And.intro (Obl.out (?_ : Obl _)) ?_
            | refine ifB_intro (fun h => ?_) (fun h => ?_)
            | refine ⟨k, x.tr, rfl, map_get hx, ?_⟩
            | refine call_intro (hb1) (And.intro rfl (And.intro rfl (And.intro rfl trivial))) ?_
            | refine call_intro (hb2) (And.intro rfl (And.intro rfl (And.intro rfl trivial))) ?_
            | refine Exists.intro _ (And.intro rfl ?_)
            | ((with_reducible show _ = _); rfl))
          all_goals try (
            (with_reducible refine Obl.mk ?_)
            first
            | ((with_reducible show regOk _ _ = true); kernel_rfl)
            | ((with_reducible show eqTyOk _ _ = true); kernel_rfl)
            | rfl
            | exact trivial
            | ((repeat' (first | exact trivial | refine And.intro ?_ ?_)); done)
            | decide
            | (intro r hr; simp only [List.mem_cons, List.not_mem_nil, or_false] at hr; first | (subst hr; rfl) | (rcases hr with rfl | rfl <;> rfl) | (rcases hr with rfl | rfl | rfl <;> rfl) | (rcases hr with rfl | rfl | rfl | rfl <;> rfl))
            | (refine And.intro ?_ ?_ <;> simp only [List.length_map, List.length_append, List.length_cons, List.length_nil] <;> omega))
          all_goals try (exfalso; simp only [decide_eq_false_iff_not, decide_eq_true_eq] at *; omega)
          all_goals try (exfalso; rw [hw3] at *; simp only [decide_eq_true_eq] at *; omega)
          all_goals conv => whnf
          all_goals refine ⟨⟨k + 1, by omega, hbk⟩, ?_, by dsimp only; omega⟩
          repeat' (
            (conv => whnf)
            first
            | refine Or.inl ?_
            | refine And.intro (Obl.out (?_ : Obl _)) ?_
            | refine ifB_intro (fun h => ?_) (fun h => ?_)
            | refine Exists.intro _ (And.intro rfl ?_)
            | ((with_reducible show _ = _); rfl))
          all_goals try (
            (with_reducible refine Obl.mk ?_)
            first
            | ((with_reducible show regOk _ _ = true); kernel_rfl)
            | ((with_reducible show eqTyOk _ _ = true); kernel_rfl)
            | rfl
            | exact trivial
            | ((repeat' (first | exact trivial | refine And.intro ?_ ?_)); done)
            | decide
            | (intro r hr; simp only [List.mem_cons, List.not_mem_nil, or_false] at hr; first | (subst hr; rfl) | (rcases hr with rfl | rfl <;> rfl) | (rcases hr with rfl | rfl | rfl <;> rfl) | (rcases hr with rfl | rfl | rfl | rfl <;> rfl))
            | (refine And.intro ?_ ?_ <;> simp only [List.length_map, List.length_append, List.length_cons, List.length_nil] <;> omega))
          all_goals exact ⟨by dsimp only; rw [IntWalk.i64_in _ (by omega)]; rfl⟩
  · have hge : l.length ≤ k := by omega
    rw [List.drop_eq_nil_of_le hge, symAtF] at hr
    repeat' (
      (conv => whnf)
      first
      | refine Or.inl ?_
      | refine And.intro (Obl.out (?_ : Obl _)) ?_
      | refine ifB_intro (fun h => ?_) (fun h => ?_)
      | refine Exists.intro _ (And.intro rfl ?_)
      | ((with_reducible show _ = _); rfl))
    all_goals try (
      (with_reducible refine Obl.mk ?_)
      first
      | ((with_reducible show regOk _ _ = true); kernel_rfl)
      | ((with_reducible show eqTyOk _ _ = true); kernel_rfl)
      | rfl
      | exact trivial
      | ((repeat' (first | exact trivial | refine And.intro ?_ ?_)); done)
      | decide
      | (intro r hr; simp only [List.mem_cons, List.not_mem_nil, or_false] at hr; first | (subst hr; rfl) | (rcases hr with rfl | rfl <;> rfl) | (rcases hr with rfl | rfl | rfl <;> rfl) | (rcases hr with rfl | rfl | rfl | rfl <;> rfl))
      | (refine And.intro ?_ ?_ <;> simp only [List.length_map, List.length_append, List.length_cons, List.length_nil] <;> omega))
    all_goals try (exfalso; simp only [decide_eq_false_iff_not, decide_eq_true_eq] at *; omega)
    exact ⟨by rw [← hr]⟩
def frL : List UInt8 → List TInline → Int → List TFrame
  | nm, [], line => [⟨nm, line⟩]
  | nm, x :: l, line => ⟨nm, x.fLine⟩ :: frL x.fName l line
def framesAt (d : TDebug) (off : Int) (start : Bool) : Option (List TFrame) :=
  if symbolAt d.fSymbols off < 0 ∨ findRow d.fRows off < 0 ∨ (start = true ∧ isStart d.fRows off = false) then none
  else match d.fSymbols[(symbolAt d.fSymbols off).toNat]?, d.fRows[(findRow d.fRows off).toNat]? with
    | some y, some r => some (frL y.fName (inlinesAt d.fInlines off) r.fLine)
    | _, _ => none
abbrev FrIx (nm0 : List UInt8) (L : List TInline) (line : Int) := { q : Nat × List UInt8 × List TFrame // q.1 ≤ L.length ∧ q.2.2.length = q.1 ∧ q.2.2 ++ frL q.2.1 (L.drop q.1) line = frL nm0 L line }
theorem s_impl_FramesAt (d : TDebug) (off : Int) (start : Bool) (hs : smallR 1048576 d.tr) : Sim.Spec Try.prog 72 [.agg d.tr, tvI off, tvB start] (.tup [.c (.arr 2 ((oL (framesAt d off start)).map TFrame.tr)), .c (.t (.bool (framesAt d off start).isSome))]) := by
  refine spec_of_W hΓ hmix Try.func72 rfl (by decide) rfl ?_
  obtain ⟨id, syms, rules, rows, inls⟩ := d
  simp only [TDebug.tr, smallR] at hs
  have hsy := s_impl_SymbolAt ⟨[], syms⟩ off (small_nat hs.2.1)
  have hfr := s_impl_FindRow rows off (small_nat hs.2.2.2.1)
  have hst := s_impl_IsStart rows off (small_nat hs.2.2.2.1)
  have hin := s_impl_InlinesAt inls off (small_nat hs.2.2.2.2.1) (inl_names hs.2.2.2.2.1)
  have hr1 := symbolAt_range syms off
  have hr2 := findRow_range rows off
  unfold framesAt
  dsimp only at hsy ⊢
  generalize symbolAt syms off = K at *
  generalize findRow rows off = R at *
  generalize isStart rows off = S at *
  have hLl : (inlinesAt inls off).length ≤ 1048576 := Nat.le_trans (inlinesAt_len _ _) (small_nat hs.2.2.2.2.1)
  generalize inlinesAt inls off = L at *
  have hLm : (L.map TInline.tr).length = L.length := by simp
  rcases hr1 with rfl | ⟨h0, h1⟩
  · rw [if_pos (by simp)]
    repeat' (
      (conv => whnf)
      first
      | refine Or.inl ?_
      | refine And.intro (Obl.out (?_ : Obl _)) ?_
      | refine ifB_intro (fun h => ?_) (fun h => ?_)
      | refine call_intro (hsy) (And.intro (And.intro rfl (And.intro rfl trivial)) (And.intro rfl trivial)) ?_
      | refine call_intro (hfr) (And.intro rfl (And.intro rfl trivial)) ?_
      | refine Exists.intro _ (And.intro rfl ?_)
      | ((with_reducible show _ = _); rfl))
    all_goals try (
      (with_reducible refine Obl.mk ?_)
      first
      | ((with_reducible show regOk _ _ = true); kernel_rfl)
      | ((with_reducible show eqTyOk _ _ = true); kernel_rfl)
      | rfl
      | exact trivial
      | ((repeat' (first | exact trivial | refine And.intro ?_ ?_)); done)
      | decide
      | (intro r hr; simp only [List.mem_cons, List.not_mem_nil, or_false] at hr; first | (subst hr; rfl) | (rcases hr with rfl | rfl <;> rfl) | (rcases hr with rfl | rfl | rfl <;> rfl) | (rcases hr with rfl | rfl | rfl | rfl <;> rfl))
      | (refine And.intro ?_ ?_ <;> simp only [List.length_map, List.length_append, List.length_cons, List.length_nil] <;> omega))
  · obtain ⟨j, rfl⟩ := Int.eq_ofNat_of_zero_le h0
    obtain ⟨y, hy⟩ := get_of_lt (l := syms) (k := j) (by omega)
    rcases hr2 with rfl | ⟨h2, h3⟩
    · rw [if_pos (by simp)]
      repeat' (
        (conv => whnf)
        first
        | refine Or.inl ?_
        | refine And.intro (Obl.out (?_ : Obl _)) ?_
        | refine ifB_intro (fun h => ?_) (fun h => ?_)
        | refine call_intro (hsy) (And.intro (And.intro rfl (And.intro rfl trivial)) (And.intro rfl trivial)) ?_
        | refine call_intro (hfr) (And.intro rfl (And.intro rfl trivial)) ?_
        | refine Exists.intro _ (And.intro rfl ?_)
        | ((with_reducible show _ = _); rfl))
      all_goals try (
        (with_reducible refine Obl.mk ?_)
        first
        | ((with_reducible show regOk _ _ = true); kernel_rfl)
        | ((with_reducible show eqTyOk _ _ = true); kernel_rfl)
        | rfl
        | exact trivial
        | ((repeat' (first | exact trivial | refine And.intro ?_ ?_)); done)
        | decide
        | (intro r hr; simp only [List.mem_cons, List.not_mem_nil, or_false] at hr; first | (subst hr; rfl) | (rcases hr with rfl | rfl <;> rfl) | (rcases hr with rfl | rfl | rfl <;> rfl) | (rcases hr with rfl | rfl | rfl | rfl <;> rfl))
        | (refine And.intro ?_ ?_ <;> simp only [List.length_map, List.length_append, List.length_cons, List.length_nil] <;> omega))
      all_goals (exfalso; first | (have h' := of_decide_eq_true h; omega) | (simp at h; omega))
    · obtain ⟨i, rfl⟩ := Int.eq_ofNat_of_zero_le h2
      obtain ⟨r, hr⟩ := get_of_lt (l := rows) (k := i) (by omega)
      by_cases hc : start = true ∧ S = false
      · rw [if_pos (Or.inr (Or.inr hc))]
        obtain ⟨rfl, rfl⟩ := hc
        repeat' (
          (conv => whnf)
          first
          | refine Or.inl ?_
          | refine And.intro (Obl.out (?_ : Obl _)) ?_
          | refine ifB_intro (fun h => ?_) (fun h => ?_)
          | refine call_intro (hsy) (And.intro (And.intro rfl (And.intro rfl trivial)) (And.intro rfl trivial)) ?_
          | refine call_intro (hfr) (And.intro rfl (And.intro rfl trivial)) ?_
          | refine call_intro (hst) (And.intro rfl (And.intro rfl trivial)) ?_
          | refine Exists.intro _ (And.intro rfl ?_)
          | ((with_reducible show _ = _); rfl))
        all_goals try (
          (with_reducible refine Obl.mk ?_)
          first
          | ((with_reducible show regOk _ _ = true); kernel_rfl)
          | ((with_reducible show eqTyOk _ _ = true); kernel_rfl)
          | rfl
          | exact trivial
          | ((repeat' (first | exact trivial | refine And.intro ?_ ?_)); done)
          | decide
          | (intro r hr; simp only [List.mem_cons, List.not_mem_nil, or_false] at hr; first | (subst hr; rfl) | (rcases hr with rfl | rfl <;> rfl) | (rcases hr with rfl | rfl | rfl <;> rfl) | (rcases hr with rfl | rfl | rfl | rfl <;> rfl))
          | (refine And.intro ?_ ?_ <;> simp only [List.length_map, List.length_append, List.length_cons, List.length_nil] <;> omega))
        all_goals (exfalso; first | (have h' := of_decide_eq_true h; omega) | (simp at h; done))
      · have hyl : y.fName.length ≤ 1048576 := by
          have := smallRs_map hs.2.1 (List.mem_of_getElem? hy)
          simp only [TSymbol.tr, smallR, smallT] at this
          omega
        rw [if_neg (by rw [not_or, not_or]; exact ⟨by omega, by omega, hc⟩), Int.toNat_natCast, Int.toNat_natCast, hy, hr]
        cases start with
        | false =>
          repeat' (
            (conv => whnf)
            first
            | refine Or.inl ?_
            | refine And.intro (Obl.out (?_ : Obl _)) ?_
            | refine ifB_intro (fun h => ?_) (fun h => ?_)
            | refine call_intro (hsy) (And.intro (And.intro rfl (And.intro rfl trivial)) (And.intro rfl trivial)) ?_
            | refine call_intro (hfr) (And.intro rfl (And.intro rfl trivial)) ?_
            | refine call_intro (hin) (And.intro rfl (And.intro rfl trivial)) ?_
            | refine ⟨j, y.tr, rfl, map_get hy, ?_⟩
            | refine Exists.intro _ (And.intro rfl ?_)
            | ((with_reducible show _ = _); rfl))
          all_goals try (
            (with_reducible refine Obl.mk ?_)
            first
            | ((with_reducible show regOk _ _ = true); kernel_rfl)
            | ((with_reducible show eqTyOk _ _ = true); kernel_rfl)
            | rfl
            | exact trivial
            | ((repeat' (first | exact trivial | refine And.intro ?_ ?_)); done)
            | decide
            | (intro r hr; simp only [List.mem_cons, List.not_mem_nil, or_false] at hr; first | (subst hr; rfl) | (rcases hr with rfl | rfl <;> rfl) | (rcases hr with rfl | rfl | rfl <;> rfl) | (rcases hr with rfl | rfl | rfl | rfl <;> rfl))
            | (refine And.intro ?_ ?_ <;> simp only [List.length_map, List.length_append, List.length_cons, List.length_nil] <;> omega))
          all_goals try (exfalso; first | (have h' := of_decide_eq_true h; omega) | (simp at h; done))
          conv => whnf
          refine ⟨FrIx y.fName L r.fLine, fun q => ⟨[(3, .r (.c (.ptr (3, 0, 0) 0))), (9, tI .i64 (i : Int)), (10, .r (.c (.own (39, 0, 0)))), (11, tS q.1.2.1), (49, .r (.c (.own (49, 0, 0)))), (50, tI .i64 ((L.map TInline.tr).length : Int)), (51, tI .i64 (q.1.1 : Int))], [((3, 0, 0), some (.box [.t (.int .i64 id), .t (.lst 3 (syms.map TSymbol.tr)), .t (.lst 4 (rules.map TRule.tr)), .t (.lst 3 (rows.map TRow.tr)), .t (.lst 5 (inls.map TInline.tr))])), ((39, 0, 0), some (.arr true 2 (q.1.2.2.map TFrame.tr))), ((49, 0, 0), some (.arr true 5 (L.map TInline.tr)))], [3, 39, 49]⟩, fun q => L.length - q.1.1, ⟨(0, y.fName, []), by simp, by simp, by simp⟩, ?_, ?_⟩
          · skip
            repeat' (
              (conv => whnf)
              first
              | refine Or.inl ?_
              | refine And.intro (Obl.out (?_ : Obl _)) ?_
              | refine ifB_intro (fun h => ?_) (fun h => ?_)
              | refine Exists.intro _ (And.intro rfl ?_)
              | ((with_reducible show _ = _); rfl))
            all_goals try (
              (with_reducible refine Obl.mk ?_)
              first
              | ((with_reducible show regOk _ _ = true); kernel_rfl)
              | ((with_reducible show eqTyOk _ _ = true); kernel_rfl)
              | rfl
              | exact trivial
              | ((repeat' (first | exact trivial | refine And.intro ?_ ?_)); done)
              | decide
              | (intro r hr; simp only [List.mem_cons, List.not_mem_nil, or_false] at hr; first | (subst hr; rfl) | (rcases hr with rfl | rfl <;> rfl) | (rcases hr with rfl | rfl | rfl <;> rfl) | (rcases hr with rfl | rfl | rfl | rfl <;> rfl))
              | (refine And.intro ?_ ?_ <;> simp only [List.length_map, List.length_append, List.length_cons, List.length_nil] <;> omega))
          intro ⟨⟨k, nm, acc⟩, hk, hal, hrr⟩
          dsimp only at hk hal hrr ⊢
          by_cases hlt : k < L.length
          · obtain ⟨x, hx⟩ := get_of_lt hlt
            rw [drop_at hx, frL] at hrr
            repeat' (
              (conv => whnf)
              first
              | refine Or.inl ?_
              | refine And.intro (Obl.out (?_ : Obl _)) ?_
              | refine ifB_intro (fun h => ?_) (fun h => ?_)
              | refine ⟨_, map_get hx, ?_⟩
              | refine Exists.intro _ (And.intro rfl ?_)
              | ((with_reducible show _ = _); rfl))
            all_goals try (
              (with_reducible refine Obl.mk ?_)
              first
              | ((with_reducible show regOk _ _ = true); kernel_rfl)
              | ((with_reducible show eqTyOk _ _ = true); kernel_rfl)
              | rfl
              | exact trivial
              | ((repeat' (first | exact trivial | refine And.intro ?_ ?_)); done)
              | decide
              | (intro r hr; simp only [List.mem_cons, List.not_mem_nil, or_false] at hr; first | (subst hr; rfl) | (rcases hr with rfl | rfl <;> rfl) | (rcases hr with rfl | rfl | rfl <;> rfl) | (rcases hr with rfl | rfl | rfl | rfl <;> rfl))
              | (refine And.intro ?_ ?_ <;> simp only [List.length_map, List.length_append, List.length_cons, List.length_nil] <;> omega))
            all_goals try (exfalso; simp only [decide_eq_false_iff_not, decide_eq_true_eq] at *; omega)
            all_goals try exact ⟨by rw [List.length_map]; omega⟩
            all_goals try exact ⟨⟨by simp only [List.length_map, List.length_cons, List.length_nil]; omega, by simp only [List.length_map, List.length_cons, List.length_nil]; omega⟩⟩
            conv => whnf
            refine ⟨⟨(k + 1, x.fName, acc ++ [⟨nm, x.fLine⟩]), by dsimp only; omega, by simp; omega, by rw [← hrr]; simp⟩, ?_, by dsimp only; omega⟩
            repeat' (
              (conv => whnf)
              first
              | refine Or.inl ?_
              | refine And.intro (Obl.out (?_ : Obl _)) ?_
              | refine ifB_intro (fun h => ?_) (fun h => ?_)
              | refine Exists.intro _ (And.intro rfl ?_)
              | ((with_reducible show _ = _); rfl))
            all_goals try (
              (with_reducible refine Obl.mk ?_)
              first
              | ((with_reducible show regOk _ _ = true); kernel_rfl)
              | ((with_reducible show eqTyOk _ _ = true); kernel_rfl)
              | rfl
              | exact trivial
              | ((repeat' (first | exact trivial | refine And.intro ?_ ?_)); done)
              | decide
              | (intro r hr; simp only [List.mem_cons, List.not_mem_nil, or_false] at hr; first | (subst hr; rfl) | (rcases hr with rfl | rfl <;> rfl) | (rcases hr with rfl | rfl | rfl <;> rfl) | (rcases hr with rfl | rfl | rfl | rfl <;> rfl))
              | (refine And.intro ?_ ?_ <;> simp only [List.length_map, List.length_append, List.length_cons, List.length_nil] <;> omega))
            all_goals first
              | (refine ⟨?_⟩; dsimp only; rw [IntWalk.i64_in _ (by omega)]; rfl)
              | (refine ⟨?_⟩; dsimp only; rw [List.map_append]; rfl)
          · have hge : L.length ≤ k := by omega
            rw [List.drop_eq_nil_of_le hge, frL] at hrr
            repeat' (
              (conv => whnf)
              first
              | refine Or.inl ?_
              | refine And.intro (Obl.out (?_ : Obl _)) ?_
              | refine ifB_intro (fun h => ?_) (fun h => ?_)
              | refine ⟨i, r.tr, rfl, map_get hr, ?_⟩
              | refine Exists.intro _ (And.intro rfl ?_)
              | ((with_reducible show _ = _); rfl))
            all_goals try (
              (with_reducible refine Obl.mk ?_)
              first
              | ((with_reducible show regOk _ _ = true); kernel_rfl)
              | ((with_reducible show eqTyOk _ _ = true); kernel_rfl)
              | rfl
              | exact trivial
              | ((repeat' (first | exact trivial | refine And.intro ?_ ?_)); done)
              | decide
              | (intro r hr; simp only [List.mem_cons, List.not_mem_nil, or_false] at hr; first | (subst hr; rfl) | (rcases hr with rfl | rfl <;> rfl) | (rcases hr with rfl | rfl | rfl <;> rfl) | (rcases hr with rfl | rfl | rfl | rfl <;> rfl))
              | (refine And.intro ?_ ?_ <;> simp only [List.length_map, List.length_append, List.length_cons, List.length_nil] <;> omega))
            all_goals try (exfalso; simp only [decide_eq_false_iff_not, decide_eq_true_eq] at *; omega)
            all_goals try exact ⟨⟨by simp only [List.length_map, List.length_cons, List.length_nil]; omega, by simp only [List.length_map, List.length_cons, List.length_nil]; omega⟩⟩
            all_goals exact ⟨by dsimp only [oL]; rw [← hrr, List.map_append]; rfl⟩
        | true =>
          have hS : S = true := by cases S with | true => rfl | false => exact absurd ⟨rfl, rfl⟩ hc
          rw [hS] at hst
          repeat' (
            (conv => whnf)
            first
            | refine Or.inl ?_
            | refine And.intro (Obl.out (?_ : Obl _)) ?_
            | refine ifB_intro (fun h => ?_) (fun h => ?_)
            | refine call_intro (hsy) (And.intro (And.intro rfl (And.intro rfl trivial)) (And.intro rfl trivial)) ?_
            | refine call_intro (hfr) (And.intro rfl (And.intro rfl trivial)) ?_
            | refine call_intro (hst) (And.intro rfl (And.intro rfl trivial)) ?_
            | refine call_intro (hin) (And.intro rfl (And.intro rfl trivial)) ?_
            | refine ⟨j, y.tr, rfl, map_get hy, ?_⟩
            | refine Exists.intro _ (And.intro rfl ?_)
            | ((with_reducible show _ = _); rfl))
          all_goals try (
            (with_reducible refine Obl.mk ?_)
            first
            | ((with_reducible show regOk _ _ = true); kernel_rfl)
            | ((with_reducible show eqTyOk _ _ = true); kernel_rfl)
            | rfl
            | exact trivial
            | ((repeat' (first | exact trivial | refine And.intro ?_ ?_)); done)
            | decide
            | (intro r hr; simp only [List.mem_cons, List.not_mem_nil, or_false] at hr; first | (subst hr; rfl) | (rcases hr with rfl | rfl <;> rfl) | (rcases hr with rfl | rfl | rfl <;> rfl) | (rcases hr with rfl | rfl | rfl | rfl <;> rfl))
            | (refine And.intro ?_ ?_ <;> simp only [List.length_map, List.length_append, List.length_cons, List.length_nil] <;> omega))
          all_goals try (exfalso; first | (have h' := of_decide_eq_true h; omega) | (simp at h; done))
          conv => whnf
          refine ⟨FrIx y.fName L r.fLine, fun q => ⟨[(3, .r (.c (.ptr (3, 0, 0) 0))), (9, tI .i64 (i : Int)), (10, .r (.c (.own (39, 0, 0)))), (11, tS q.1.2.1), (49, .r (.c (.own (49, 0, 0)))), (50, tI .i64 ((L.map TInline.tr).length : Int)), (51, tI .i64 (q.1.1 : Int))], [((3, 0, 0), some (.box [.t (.int .i64 id), .t (.lst 3 (syms.map TSymbol.tr)), .t (.lst 4 (rules.map TRule.tr)), .t (.lst 3 (rows.map TRow.tr)), .t (.lst 5 (inls.map TInline.tr))])), ((39, 0, 0), some (.arr true 2 (q.1.2.2.map TFrame.tr))), ((49, 0, 0), some (.arr true 5 (L.map TInline.tr)))], [3, 39, 49]⟩, fun q => L.length - q.1.1, ⟨(0, y.fName, []), by simp, by simp, by simp⟩, ?_, ?_⟩
          · skip
            repeat' (
              (conv => whnf)
              first
              | refine Or.inl ?_
              | refine And.intro (Obl.out (?_ : Obl _)) ?_
              | refine ifB_intro (fun h => ?_) (fun h => ?_)
              | refine Exists.intro _ (And.intro rfl ?_)
              | ((with_reducible show _ = _); rfl))
            all_goals try (
              (with_reducible refine Obl.mk ?_)
              first
              | ((with_reducible show regOk _ _ = true); kernel_rfl)
              | ((with_reducible show eqTyOk _ _ = true); kernel_rfl)
              | rfl
              | exact trivial
              | ((repeat' (first | exact trivial | refine And.intro ?_ ?_)); done)
              | decide
              | (intro r hr; simp only [List.mem_cons, List.not_mem_nil, or_false] at hr; first | (subst hr; rfl) | (rcases hr with rfl | rfl <;> rfl) | (rcases hr with rfl | rfl | rfl <;> rfl) | (rcases hr with rfl | rfl | rfl | rfl <;> rfl))
              | (refine And.intro ?_ ?_ <;> simp only [List.length_map, List.length_append, List.length_cons, List.length_nil] <;> omega))
          intro ⟨⟨k, nm, acc⟩, hk, hal, hrr⟩
          dsimp only at hk hal hrr ⊢
          by_cases hlt : k < L.length
          · obtain ⟨x, hx⟩ := get_of_lt hlt
            rw [drop_at hx, frL] at hrr
            repeat' (
              (conv => whnf)
              first
              | refine Or.inl ?_
              | refine And.intro (Obl.out (?_ : Obl _)) ?_
              | refine ifB_intro (fun h => ?_) (fun h => ?_)
              | refine ⟨_, map_get hx, ?_⟩
              | refine Exists.intro _ (And.intro rfl ?_)
              | ((with_reducible show _ = _); rfl))
            all_goals try (
              (with_reducible refine Obl.mk ?_)
              first
              | ((with_reducible show regOk _ _ = true); kernel_rfl)
              | ((with_reducible show eqTyOk _ _ = true); kernel_rfl)
              | rfl
              | exact trivial
              | ((repeat' (first | exact trivial | refine And.intro ?_ ?_)); done)
              | decide
              | (intro r hr; simp only [List.mem_cons, List.not_mem_nil, or_false] at hr; first | (subst hr; rfl) | (rcases hr with rfl | rfl <;> rfl) | (rcases hr with rfl | rfl | rfl <;> rfl) | (rcases hr with rfl | rfl | rfl | rfl <;> rfl))
              | (refine And.intro ?_ ?_ <;> simp only [List.length_map, List.length_append, List.length_cons, List.length_nil] <;> omega))
            all_goals try (exfalso; simp only [decide_eq_false_iff_not, decide_eq_true_eq] at *; omega)
            all_goals try exact ⟨by rw [List.length_map]; omega⟩
            all_goals try exact ⟨⟨by simp only [List.length_map, List.length_cons, List.length_nil]; omega, by simp only [List.length_map, List.length_cons, List.length_nil]; omega⟩⟩
            conv => whnf
            refine ⟨⟨(k + 1, x.fName, acc ++ [⟨nm, x.fLine⟩]), by dsimp only; omega, by simp; omega, by rw [← hrr]; simp⟩, ?_, by dsimp only; omega⟩
            repeat' (
              (conv => whnf)
              first
              | refine Or.inl ?_
              | refine And.intro (Obl.out (?_ : Obl _)) ?_
              | refine ifB_intro (fun h => ?_) (fun h => ?_)
              | refine Exists.intro _ (And.intro rfl ?_)
              | ((with_reducible show _ = _); rfl))
            all_goals try (
              (with_reducible refine Obl.mk ?_)
              first
              | ((with_reducible show regOk _ _ = true); kernel_rfl)
              | ((with_reducible show eqTyOk _ _ = true); kernel_rfl)
              | rfl
              | exact trivial
              | ((repeat' (first | exact trivial | refine And.intro ?_ ?_)); done)
              | decide
              | (intro r hr; simp only [List.mem_cons, List.not_mem_nil, or_false] at hr; first | (subst hr; rfl) | (rcases hr with rfl | rfl <;> rfl) | (rcases hr with rfl | rfl | rfl <;> rfl) | (rcases hr with rfl | rfl | rfl | rfl <;> rfl))
              | (refine And.intro ?_ ?_ <;> simp only [List.length_map, List.length_append, List.length_cons, List.length_nil] <;> omega))
            all_goals first
              | (refine ⟨?_⟩; dsimp only; rw [IntWalk.i64_in _ (by omega)]; rfl)
              | (refine ⟨?_⟩; dsimp only; rw [List.map_append]; rfl)
          · have hge : L.length ≤ k := by omega
            rw [List.drop_eq_nil_of_le hge, frL] at hrr
            repeat' (
              (conv => whnf)
              first
              | refine Or.inl ?_
              | refine And.intro (Obl.out (?_ : Obl _)) ?_
              | refine ifB_intro (fun h => ?_) (fun h => ?_)
              | refine ⟨i, r.tr, rfl, map_get hr, ?_⟩
              | refine Exists.intro _ (And.intro rfl ?_)
              | ((with_reducible show _ = _); rfl))
            all_goals try (
              (with_reducible refine Obl.mk ?_)
              first
              | ((with_reducible show regOk _ _ = true); kernel_rfl)
              | ((with_reducible show eqTyOk _ _ = true); kernel_rfl)
              | rfl
              | exact trivial
              | ((repeat' (first | exact trivial | refine And.intro ?_ ?_)); done)
              | decide
              | (intro r hr; simp only [List.mem_cons, List.not_mem_nil, or_false] at hr; first | (subst hr; rfl) | (rcases hr with rfl | rfl <;> rfl) | (rcases hr with rfl | rfl | rfl <;> rfl) | (rcases hr with rfl | rfl | rfl | rfl <;> rfl))
              | (refine And.intro ?_ ?_ <;> simp only [List.length_map, List.length_append, List.length_cons, List.length_nil] <;> omega))
            all_goals try (exfalso; simp only [decide_eq_false_iff_not, decide_eq_true_eq] at *; omega)
            all_goals try exact ⟨⟨by simp only [List.length_map, List.length_cons, List.length_nil]; omega, by simp only [List.length_map, List.length_cons, List.length_nil]; omega⟩⟩
            all_goals exact ⟨by dsimp only [oL]; rw [← hrr, List.map_append]; rfl⟩
theorem s_spec_FramesAt (d : TDebug) (off : Int) (start : Bool) (hs : smallR 1048576 d.tr) : Sim.Spec Try.prog 71 [.agg d.tr, tvI off, tvB start] (.tup [.c (.arr 2 ((oL (framesAt d off start)).map TFrame.tr)), .c (.t (.bool (framesAt d off start).isSome))]) := by
  refine spec_of_W hΓ hmix Try.func71 rfl (by decide) rfl ?_
  obtain ⟨id, syms, rules, rows, inls⟩ := d
  simp only [TDebug.tr, smallR] at hs
  have hsy := s_spec_SymbolAt ⟨[], syms⟩ off (small_nat hs.2.1)
  have hfr := s_spec_FindRow rows off (small_nat hs.2.2.2.1)
  have hst := s_spec_IsStart rows off (small_nat hs.2.2.2.1)
  have hin := s_spec_InlinesAt inls off (small_nat hs.2.2.2.2.1) (inl_names hs.2.2.2.2.1)
  have hr1 := symbolAt_range syms off
  have hr2 := findRow_range rows off
  unfold framesAt
  dsimp only at hsy ⊢
  generalize symbolAt syms off = K at *
  generalize findRow rows off = R at *
  generalize isStart rows off = S at *
  have hLl : (inlinesAt inls off).length ≤ 1048576 := Nat.le_trans (inlinesAt_len _ _) (small_nat hs.2.2.2.2.1)
  generalize inlinesAt inls off = L at *
  have hLm : (L.map TInline.tr).length = L.length := by simp
  rcases hr1 with rfl | ⟨h0, h1⟩
  · rw [if_pos (by simp)]
    repeat' (
      (conv => whnf)
      first
      | refine Or.inl ?_
      | refine And.intro (Obl.out (?_ : Obl _)) ?_
      | refine ifB_intro (fun h => ?_) (fun h => ?_)
      | refine call_intro (hsy) (And.intro (And.intro rfl (And.intro rfl trivial)) (And.intro rfl trivial)) ?_
      | refine call_intro (hfr) (And.intro rfl (And.intro rfl trivial)) ?_
      | refine Exists.intro _ (And.intro rfl ?_)
      | ((with_reducible show _ = _); rfl))
    all_goals try (
      (with_reducible refine Obl.mk ?_)
      first
      | ((with_reducible show regOk _ _ = true); kernel_rfl)
      | ((with_reducible show eqTyOk _ _ = true); kernel_rfl)
      | rfl
      | exact trivial
      | ((repeat' (first | exact trivial | refine And.intro ?_ ?_)); done)
      | decide
      | (intro r hr; simp only [List.mem_cons, List.not_mem_nil, or_false] at hr; first | (subst hr; rfl) | (rcases hr with rfl | rfl <;> rfl) | (rcases hr with rfl | rfl | rfl <;> rfl) | (rcases hr with rfl | rfl | rfl | rfl <;> rfl))
      | (refine And.intro ?_ ?_ <;> simp only [List.length_map, List.length_append, List.length_cons, List.length_nil] <;> omega))
  · obtain ⟨j, rfl⟩ := Int.eq_ofNat_of_zero_le h0
    obtain ⟨y, hy⟩ := get_of_lt (l := syms) (k := j) (by omega)
    rcases hr2 with rfl | ⟨h2, h3⟩
    · rw [if_pos (by simp)]
      repeat' (
        (conv => whnf)
        first
        | refine Or.inl ?_
        | refine And.intro (Obl.out (?_ : Obl _)) ?_
        | refine ifB_intro (fun h => ?_) (fun h => ?_)
        | refine call_intro (hsy) (And.intro (And.intro rfl (And.intro rfl trivial)) (And.intro rfl trivial)) ?_
        | refine call_intro (hfr) (And.intro rfl (And.intro rfl trivial)) ?_
        | refine Exists.intro _ (And.intro rfl ?_)
        | ((with_reducible show _ = _); rfl))
      all_goals try (
        (with_reducible refine Obl.mk ?_)
        first
        | ((with_reducible show regOk _ _ = true); kernel_rfl)
        | ((with_reducible show eqTyOk _ _ = true); kernel_rfl)
        | rfl
        | exact trivial
        | ((repeat' (first | exact trivial | refine And.intro ?_ ?_)); done)
        | decide
        | (intro r hr; simp only [List.mem_cons, List.not_mem_nil, or_false] at hr; first | (subst hr; rfl) | (rcases hr with rfl | rfl <;> rfl) | (rcases hr with rfl | rfl | rfl <;> rfl) | (rcases hr with rfl | rfl | rfl | rfl <;> rfl))
        | (refine And.intro ?_ ?_ <;> simp only [List.length_map, List.length_append, List.length_cons, List.length_nil] <;> omega))
      all_goals (exfalso; first | (have h' := of_decide_eq_true h; omega) | (simp at h; omega))
    · obtain ⟨i, rfl⟩ := Int.eq_ofNat_of_zero_le h2
      obtain ⟨r, hr⟩ := get_of_lt (l := rows) (k := i) (by omega)
      by_cases hc : start = true ∧ S = false
      · rw [if_pos (Or.inr (Or.inr hc))]
        obtain ⟨rfl, rfl⟩ := hc
        repeat' (
          (conv => whnf)
          first
          | refine Or.inl ?_
          | refine And.intro (Obl.out (?_ : Obl _)) ?_
          | refine ifB_intro (fun h => ?_) (fun h => ?_)
          | refine call_intro (hsy) (And.intro (And.intro rfl (And.intro rfl trivial)) (And.intro rfl trivial)) ?_
          | refine call_intro (hfr) (And.intro rfl (And.intro rfl trivial)) ?_
          | refine call_intro (hst) (And.intro rfl (And.intro rfl trivial)) ?_
          | refine Exists.intro _ (And.intro rfl ?_)
          | ((with_reducible show _ = _); rfl))
        all_goals try (
          (with_reducible refine Obl.mk ?_)
          first
          | ((with_reducible show regOk _ _ = true); kernel_rfl)
          | ((with_reducible show eqTyOk _ _ = true); kernel_rfl)
          | rfl
          | exact trivial
          | ((repeat' (first | exact trivial | refine And.intro ?_ ?_)); done)
          | decide
          | (intro r hr; simp only [List.mem_cons, List.not_mem_nil, or_false] at hr; first | (subst hr; rfl) | (rcases hr with rfl | rfl <;> rfl) | (rcases hr with rfl | rfl | rfl <;> rfl) | (rcases hr with rfl | rfl | rfl | rfl <;> rfl))
          | (refine And.intro ?_ ?_ <;> simp only [List.length_map, List.length_append, List.length_cons, List.length_nil] <;> omega))
        all_goals (exfalso; first | (have h' := of_decide_eq_true h; omega) | (simp at h; done))
      · have hyl : y.fName.length ≤ 1048576 := by
          have := smallRs_map hs.2.1 (List.mem_of_getElem? hy)
          simp only [TSymbol.tr, smallR, smallT] at this
          omega
        rw [if_neg (by rw [not_or, not_or]; exact ⟨by omega, by omega, hc⟩), Int.toNat_natCast, Int.toNat_natCast, hy, hr]
        cases start with
        | false =>
          repeat' (
            (conv => whnf)
            first
            | refine Or.inl ?_
            | refine And.intro (Obl.out (?_ : Obl _)) ?_
            | refine ifB_intro (fun h => ?_) (fun h => ?_)
            | refine call_intro (hsy) (And.intro (And.intro rfl (And.intro rfl trivial)) (And.intro rfl trivial)) ?_
            | refine call_intro (hfr) (And.intro rfl (And.intro rfl trivial)) ?_
            | refine call_intro (hin) (And.intro rfl (And.intro rfl trivial)) ?_
            | refine ⟨j, y.tr, rfl, map_get hy, ?_⟩
            | refine Exists.intro _ (And.intro rfl ?_)
            | ((with_reducible show _ = _); rfl))
          all_goals try (
            (with_reducible refine Obl.mk ?_)
            first
            | ((with_reducible show regOk _ _ = true); kernel_rfl)
            | ((with_reducible show eqTyOk _ _ = true); kernel_rfl)
            | rfl
            | exact trivial
            | ((repeat' (first | exact trivial | refine And.intro ?_ ?_)); done)
            | decide
            | (intro r hr; simp only [List.mem_cons, List.not_mem_nil, or_false] at hr; first | (subst hr; rfl) | (rcases hr with rfl | rfl <;> rfl) | (rcases hr with rfl | rfl | rfl <;> rfl) | (rcases hr with rfl | rfl | rfl | rfl <;> rfl))
            | (refine And.intro ?_ ?_ <;> simp only [List.length_map, List.length_append, List.length_cons, List.length_nil] <;> omega))
          all_goals try (exfalso; first | (have h' := of_decide_eq_true h; omega) | (simp at h; done))
          conv => whnf
          refine ⟨FrIx y.fName L r.fLine, fun q => ⟨[(3, .r (.c (.ptr (3, 0, 0) 0))), (9, tI .i64 (i : Int)), (10, tS q.1.2.1), (11, .r (.c (.own (46, 0, 0)))), (12, .r (.c (.own (50, 0, 0)))), (13, tI .i64 (q.1.1 : Int))], [((3, 0, 0), some (.box [.t (.int .i64 id), .t (.lst 3 (syms.map TSymbol.tr)), .t (.lst 4 (rules.map TRule.tr)), .t (.lst 3 (rows.map TRow.tr)), .t (.lst 5 (inls.map TInline.tr))])), ((46, 0, 0), some (.arr true 2 (q.1.2.2.map TFrame.tr))), ((50, 0, 0), some (.arr true 5 (L.map TInline.tr)))], [3, 46, 50]⟩, fun q => L.length - q.1.1, ⟨(0, y.fName, []), by simp, by simp, by simp⟩, ?_, ?_⟩
          · skip
            repeat' (
              (conv => whnf)
              first
              | refine Or.inl ?_
              | refine And.intro (Obl.out (?_ : Obl _)) ?_
              | refine ifB_intro (fun h => ?_) (fun h => ?_)
              | refine Exists.intro _ (And.intro rfl ?_)
              | ((with_reducible show _ = _); rfl))
            all_goals try (
              (with_reducible refine Obl.mk ?_)
              first
              | ((with_reducible show regOk _ _ = true); kernel_rfl)
              | ((with_reducible show eqTyOk _ _ = true); kernel_rfl)
              | rfl
              | exact trivial
              | ((repeat' (first | exact trivial | refine And.intro ?_ ?_)); done)
              | decide
              | (intro r hr; simp only [List.mem_cons, List.not_mem_nil, or_false] at hr; first | (subst hr; rfl) | (rcases hr with rfl | rfl <;> rfl) | (rcases hr with rfl | rfl | rfl <;> rfl) | (rcases hr with rfl | rfl | rfl | rfl <;> rfl))
              | (refine And.intro ?_ ?_ <;> simp only [List.length_map, List.length_append, List.length_cons, List.length_nil] <;> omega))
          intro ⟨⟨k, nm, acc⟩, hk, hal, hrr⟩
          dsimp only at hk hal hrr ⊢
          by_cases hlt : k < L.length
          · obtain ⟨x, hx⟩ := get_of_lt hlt
            rw [drop_at hx, frL] at hrr
            repeat' (
              (conv => whnf)
              first
              | refine Or.inl ?_
              | refine And.intro (Obl.out (?_ : Obl _)) ?_
              | refine ifB_intro (fun h => ?_) (fun h => ?_)
              | refine ⟨_, map_get hx, ?_⟩
              | refine Exists.intro _ (And.intro rfl ?_)
              | ((with_reducible show _ = _); rfl))
            all_goals try (
              (with_reducible refine Obl.mk ?_)
              first
              | ((with_reducible show regOk _ _ = true); kernel_rfl)
              | ((with_reducible show eqTyOk _ _ = true); kernel_rfl)
              | rfl
              | exact trivial
              | ((repeat' (first | exact trivial | refine And.intro ?_ ?_)); done)
              | decide
              | (intro r hr; simp only [List.mem_cons, List.not_mem_nil, or_false] at hr; first | (subst hr; rfl) | (rcases hr with rfl | rfl <;> rfl) | (rcases hr with rfl | rfl | rfl <;> rfl) | (rcases hr with rfl | rfl | rfl | rfl <;> rfl))
              | (refine And.intro ?_ ?_ <;> simp only [List.length_map, List.length_append, List.length_cons, List.length_nil] <;> omega))
            all_goals try (exfalso; simp only [decide_eq_false_iff_not, decide_eq_true_eq] at *; omega)
            all_goals try exact ⟨by rw [List.length_map]; omega⟩
            all_goals try exact ⟨⟨by simp only [List.length_map, List.length_cons, List.length_nil]; omega, by simp only [List.length_map, List.length_cons, List.length_nil]; omega⟩⟩
            conv => whnf
            refine ⟨⟨(k + 1, x.fName, acc ++ [⟨nm, x.fLine⟩]), by dsimp only; omega, by simp; omega, by rw [← hrr]; simp⟩, ?_, by dsimp only; omega⟩
            repeat' (
              (conv => whnf)
              first
              | refine Or.inl ?_
              | refine And.intro (Obl.out (?_ : Obl _)) ?_
              | refine ifB_intro (fun h => ?_) (fun h => ?_)
              | refine Exists.intro _ (And.intro rfl ?_)
              | ((with_reducible show _ = _); rfl))
            all_goals try (
              (with_reducible refine Obl.mk ?_)
              first
              | ((with_reducible show regOk _ _ = true); kernel_rfl)
              | ((with_reducible show eqTyOk _ _ = true); kernel_rfl)
              | rfl
              | exact trivial
              | ((repeat' (first | exact trivial | refine And.intro ?_ ?_)); done)
              | decide
              | (intro r hr; simp only [List.mem_cons, List.not_mem_nil, or_false] at hr; first | (subst hr; rfl) | (rcases hr with rfl | rfl <;> rfl) | (rcases hr with rfl | rfl | rfl <;> rfl) | (rcases hr with rfl | rfl | rfl | rfl <;> rfl))
              | (refine And.intro ?_ ?_ <;> simp only [List.length_map, List.length_append, List.length_cons, List.length_nil] <;> omega))
            all_goals first
              | (refine ⟨?_⟩; dsimp only; rw [IntWalk.i64_in _ (by omega)]; rfl)
              | (refine ⟨?_⟩; dsimp only; rw [List.map_append]; rfl)
          · have hge : L.length ≤ k := by omega
            rw [List.drop_eq_nil_of_le hge, frL] at hrr
            repeat' (
              (conv => whnf)
              first
              | refine Or.inl ?_
              | refine And.intro (Obl.out (?_ : Obl _)) ?_
              | refine ifB_intro (fun h => ?_) (fun h => ?_)
              | refine ⟨i, r.tr, rfl, map_get hr, ?_⟩
              | refine Exists.intro _ (And.intro rfl ?_)
              | ((with_reducible show _ = _); rfl))
            all_goals try (
              (with_reducible refine Obl.mk ?_)
              first
              | ((with_reducible show regOk _ _ = true); kernel_rfl)
              | ((with_reducible show eqTyOk _ _ = true); kernel_rfl)
              | rfl
              | exact trivial
              | ((repeat' (first | exact trivial | refine And.intro ?_ ?_)); done)
              | decide
              | (intro r hr; simp only [List.mem_cons, List.not_mem_nil, or_false] at hr; first | (subst hr; rfl) | (rcases hr with rfl | rfl <;> rfl) | (rcases hr with rfl | rfl | rfl <;> rfl) | (rcases hr with rfl | rfl | rfl | rfl <;> rfl))
              | (refine And.intro ?_ ?_ <;> simp only [List.length_map, List.length_append, List.length_cons, List.length_nil] <;> omega))
            all_goals try (exfalso; simp only [decide_eq_false_iff_not, decide_eq_true_eq] at *; omega)
            all_goals try exact ⟨⟨by simp only [List.length_map, List.length_cons, List.length_nil]; omega, by simp only [List.length_map, List.length_cons, List.length_nil]; omega⟩⟩
            all_goals exact ⟨by dsimp only [oL]; rw [← hrr, List.map_append]; rfl⟩
        | true =>
          have hS : S = true := by cases S with | true => rfl | false => exact absurd ⟨rfl, rfl⟩ hc
          rw [hS] at hst
          repeat' (
            (conv => whnf)
            first
            | refine Or.inl ?_
            | refine And.intro (Obl.out (?_ : Obl _)) ?_
            | refine ifB_intro (fun h => ?_) (fun h => ?_)
            | refine call_intro (hsy) (And.intro (And.intro rfl (And.intro rfl trivial)) (And.intro rfl trivial)) ?_
            | refine call_intro (hfr) (And.intro rfl (And.intro rfl trivial)) ?_
            | refine call_intro (hst) (And.intro rfl (And.intro rfl trivial)) ?_
            | refine call_intro (hin) (And.intro rfl (And.intro rfl trivial)) ?_
            | refine ⟨j, y.tr, rfl, map_get hy, ?_⟩
            | refine Exists.intro _ (And.intro rfl ?_)
            | ((with_reducible show _ = _); rfl))
          all_goals try (
            (with_reducible refine Obl.mk ?_)
            first
            | ((with_reducible show regOk _ _ = true); kernel_rfl)
            | ((with_reducible show eqTyOk _ _ = true); kernel_rfl)
            | rfl
            | exact trivial
            | ((repeat' (first | exact trivial | refine And.intro ?_ ?_)); done)
            | decide
            | (intro r hr; simp only [List.mem_cons, List.not_mem_nil, or_false] at hr; first | (subst hr; rfl) | (rcases hr with rfl | rfl <;> rfl) | (rcases hr with rfl | rfl | rfl <;> rfl) | (rcases hr with rfl | rfl | rfl | rfl <;> rfl))
            | (refine And.intro ?_ ?_ <;> simp only [List.length_map, List.length_append, List.length_cons, List.length_nil] <;> omega))
          all_goals try (exfalso; first | (have h' := of_decide_eq_true h; omega) | (simp at h; done))
          conv => whnf
          refine ⟨FrIx y.fName L r.fLine, fun q => ⟨[(3, .r (.c (.ptr (3, 0, 0) 0))), (9, tI .i64 (i : Int)), (10, tS q.1.2.1), (11, .r (.c (.own (46, 0, 0)))), (12, .r (.c (.own (50, 0, 0)))), (13, tI .i64 (q.1.1 : Int))], [((3, 0, 0), some (.box [.t (.int .i64 id), .t (.lst 3 (syms.map TSymbol.tr)), .t (.lst 4 (rules.map TRule.tr)), .t (.lst 3 (rows.map TRow.tr)), .t (.lst 5 (inls.map TInline.tr))])), ((46, 0, 0), some (.arr true 2 (q.1.2.2.map TFrame.tr))), ((50, 0, 0), some (.arr true 5 (L.map TInline.tr)))], [3, 46, 50]⟩, fun q => L.length - q.1.1, ⟨(0, y.fName, []), by simp, by simp, by simp⟩, ?_, ?_⟩
          · skip
            repeat' (
              (conv => whnf)
              first
              | refine Or.inl ?_
              | refine And.intro (Obl.out (?_ : Obl _)) ?_
              | refine ifB_intro (fun h => ?_) (fun h => ?_)
              | refine Exists.intro _ (And.intro rfl ?_)
              | ((with_reducible show _ = _); rfl))
            all_goals try (
              (with_reducible refine Obl.mk ?_)
              first
              | ((with_reducible show regOk _ _ = true); kernel_rfl)
              | ((with_reducible show eqTyOk _ _ = true); kernel_rfl)
              | rfl
              | exact trivial
              | ((repeat' (first | exact trivial | refine And.intro ?_ ?_)); done)
              | decide
              | (intro r hr; simp only [List.mem_cons, List.not_mem_nil, or_false] at hr; first | (subst hr; rfl) | (rcases hr with rfl | rfl <;> rfl) | (rcases hr with rfl | rfl | rfl <;> rfl) | (rcases hr with rfl | rfl | rfl | rfl <;> rfl))
              | (refine And.intro ?_ ?_ <;> simp only [List.length_map, List.length_append, List.length_cons, List.length_nil] <;> omega))
          intro ⟨⟨k, nm, acc⟩, hk, hal, hrr⟩
          dsimp only at hk hal hrr ⊢
          by_cases hlt : k < L.length
          · obtain ⟨x, hx⟩ := get_of_lt hlt
            rw [drop_at hx, frL] at hrr
            repeat' (
              (conv => whnf)
              first
              | refine Or.inl ?_
              | refine And.intro (Obl.out (?_ : Obl _)) ?_
              | refine ifB_intro (fun h => ?_) (fun h => ?_)
              | refine ⟨_, map_get hx, ?_⟩
              | refine Exists.intro _ (And.intro rfl ?_)
              | ((with_reducible show _ = _); rfl))
            all_goals try (
              (with_reducible refine Obl.mk ?_)
              first
              | ((with_reducible show regOk _ _ = true); kernel_rfl)
              | ((with_reducible show eqTyOk _ _ = true); kernel_rfl)
              | rfl
              | exact trivial
              | ((repeat' (first | exact trivial | refine And.intro ?_ ?_)); done)
              | decide
              | (intro r hr; simp only [List.mem_cons, List.not_mem_nil, or_false] at hr; first | (subst hr; rfl) | (rcases hr with rfl | rfl <;> rfl) | (rcases hr with rfl | rfl | rfl <;> rfl) | (rcases hr with rfl | rfl | rfl | rfl <;> rfl))
              | (refine And.intro ?_ ?_ <;> simp only [List.length_map, List.length_append, List.length_cons, List.length_nil] <;> omega))
            all_goals try (exfalso; simp only [decide_eq_false_iff_not, decide_eq_true_eq] at *; omega)
            all_goals try exact ⟨by rw [List.length_map]; omega⟩
            all_goals try exact ⟨⟨by simp only [List.length_map, List.length_cons, List.length_nil]; omega, by simp only [List.length_map, List.length_cons, List.length_nil]; omega⟩⟩
            conv => whnf
            refine ⟨⟨(k + 1, x.fName, acc ++ [⟨nm, x.fLine⟩]), by dsimp only; omega, by simp; omega, by rw [← hrr]; simp⟩, ?_, by dsimp only; omega⟩
            repeat' (
              (conv => whnf)
              first
              | refine Or.inl ?_
              | refine And.intro (Obl.out (?_ : Obl _)) ?_
              | refine ifB_intro (fun h => ?_) (fun h => ?_)
              | refine Exists.intro _ (And.intro rfl ?_)
              | ((with_reducible show _ = _); rfl))
            all_goals try (
              (with_reducible refine Obl.mk ?_)
              first
              | ((with_reducible show regOk _ _ = true); kernel_rfl)
              | ((with_reducible show eqTyOk _ _ = true); kernel_rfl)
              | rfl
              | exact trivial
              | ((repeat' (first | exact trivial | refine And.intro ?_ ?_)); done)
              | decide
              | (intro r hr; simp only [List.mem_cons, List.not_mem_nil, or_false] at hr; first | (subst hr; rfl) | (rcases hr with rfl | rfl <;> rfl) | (rcases hr with rfl | rfl | rfl <;> rfl) | (rcases hr with rfl | rfl | rfl | rfl <;> rfl))
              | (refine And.intro ?_ ?_ <;> simp only [List.length_map, List.length_append, List.length_cons, List.length_nil] <;> omega))
            all_goals first
              | (refine ⟨?_⟩; dsimp only; rw [IntWalk.i64_in _ (by omega)]; rfl)
              | (refine ⟨?_⟩; dsimp only; rw [List.map_append]; rfl)
          · have hge : L.length ≤ k := by omega
            rw [List.drop_eq_nil_of_le hge, frL] at hrr
            repeat' (
              (conv => whnf)
              first
              | refine Or.inl ?_
              | refine And.intro (Obl.out (?_ : Obl _)) ?_
              | refine ifB_intro (fun h => ?_) (fun h => ?_)
              | refine ⟨i, r.tr, rfl, map_get hr, ?_⟩
              | refine Exists.intro _ (And.intro rfl ?_)
              | ((with_reducible show _ = _); rfl))
            all_goals try (
              (with_reducible refine Obl.mk ?_)
              first
              | ((with_reducible show regOk _ _ = true); kernel_rfl)
              | ((with_reducible show eqTyOk _ _ = true); kernel_rfl)
              | rfl
              | exact trivial
              | ((repeat' (first | exact trivial | refine And.intro ?_ ?_)); done)
              | decide
              | (intro r hr; simp only [List.mem_cons, List.not_mem_nil, or_false] at hr; first | (subst hr; rfl) | (rcases hr with rfl | rfl <;> rfl) | (rcases hr with rfl | rfl | rfl <;> rfl) | (rcases hr with rfl | rfl | rfl | rfl <;> rfl))
              | (refine And.intro ?_ ?_ <;> simp only [List.length_map, List.length_append, List.length_cons, List.length_nil] <;> omega))
            all_goals try (exfalso; simp only [decide_eq_false_iff_not, decide_eq_true_eq] at *; omega)
            all_goals try exact ⟨⟨by simp only [List.length_map, List.length_cons, List.length_nil]; omega, by simp only [List.length_map, List.length_cons, List.length_nil]; omega⟩⟩
            all_goals exact ⟨by dsimp only [oL]; rw [← hrr, List.map_append]; rfl⟩
theorem szT_less {sz : Nat} {rows : List (List Tr)} {l : Int} (h : 0 ≤ szT (.lst sz rows) l) : szT (.lst sz rows) l ≤ l - rows.length := by
  rw [szT] at h ⊢
  split at h
  · omega
  · rename_i hn
    rw [if_neg hn]
    exact (szRs_small (L := l) _ _ h (by omega)).2
theorem szR_cons {c : Tr} {cs : List Tr} {l : Int} (h : 0 ≤ szR (c :: cs) l) : 0 ≤ szT c l ∧ 0 ≤ szR cs (szT c l) := by
  rw [szR] at h
  split at h
  · omega
  · exact ⟨by omega, h⟩
theorem debug_less {d : TDebug} {l : Int} (h : 0 ≤ szR d.tr l) : (d.fSymbols.length : Int) + d.fRows.length + d.fInlines.length ≤ l := by
  rw [TDebug.tr] at h
  obtain ⟨h1, h⟩ := szR_cons h
  obtain ⟨h2, h⟩ := szR_cons h
  obtain ⟨h3, h⟩ := szR_cons h
  obtain ⟨h4, h⟩ := szR_cons h
  obtain ⟨h5, h⟩ := szR_cons h
  have e1 : szT (.int .i64 d.fId) l ≤ l := by rw [szT]; omega
  have e2 := szT_less h2
  have e3 := szT_less h3
  have e4 := szT_less h4
  have e5 := szT_less h5
  simp only [List.length_map] at e2 e3 e4 e5
  omega
theorem frL_len : ∀ (l : List TInline) (nm : List UInt8) (line : Int), (frL nm l line).length = l.length + 1
  | [], _, _ => rfl
  | x :: l, nm, line => by rw [frL, List.length_cons, List.length_cons, frL_len l]
theorem frL_names {M : Nat} : ∀ (l : List TInline) (nm : List UInt8) (line : Int), nm.length ≤ M → (∀ x ∈ l, x.fName.length ≤ M) → ∀ y ∈ frL nm l line, y.fName.length ≤ M
  | [], nm, line, h, _, y, hy => by
    rw [frL] at hy
    rw [List.mem_singleton.1 hy]; exact h
  | x :: l, nm, line, h, hl, y, hy => by
    rw [frL] at hy
    rcases List.mem_cons.1 hy with rfl | hy
    · exact h
    · exact frL_names l x.fName line (hl x (by simp)) (fun z hz => hl z (by simp [hz])) y hy
theorem small_Frame {l : List TFrame} (hl : l.length ≤ 1048576) (hn : ∀ x ∈ l, x.fName.length ≤ 1048576) : smallT 1048576 (.lst 2 (l.map TFrame.tr)) := small_map hl fun x hx => by
  have := hn x hx
  simp [TFrame.tr, smallR, smallT]
  omega
theorem framesAt_small {d : TDebug} {off : Int} {start : Bool} (hs : smallR 1048576 d.tr) (hz : 0 ≤ szR d.tr 1048576) : smallT 1048576 (.lst 2 ((oL (framesAt d off start)).map TFrame.tr)) := by
  have h1 := debug_less hz
  have h2 := inlinesAt_len d.fInlines off
  simp only [TDebug.tr, smallR] at hs
  unfold framesAt
  split
  · exact small_Frame (by simp [oL]) (by simp [oL])
  · split
    · rename_i y r hy hr
      have hsy := smallRs_map hs.2.1 (List.mem_of_getElem? hy)
      simp only [TSymbol.tr, smallR, smallT] at hsy
      have hyl : d.fSymbols.length ≠ 0 := fun h => by rw [List.length_eq_zero_iff.1 h] at hy; simp at hy
      refine small_Frame (by dsimp only [oL]; rw [frL_len]; omega) (frL_names _ _ _ (by omega) fun x hx => ?_)
      exact inl_short hs.2.2.2.2.1 x (inlinesAt_sub x hx)
    · exact small_Frame (by simp [oL]) (by simp [oL])
end Go.Proofs.Ytnadkeiidbgmjaa
