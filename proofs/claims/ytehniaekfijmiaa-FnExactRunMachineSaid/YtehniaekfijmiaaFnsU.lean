/- SymbolAt, FramesAt in both texts. -/
import Derived.Test.YtehniaekfijmiaaFnsL
import Derived.Test.YtehniaekfijmiaaFnsK
import Derived.Test.YtehniaekfijmiaaMkA
import Derived.Test.YtehniaekfijmiaaTyB
import Derived.Test.YtehniaekfijmiaaFnsE
import Derived.Test.YtehniaekfijmiaaFnsS
namespace Go.Proofs.Ytehniaekfijmiaa
open Go.Sim
set_option maxRecDepth 100000
set_option maxHeartbeats 4000000
def symHit (off : Int) (x : TSymbol) : Bool := within x.fStart 0 1000000 && (within x.fSize 0 1000000 && (decide (x.fStart ≤ off) && decide (off < x.fStart + x.fSize)))
def symAtF (off : Int) : List TSymbol → Nat → Int
  | [], _ => -1
  | x :: l, k => if symHit off x then (k : Int) else symAtF off l (k + 1)
def symbolAt (l : List TSymbol) (off : Int) : Int := symAtF off l 0
theorem symAtF_at {off : Int} {l : List TSymbol} {k : Nat} {x : TSymbol} (hx : l[k]? = some x) : symAtF off (l.drop k) k = if symHit off x then (k : Int) else symAtF off (l.drop (k + 1)) (k + 1) := by
  rw [drop_at hx, symAtF]
theorem symAtF_range {off : Int} : ∀ (l : List TSymbol) (k : Nat), symAtF off l k = -1 ∨ ((k : Int) ≤ symAtF off l k ∧ symAtF off l k < k + l.length)
  | [], k => .inl (by rw [symAtF])
  | x :: l, k => by
    rw [symAtF]
    split
    · exact .inr ⟨by omega, by simp only [List.length_cons]; omega⟩
    · rcases symAtF_range l (k + 1) with h | h
      · exact .inl h
      · exact .inr ⟨by omega, by simp only [List.length_cons]; omega⟩
theorem symbolAt_range (l : List TSymbol) (off : Int) : symbolAt l off = -1 ∨ (0 ≤ symbolAt l off ∧ symbolAt l off < l.length) := by
  have := symAtF_range (off := off) l 0
  unfold symbolAt
  omega
theorem s_spec_SymbolAt (i : TImage) (off : Int) (hl : i.fSymbols.length ≤ 1048576) : Sim.Spec Try.prog 128 [.agg i.tr, tvI off] (rI (symbolAt i.fSymbols off)) := by
  refine spec_of_W hΓ hmix Try.func128 rfl (by decide) rfl ?_
  obtain ⟨code, l⟩ := i
  dsimp only at hl ⊢
  have hlen : (l.map TSymbol.tr).length = l.length := by simp
  unfold symbolAt
  repeat' ((conv => whnf); first | refine Or.inl ?_ | refine And.intro (Obl.out (?_ : Obl _)) ?_ | refine ifB_intro (fun h => ?_) (fun h => ?_) | refine Exists.intro _ (And.intro rfl ?_) | ((with_reducible show _ = _); rfl))
  all_goals try ((with_reducible refine Obl.mk ?_); first | ((with_reducible show regOk _ _ = true); kernel_rfl) | ((with_reducible show eqTyOk _ _ = true); kernel_rfl) | rfl | exact trivial | ((repeat' (first | exact trivial | refine And.intro ?_ ?_)); done) | decide | ((repeat' (first | exact List.forall_mem_nil _ | refine List.forall_mem_cons.2 (And.intro rfl ?_))); done) | (refine And.intro ?_ ?_ <;> simp only [List.length_map, List.length_append, List.length_cons, List.length_nil] <;> omega))
  conv => whnf
  refine ⟨{ k : Nat // k ≤ l.length ∧ symAtF off (l.drop k) k = symAtF off l 0 }, fun k => ⟨[(1, tI .i64 off), (2, .r (.c (.ptr (2, 0, 0) 0))), (5, tI .i64 (k.1 : Int))], [((2, 0, 0), some (.box [.t (.str code), .t (.lst 3 (l.map TSymbol.tr))]))], [2]⟩, fun k => l.length - k.1, ⟨0, by omega, by rw [List.drop_zero]⟩, ?_, ?_⟩
  · skip
    repeat' ((conv => whnf); first | refine Or.inl ?_ | refine And.intro (Obl.out (?_ : Obl _)) ?_ | refine ifB_intro (fun h => ?_) (fun h => ?_) | refine Exists.intro _ (And.intro rfl ?_) | ((with_reducible show _ = _); rfl))
    all_goals try ((with_reducible refine Obl.mk ?_); first | ((with_reducible show regOk _ _ = true); kernel_rfl) | ((with_reducible show eqTyOk _ _ = true); kernel_rfl) | rfl | exact trivial | ((repeat' (first | exact trivial | refine And.intro ?_ ?_)); done) | decide | ((repeat' (first | exact List.forall_mem_nil _ | refine List.forall_mem_cons.2 (And.intro rfl ?_))); done) | (refine And.intro ?_ ?_ <;> simp only [List.length_map, List.length_append, List.length_cons, List.length_nil] <;> omega))
  intro ⟨k, hk, hr⟩
  dsimp only
  by_cases hlt : k < l.length
  · obtain ⟨x, hx⟩ := get_of_lt hlt
    rw [symAtF_at hx] at hr
    have hb1 := s_spec_l01In x.fStart 0 1000000
    have hb2 := s_spec_l01In x.fSize 0 1000000
    have hback : symHit off x = false → symAtF off (l.drop (k + 1)) (k + 1) = symAtF off l 0 := fun h => by rw [h, if_neg (by simp)] at hr; exact hr
    cases hw1 : within x.fStart 0 1000000 with
    | false =>
      have hh : symHit off x = false := by rw [symHit, hw1]; rfl
      rw [hw1] at hb1
      repeat' ((conv => whnf); first | refine Or.inl ?_ | refine And.intro (Obl.out (?_ : Obl _)) ?_ | refine ifB_intro (fun h => ?_) (fun h => ?_) | refine ⟨k, x.tr, rfl, map_get hx, ?_⟩ | refine call_intro (hb1) (And.intro rfl (And.intro rfl (And.intro rfl trivial))) ?_ | refine Exists.intro _ (And.intro rfl ?_) | ((with_reducible show _ = _); rfl))
      all_goals try ((with_reducible refine Obl.mk ?_); first | ((with_reducible show regOk _ _ = true); kernel_rfl) | ((with_reducible show eqTyOk _ _ = true); kernel_rfl) | rfl | exact trivial | ((repeat' (first | exact trivial | refine And.intro ?_ ?_)); done) | decide | ((repeat' (first | exact List.forall_mem_nil _ | refine List.forall_mem_cons.2 (And.intro rfl ?_))); done) | (refine And.intro ?_ ?_ <;> simp only [List.length_map, List.length_append, List.length_cons, List.length_nil] <;> omega))
      all_goals try (exfalso; simp only [decide_eq_false_iff_not, decide_eq_true_eq] at *; omega)
      all_goals conv => whnf
      all_goals refine ⟨⟨k + 1, by omega, hback hh⟩, ?_, by dsimp only; omega⟩
      repeat' ((conv => whnf); first | refine Or.inl ?_ | refine And.intro (Obl.out (?_ : Obl _)) ?_ | refine ifB_intro (fun h => ?_) (fun h => ?_) | refine Exists.intro _ (And.intro rfl ?_) | ((with_reducible show _ = _); rfl))
      all_goals try ((with_reducible refine Obl.mk ?_); first | ((with_reducible show regOk _ _ = true); kernel_rfl) | ((with_reducible show eqTyOk _ _ = true); kernel_rfl) | rfl | exact trivial | ((repeat' (first | exact trivial | refine And.intro ?_ ?_)); done) | decide | ((repeat' (first | exact List.forall_mem_nil _ | refine List.forall_mem_cons.2 (And.intro rfl ?_))); done) | (refine And.intro ?_ ?_ <;> simp only [List.length_map, List.length_append, List.length_cons, List.length_nil] <;> omega))
      all_goals exact ⟨by dsimp only; rw [IntWalk.i64_in _ (by omega)]; rfl⟩
    | true =>
      rw [hw1] at hb1
      cases hw2 : within x.fSize 0 1000000 with
      | false =>
        have hh : symHit off x = false := by rw [symHit, hw1, hw2]; rfl
        rw [hw2] at hb2
        repeat' ((conv => whnf); first | refine Or.inl ?_ | refine And.intro (Obl.out (?_ : Obl _)) ?_ | refine ifB_intro (fun h => ?_) (fun h => ?_) | refine ⟨k, x.tr, rfl, map_get hx, ?_⟩ | refine call_intro (hb1) (And.intro rfl (And.intro rfl (And.intro rfl trivial))) ?_ | refine call_intro (hb2) (And.intro rfl (And.intro rfl (And.intro rfl trivial))) ?_ | refine Exists.intro _ (And.intro rfl ?_) | ((with_reducible show _ = _); rfl))
        all_goals try ((with_reducible refine Obl.mk ?_); first | ((with_reducible show regOk _ _ = true); kernel_rfl) | ((with_reducible show eqTyOk _ _ = true); kernel_rfl) | rfl | exact trivial | ((repeat' (first | exact trivial | refine And.intro ?_ ?_)); done) | decide | ((repeat' (first | exact List.forall_mem_nil _ | refine List.forall_mem_cons.2 (And.intro rfl ?_))); done) | (refine And.intro ?_ ?_ <;> simp only [List.length_map, List.length_append, List.length_cons, List.length_nil] <;> omega))
        all_goals try (exfalso; simp only [decide_eq_false_iff_not, decide_eq_true_eq] at *; omega)
        all_goals conv => whnf
        all_goals refine ⟨⟨k + 1, by omega, hback hh⟩, ?_, by dsimp only; omega⟩
        repeat' ((conv => whnf); first | refine Or.inl ?_ | refine And.intro (Obl.out (?_ : Obl _)) ?_ | refine ifB_intro (fun h => ?_) (fun h => ?_) | refine Exists.intro _ (And.intro rfl ?_) | ((with_reducible show _ = _); rfl))
        all_goals try ((with_reducible refine Obl.mk ?_); first | ((with_reducible show regOk _ _ = true); kernel_rfl) | ((with_reducible show eqTyOk _ _ = true); kernel_rfl) | rfl | exact trivial | ((repeat' (first | exact trivial | refine And.intro ?_ ?_)); done) | decide | ((repeat' (first | exact List.forall_mem_nil _ | refine List.forall_mem_cons.2 (And.intro rfl ?_))); done) | (refine And.intro ?_ ?_ <;> simp only [List.length_map, List.length_append, List.length_cons, List.length_nil] <;> omega))
        all_goals exact ⟨by dsimp only; rw [IntWalk.i64_in _ (by omega)]; rfl⟩
      | true =>
        rw [hw2] at hb2
        have hi1 := within_iff.1 hw1
        have hi2 := within_iff.1 hw2
        have hw3 : IntKind.i64.wrap (x.fStart + x.fSize) = x.fStart + x.fSize := IntWalk.i64_in _ (by omega)
        cases hh : symHit off x with
        | true =>
          rw [hh, if_pos rfl] at hr
          rw [symHit, hw1, hw2] at hh
          simp only [Bool.true_and, Bool.and_eq_true, decide_eq_true_eq] at hh
          repeat' ((conv => whnf); first | refine Or.inl ?_ | refine And.intro (Obl.out (?_ : Obl _)) ?_ | refine ifB_intro (fun h => ?_) (fun h => ?_) | refine ⟨k, x.tr, rfl, map_get hx, ?_⟩ | refine call_intro (hb1) (And.intro rfl (And.intro rfl (And.intro rfl trivial))) ?_ | refine call_intro (hb2) (And.intro rfl (And.intro rfl (And.intro rfl trivial))) ?_ | refine Exists.intro _ (And.intro rfl ?_) | ((with_reducible show _ = _); rfl))
          all_goals try ((with_reducible refine Obl.mk ?_); first | ((with_reducible show regOk _ _ = true); kernel_rfl) | ((with_reducible show eqTyOk _ _ = true); kernel_rfl) | rfl | exact trivial | ((repeat' (first | exact trivial | refine And.intro ?_ ?_)); done) | decide | ((repeat' (first | exact List.forall_mem_nil _ | refine List.forall_mem_cons.2 (And.intro rfl ?_))); done) | (refine And.intro ?_ ?_ <;> simp only [List.length_map, List.length_append, List.length_cons, List.length_nil] <;> omega))
          all_goals try (exfalso; simp only [decide_eq_false_iff_not, decide_eq_true_eq] at *; omega)
          all_goals try exact ⟨by rw [hr]⟩
          all_goals (exfalso; (try rw [hw3] at h); simp only [decide_eq_false_iff_not] at h; omega)
        | false =>
          have hbk := hback hh
          rw [symHit, hw1, hw2] at hh
          simp only [Bool.true_and, Bool.and_eq_false_iff, decide_eq_false_iff_not] at hh
          repeat' ((conv => whnf); first | refine Or.inl ?_ | refine And.intro (Obl.out (?_ : Obl _)) ?_ | refine ifB_intro (fun h => ?_) (fun h => ?_) | refine ⟨k, x.tr, rfl, map_get hx, ?_⟩ | refine call_intro (hb1) (And.intro rfl (And.intro rfl (And.intro rfl trivial))) ?_ | refine call_intro (hb2) (And.intro rfl (And.intro rfl (And.intro rfl trivial))) ?_ | refine Exists.intro _ (And.intro rfl ?_) | ((with_reducible show _ = _); rfl))
          all_goals try ((with_reducible refine Obl.mk ?_); first | ((with_reducible show regOk _ _ = true); kernel_rfl) | ((with_reducible show eqTyOk _ _ = true); kernel_rfl) | rfl | exact trivial | ((repeat' (first | exact trivial | refine And.intro ?_ ?_)); done) | decide | ((repeat' (first | exact List.forall_mem_nil _ | refine List.forall_mem_cons.2 (And.intro rfl ?_))); done) | (refine And.intro ?_ ?_ <;> simp only [List.length_map, List.length_append, List.length_cons, List.length_nil] <;> omega))
          all_goals try (exfalso; simp only [decide_eq_false_iff_not, decide_eq_true_eq] at *; omega)
          all_goals try (exfalso; rw [hw3] at *; simp only [decide_eq_true_eq] at *; omega)
          all_goals conv => whnf
          all_goals refine ⟨⟨k + 1, by omega, hbk⟩, ?_, by dsimp only; omega⟩
          repeat' ((conv => whnf); first | refine Or.inl ?_ | refine And.intro (Obl.out (?_ : Obl _)) ?_ | refine ifB_intro (fun h => ?_) (fun h => ?_) | refine Exists.intro _ (And.intro rfl ?_) | ((with_reducible show _ = _); rfl))
          all_goals try ((with_reducible refine Obl.mk ?_); first | ((with_reducible show regOk _ _ = true); kernel_rfl) | ((with_reducible show eqTyOk _ _ = true); kernel_rfl) | rfl | exact trivial | ((repeat' (first | exact trivial | refine And.intro ?_ ?_)); done) | decide | ((repeat' (first | exact List.forall_mem_nil _ | refine List.forall_mem_cons.2 (And.intro rfl ?_))); done) | (refine And.intro ?_ ?_ <;> simp only [List.length_map, List.length_append, List.length_cons, List.length_nil] <;> omega))
          all_goals exact ⟨by dsimp only; rw [IntWalk.i64_in _ (by omega)]; rfl⟩
  · have hge : l.length ≤ k := by omega
    rw [List.drop_eq_nil_of_le hge, symAtF] at hr
    repeat' ((conv => whnf); first | refine Or.inl ?_ | refine And.intro (Obl.out (?_ : Obl _)) ?_ | refine ifB_intro (fun h => ?_) (fun h => ?_) | refine Exists.intro _ (And.intro rfl ?_) | ((with_reducible show _ = _); rfl))
    all_goals try ((with_reducible refine Obl.mk ?_); first | ((with_reducible show regOk _ _ = true); kernel_rfl) | ((with_reducible show eqTyOk _ _ = true); kernel_rfl) | rfl | exact trivial | ((repeat' (first | exact trivial | refine And.intro ?_ ?_)); done) | decide | ((repeat' (first | exact List.forall_mem_nil _ | refine List.forall_mem_cons.2 (And.intro rfl ?_))); done) | (refine And.intro ?_ ?_ <;> simp only [List.length_map, List.length_append, List.length_cons, List.length_nil] <;> omega))
    all_goals try (exfalso; simp only [decide_eq_false_iff_not, decide_eq_true_eq] at *; omega)
    exact ⟨by rw [← hr]⟩
end Go.Proofs.Ytehniaekfijmiaa
