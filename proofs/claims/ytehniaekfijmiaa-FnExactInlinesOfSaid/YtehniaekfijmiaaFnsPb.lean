/- Lines by themselves, in both texts. -/
import Derived.Test.YtehniaekfijmiaaFnsPa
namespace Go.Proofs.Ytehniaekfijmiaa
open Go.Sim
set_option maxRecDepth 100000
set_option maxHeartbeats 4000000
def idxN {α : Type} [BEq α] : List α → Nat → α → Option Nat
  | [], _, _ => none
  | x :: l, i, s => if (x == s) = true then some i else idxN l (i + 1) s
theorem idxN_at {α : Type} [BEq α] {l : List α} {i : Nat} {x s : α} (hx : l[i]? = some x) : idxN (l.drop i) i s = if (x == s) = true then some i else idxN (l.drop (i + 1)) (i + 1) s := by
  rw [drop_at hx, idxN]
theorem idxN_has {α : Type} [BEq α] [LawfulBEq α] : ∀ {l : List α} {i : Nat} {s : α}, (idxN l i s).isSome = l.contains s
  | [], _, _ => rfl
  | x :: l, i, s => by
    rw [idxN, List.contains_cons]
    cases h : (x == s) with
    | true => rw [if_pos rfl]; simp [eq_of_beq h]
    | false =>
      have h2 : (s == x) = false := by rw [beq_eq_false_iff_ne] at h ⊢; exact fun e => h e.symm
      rw [if_neg (by simp), h2, Bool.false_or]
      exact idxN_has
def idxOf {α : Type} [BEq α] (l : List α) (s : α) : Int := endI (idxN l 0 s)
theorem idxOf_has {α : Type} [BEq α] [LawfulBEq α] {l : List α} {s : α} : decide (0 ≤ idxOf l s) = l.contains s := by
  rw [← idxN_has (i := 0), idxOf]
  cases idxN l 0 s with
  | none => rfl
  | some k => simp [endI]
theorem s_slices_IndexS (l : List (List UInt8)) (s : List UInt8) (hl : l.length ≤ 4194304) : Sim.Spec Try.prog 242 [tvL 1 (l.map strRow), tvS s] (rI (idxOf l s)) := by
  refine spec_of_W hΓ hmix Try.func242 rfl (by decide) rfl ?_
  have hlen : (l.map strRow).length = l.length := by simp
  obtain ⟨R, hR⟩ : ∃ R, idxOf l s = R := ⟨_, rfl⟩
  rw [hR]
  repeat' ((conv => whnf); first | refine Or.inl ?_ | refine And.intro (Obl.out (?_ : Obl _)) ?_ | refine ifB_intro (fun h => ?_) (fun h => ?_) | refine Exists.intro _ (And.intro rfl ?_) | ((with_reducible show _ = _); rfl))
  all_goals try ((with_reducible refine Obl.mk ?_); first | ((with_reducible show regOk _ _ = true); kernel_rfl) | rfl | exact trivial | ((repeat' (first | exact trivial | refine And.intro ?_ ?_)); done) | decide | ((repeat' (first | exact List.forall_mem_nil _ | refine List.forall_mem_cons.2 (And.intro rfl ?_))); done) | (refine And.intro ?_ ?_ <;> simp only [List.length_map, List.length_append, List.length_cons, List.length_nil] <;> omega))
  conv => whnf
  refine ⟨{ k : Nat // k ≤ l.length ∧ endI (idxN (l.drop k) k s) = R }, fun k => ⟨[(0, .r (.c (.t (.lst 1 (l.map strRow))))), (1, tS s), (6, .r (.c (.t (.lst 1 (l.map strRow))))), (7, tI .i64 ((l.map strRow).length : Int)), (8, tI .i64 (k.1 : Int))], [], []⟩, fun k => l.length - k.1, ⟨0, by omega, hR⟩, ?_, ?_⟩
  · skip
    repeat' ((conv => whnf); first | refine Or.inl ?_ | refine And.intro (Obl.out (?_ : Obl _)) ?_ | refine ifB_intro (fun h => ?_) (fun h => ?_) | refine Exists.intro _ (And.intro rfl ?_) | ((with_reducible show _ = _); rfl))
    all_goals try ((with_reducible refine Obl.mk ?_); first | ((with_reducible show regOk _ _ = true); kernel_rfl) | rfl | exact trivial | ((repeat' (first | exact trivial | refine And.intro ?_ ?_)); done) | decide | ((repeat' (first | exact List.forall_mem_nil _ | refine List.forall_mem_cons.2 (And.intro rfl ?_))); done) | (refine And.intro ?_ ?_ <;> simp only [List.length_map, List.length_append, List.length_cons, List.length_nil] <;> omega))
  intro ⟨k, hk, hr⟩
  dsimp only at hk hr ⊢
  by_cases hlt : k < l.length
  · obtain ⟨x, hx⟩ := get_of_lt hlt
    rw [idxN_at hx] at hr
    cases he : (x == s) with
    | true =>
      rw [he, if_pos rfl] at hr
      have he2 := eq_of_beq he
      subst he2
      subst hr
      repeat' ((conv => whnf); first | refine Or.inl ?_ | refine And.intro (Obl.out (?_ : Obl _)) ?_ | refine ifB_intro (fun h => ?_) (fun h => ?_) | refine ⟨k, (strRow x), rfl, map_get hx, ?_⟩ | refine Exists.intro _ (And.intro rfl ?_) | ((with_reducible show _ = _); rfl))
      all_goals try ((with_reducible refine Obl.mk ?_); first | ((with_reducible show regOk _ _ = true); kernel_rfl) | rfl | exact trivial | ((repeat' (first | exact trivial | refine And.intro ?_ ?_)); done) | decide | ((repeat' (first | exact List.forall_mem_nil _ | refine List.forall_mem_cons.2 (And.intro rfl ?_))); done) | (refine And.intro ?_ ?_ <;> simp only [List.length_map, List.length_append, List.length_cons, List.length_nil] <;> omega))
      all_goals try (exfalso; simp only [decide_eq_false_iff_not, decide_eq_true_eq] at *; omega)
      all_goals try (exfalso; (try simp_all [within]); (try omega); done)
    | false =>
      rw [he, if_neg (by simp)] at hr
      repeat' ((conv => whnf); first | refine Or.inl ?_ | refine And.intro (Obl.out (?_ : Obl _)) ?_ | refine ifB_intro (fun h => ?_) (fun h => ?_) | refine ⟨k, (strRow x), rfl, map_get hx, ?_⟩ | refine Exists.intro _ (And.intro rfl ?_) | ((with_reducible show _ = _); rfl))
      all_goals try ((with_reducible refine Obl.mk ?_); first | ((with_reducible show regOk _ _ = true); kernel_rfl) | rfl | exact trivial | ((repeat' (first | exact trivial | refine And.intro ?_ ?_)); done) | decide | ((repeat' (first | exact List.forall_mem_nil _ | refine List.forall_mem_cons.2 (And.intro rfl ?_))); done) | (refine And.intro ?_ ?_ <;> simp only [List.length_map, List.length_append, List.length_cons, List.length_nil] <;> omega))
      all_goals try (exfalso; simp only [decide_eq_false_iff_not, decide_eq_true_eq] at *; omega)
      all_goals try (exfalso; (try simp_all [within]); (try omega); done)
      conv => whnf
      refine ⟨⟨k + 1, by omega, hr⟩, ?_, by dsimp only; omega⟩
      repeat' ((conv => whnf); first | refine Or.inl ?_ | refine And.intro (Obl.out (?_ : Obl _)) ?_ | refine ifB_intro (fun h => ?_) (fun h => ?_) | refine Exists.intro _ (And.intro rfl ?_) | ((with_reducible show _ = _); rfl))
      all_goals try ((with_reducible refine Obl.mk ?_); first | ((with_reducible show regOk _ _ = true); kernel_rfl) | rfl | exact trivial | ((repeat' (first | exact trivial | refine And.intro ?_ ?_)); done) | decide | ((repeat' (first | exact List.forall_mem_nil _ | refine List.forall_mem_cons.2 (And.intro rfl ?_))); done) | (refine And.intro ?_ ?_ <;> simp only [List.length_map, List.length_append, List.length_cons, List.length_nil] <;> omega))
      all_goals try exact ⟨by dsimp only; rw [IntWalk.i64_in _ (by omega)]; rfl⟩
  · rw [List.drop_eq_nil_of_le (by omega), idxN] at hr
    subst hr
    repeat' ((conv => whnf); first | refine Or.inl ?_ | refine And.intro (Obl.out (?_ : Obl _)) ?_ | refine ifB_intro (fun h => ?_) (fun h => ?_) | refine Exists.intro _ (And.intro rfl ?_) | ((with_reducible show _ = _); rfl))
    all_goals try ((with_reducible refine Obl.mk ?_); first | ((with_reducible show regOk _ _ = true); kernel_rfl) | rfl | exact trivial | ((repeat' (first | exact trivial | refine And.intro ?_ ?_)); done) | decide | ((repeat' (first | exact List.forall_mem_nil _ | refine List.forall_mem_cons.2 (And.intro rfl ?_))); done) | (refine And.intro ?_ ?_ <;> simp only [List.length_map, List.length_append, List.length_cons, List.length_nil] <;> omega))
    all_goals try (exfalso; simp only [decide_eq_false_iff_not, decide_eq_true_eq] at *; omega)
theorem s_slices_ContainsS (l : List (List UInt8)) (s : List UInt8) (hl : l.length ≤ 4194304) : Sim.Spec Try.prog 232 [tvL 1 (l.map strRow), tvS s] (rB (l.contains s)) := by
  refine spec_of_W hΓ hmix Try.func232 rfl (by decide) rfl ?_
  have hI := s_slices_IndexS l s hl
  rw [← idxOf_has]
  generalize idxOf l s = e at *
  repeat' ((conv => whnf); first | refine Or.inl ?_ | refine And.intro (Obl.out (?_ : Obl _)) ?_ | refine ifB_intro (fun h => ?_) (fun h => ?_) | refine call_intro (hI) (And.intro rfl (And.intro rfl trivial)) ?_ | refine Exists.intro _ (And.intro rfl ?_) | ((with_reducible show _ = _); rfl))
  all_goals try ((with_reducible refine Obl.mk ?_); first | ((with_reducible show regOk _ _ = true); kernel_rfl) | rfl | exact trivial | ((repeat' (first | exact trivial | refine And.intro ?_ ?_)); done) | decide | ((repeat' (first | exact List.forall_mem_nil _ | refine List.forall_mem_cons.2 (And.intro rfl ?_))); done) | (refine And.intro ?_ ?_ <;> simp only [List.length_map, List.length_append, List.length_cons, List.length_nil] <;> omega))
theorem s_slices_IndexI (l : List Int) (s : Int) (hl : l.length ≤ 4194304) : Sim.Spec Try.prog 214 [tvL 1 (l.map intRow), tvI s] (rI (idxOf l s)) := by
  refine spec_of_W hΓ hmix Try.func214 rfl (by decide) rfl ?_
  have hlen : (l.map intRow).length = l.length := by simp
  obtain ⟨R, hR⟩ : ∃ R, idxOf l s = R := ⟨_, rfl⟩
  rw [hR]
  repeat' ((conv => whnf); first | refine Or.inl ?_ | refine And.intro (Obl.out (?_ : Obl _)) ?_ | refine ifB_intro (fun h => ?_) (fun h => ?_) | refine Exists.intro _ (And.intro rfl ?_) | ((with_reducible show _ = _); rfl))
  all_goals try ((with_reducible refine Obl.mk ?_); first | ((with_reducible show regOk _ _ = true); kernel_rfl) | rfl | exact trivial | ((repeat' (first | exact trivial | refine And.intro ?_ ?_)); done) | decide | ((repeat' (first | exact List.forall_mem_nil _ | refine List.forall_mem_cons.2 (And.intro rfl ?_))); done) | (refine And.intro ?_ ?_ <;> simp only [List.length_map, List.length_append, List.length_cons, List.length_nil] <;> omega))
  conv => whnf
  refine ⟨{ k : Nat // k ≤ l.length ∧ endI (idxN (l.drop k) k s) = R }, fun k => ⟨[(0, .r (.c (.t (.lst 1 (l.map intRow))))), (1, tI .i64 s), (6, .r (.c (.t (.lst 1 (l.map intRow))))), (7, tI .i64 ((l.map intRow).length : Int)), (8, tI .i64 (k.1 : Int))], [], []⟩, fun k => l.length - k.1, ⟨0, by omega, hR⟩, ?_, ?_⟩
  · skip
    repeat' ((conv => whnf); first | refine Or.inl ?_ | refine And.intro (Obl.out (?_ : Obl _)) ?_ | refine ifB_intro (fun h => ?_) (fun h => ?_) | refine Exists.intro _ (And.intro rfl ?_) | ((with_reducible show _ = _); rfl))
    all_goals try ((with_reducible refine Obl.mk ?_); first | ((with_reducible show regOk _ _ = true); kernel_rfl) | rfl | exact trivial | ((repeat' (first | exact trivial | refine And.intro ?_ ?_)); done) | decide | ((repeat' (first | exact List.forall_mem_nil _ | refine List.forall_mem_cons.2 (And.intro rfl ?_))); done) | (refine And.intro ?_ ?_ <;> simp only [List.length_map, List.length_append, List.length_cons, List.length_nil] <;> omega))
  intro ⟨k, hk, hr⟩
  dsimp only at hk hr ⊢
  by_cases hlt : k < l.length
  · obtain ⟨x, hx⟩ := get_of_lt hlt
    rw [idxN_at hx] at hr
    cases he : (x == s) with
    | true =>
      rw [he, if_pos rfl] at hr
      have he2 := eq_of_beq he
      subst he2
      subst hr
      repeat' ((conv => whnf); first | refine Or.inl ?_ | refine And.intro (Obl.out (?_ : Obl _)) ?_ | refine ifB_intro (fun h => ?_) (fun h => ?_) | refine ⟨k, (intRow x), rfl, map_get hx, ?_⟩ | refine Exists.intro _ (And.intro rfl ?_) | ((with_reducible show _ = _); rfl))
      all_goals try ((with_reducible refine Obl.mk ?_); first | ((with_reducible show regOk _ _ = true); kernel_rfl) | rfl | exact trivial | ((repeat' (first | exact trivial | refine And.intro ?_ ?_)); done) | decide | ((repeat' (first | exact List.forall_mem_nil _ | refine List.forall_mem_cons.2 (And.intro rfl ?_))); done) | (refine And.intro ?_ ?_ <;> simp only [List.length_map, List.length_append, List.length_cons, List.length_nil] <;> omega))
      all_goals try (exfalso; simp only [decide_eq_false_iff_not, decide_eq_true_eq] at *; omega)
      all_goals try (exfalso; (try simp_all [within]); (try omega); done)
    | false =>
      rw [he, if_neg (by simp)] at hr
      repeat' ((conv => whnf); first | refine Or.inl ?_ | refine And.intro (Obl.out (?_ : Obl _)) ?_ | refine ifB_intro (fun h => ?_) (fun h => ?_) | refine ⟨k, (intRow x), rfl, map_get hx, ?_⟩ | refine Exists.intro _ (And.intro rfl ?_) | ((with_reducible show _ = _); rfl))
      all_goals try ((with_reducible refine Obl.mk ?_); first | ((with_reducible show regOk _ _ = true); kernel_rfl) | rfl | exact trivial | ((repeat' (first | exact trivial | refine And.intro ?_ ?_)); done) | decide | ((repeat' (first | exact List.forall_mem_nil _ | refine List.forall_mem_cons.2 (And.intro rfl ?_))); done) | (refine And.intro ?_ ?_ <;> simp only [List.length_map, List.length_append, List.length_cons, List.length_nil] <;> omega))
      all_goals try (exfalso; simp only [decide_eq_false_iff_not, decide_eq_true_eq] at *; omega)
      all_goals try (exfalso; (try simp_all [within]); (try omega); done)
      conv => whnf
      refine ⟨⟨k + 1, by omega, hr⟩, ?_, by dsimp only; omega⟩
      repeat' ((conv => whnf); first | refine Or.inl ?_ | refine And.intro (Obl.out (?_ : Obl _)) ?_ | refine ifB_intro (fun h => ?_) (fun h => ?_) | refine Exists.intro _ (And.intro rfl ?_) | ((with_reducible show _ = _); rfl))
      all_goals try ((with_reducible refine Obl.mk ?_); first | ((with_reducible show regOk _ _ = true); kernel_rfl) | rfl | exact trivial | ((repeat' (first | exact trivial | refine And.intro ?_ ?_)); done) | decide | ((repeat' (first | exact List.forall_mem_nil _ | refine List.forall_mem_cons.2 (And.intro rfl ?_))); done) | (refine And.intro ?_ ?_ <;> simp only [List.length_map, List.length_append, List.length_cons, List.length_nil] <;> omega))
      all_goals try exact ⟨by dsimp only; rw [IntWalk.i64_in _ (by omega)]; rfl⟩
  · rw [List.drop_eq_nil_of_le (by omega), idxN] at hr
    subst hr
    repeat' ((conv => whnf); first | refine Or.inl ?_ | refine And.intro (Obl.out (?_ : Obl _)) ?_ | refine ifB_intro (fun h => ?_) (fun h => ?_) | refine Exists.intro _ (And.intro rfl ?_) | ((with_reducible show _ = _); rfl))
    all_goals try ((with_reducible refine Obl.mk ?_); first | ((with_reducible show regOk _ _ = true); kernel_rfl) | rfl | exact trivial | ((repeat' (first | exact trivial | refine And.intro ?_ ?_)); done) | decide | ((repeat' (first | exact List.forall_mem_nil _ | refine List.forall_mem_cons.2 (And.intro rfl ?_))); done) | (refine And.intro ?_ ?_ <;> simp only [List.length_map, List.length_append, List.length_cons, List.length_nil] <;> omega))
    all_goals try (exfalso; simp only [decide_eq_false_iff_not, decide_eq_true_eq] at *; omega)
theorem s_slices_ContainsI (l : List Int) (s : Int) (hl : l.length ≤ 4194304) : Sim.Spec Try.prog 156 [tvL 1 (l.map intRow), tvI s] (rB (l.contains s)) := by
  refine spec_of_W hΓ hmix Try.func156 rfl (by decide) rfl ?_
  have hI := s_slices_IndexI l s hl
  rw [← idxOf_has]
  generalize idxOf l s = e at *
  repeat' ((conv => whnf); first | refine Or.inl ?_ | refine And.intro (Obl.out (?_ : Obl _)) ?_ | refine ifB_intro (fun h => ?_) (fun h => ?_) | refine call_intro (hI) (And.intro rfl (And.intro rfl trivial)) ?_ | refine Exists.intro _ (And.intro rfl ?_) | ((with_reducible show _ = _); rfl))
  all_goals try ((with_reducible refine Obl.mk ?_); first | ((with_reducible show regOk _ _ = true); kernel_rfl) | rfl | exact trivial | ((repeat' (first | exact trivial | refine And.intro ?_ ?_)); done) | decide | ((repeat' (first | exact List.forall_mem_nil _ | refine List.forall_mem_cons.2 (And.intro rfl ?_))); done) | (refine And.intro ?_ ?_ <;> simp only [List.length_map, List.length_append, List.length_cons, List.length_nil] <;> omega))
def argN (l : List (List UInt8)) : Nat → Nat → Bool
  | 0, _ => true
  | n + 1, k => match l[k]? with
    | some s => if nameOk s = true ∧ (l.take k).contains s = false then argN l n (k + 1) else false
    | none => true
theorem argN_step {l : List (List UInt8)} {k : Nat} {s : List UInt8} (hx : l[k]? = some s) : argN l (l.length - k) k = if nameOk s = true ∧ (l.take k).contains s = false then argN l (l.length - (k + 1)) (k + 1) else false := by
  have hk : k < l.length := by
    rcases Nat.lt_or_ge k l.length with h | h
    · exact h
    · rw [List.getElem?_eq_none h] at hx; cases hx
  rw [show l.length - k = (l.length - (k + 1)) + 1 by omega, argN, hx]
def areArgs (l : List (List UInt8)) : Bool := argN l l.length 0 && decide (l.length ≤ 4)
theorem s_impl_areArgs (l : List (List UInt8)) (hl : l.length ≤ 1048576) (hn : ∀ x ∈ l, x.length ≤ 1099511627775) : Sim.Spec Try.prog 209 [tvL 1 (l.map strRow)] (rB (areArgs l)) := by
  refine spec_of_W hΓ hmix Try.func209 rfl (by decide) rfl ?_
  have hlen : (l.map strRow).length = l.length := by simp
  obtain ⟨R, hR⟩ : ∃ R, areArgs l = R := ⟨_, rfl⟩
  rw [hR]
  repeat' ((conv => whnf); first | refine Or.inl ?_ | refine And.intro (Obl.out (?_ : Obl _)) ?_ | refine ifB_intro (fun h => ?_) (fun h => ?_) | refine Exists.intro _ (And.intro rfl ?_) | ((with_reducible show _ = _); rfl))
  all_goals try ((with_reducible refine Obl.mk ?_); first | ((with_reducible show regOk _ _ = true); kernel_rfl) | rfl | exact trivial | ((repeat' (first | exact trivial | refine And.intro ?_ ?_)); done) | decide | ((repeat' (first | exact List.forall_mem_nil _ | refine List.forall_mem_cons.2 (And.intro rfl ?_))); done) | (refine And.intro ?_ ?_ <;> simp only [List.length_map, List.length_append, List.length_cons, List.length_nil] <;> omega))
  conv => whnf
  refine ⟨{ k : Nat // k ≤ l.length ∧ (argN l (l.length - k) k && decide (l.length ≤ 4)) = R }, fun k => ⟨[(0, .r (.c (.t (.lst 1 (l.map strRow))))), (5, .r (.c (.t (.lst 1 (l.map strRow))))), (6, tI .i64 ((l.map strRow).length : Int)), (7, tI .i64 (k.1 : Int))], [], []⟩, fun k => l.length - k.1, ⟨0, by omega, by rw [Nat.sub_zero]; exact hR⟩, ?_, ?_⟩
  · skip
    repeat' ((conv => whnf); first | refine Or.inl ?_ | refine And.intro (Obl.out (?_ : Obl _)) ?_ | refine ifB_intro (fun h => ?_) (fun h => ?_) | refine Exists.intro _ (And.intro rfl ?_) | ((with_reducible show _ = _); rfl))
    all_goals try ((with_reducible refine Obl.mk ?_); first | ((with_reducible show regOk _ _ = true); kernel_rfl) | rfl | exact trivial | ((repeat' (first | exact trivial | refine And.intro ?_ ?_)); done) | decide | ((repeat' (first | exact List.forall_mem_nil _ | refine List.forall_mem_cons.2 (And.intro rfl ?_))); done) | (refine And.intro ?_ ?_ <;> simp only [List.length_map, List.length_append, List.length_cons, List.length_nil] <;> omega))
  intro ⟨k, hk, hr⟩
  dsimp only at hk hr ⊢
  by_cases hlt : k < l.length
  · obtain ⟨s, hs⟩ := get_of_lt hlt
    rw [argN_step hs] at hr
    have hN := s_impl_NameOk s (hn s (List.mem_of_getElem? hs))
    have hC := s_slices_ContainsS (l.take k) s (by simp; omega)
    cases hno : nameOk s with
    | false =>
      rw [hno] at hN hr
      rw [if_neg (by simp), Bool.false_and] at hr
      subst hr
      repeat' ((conv => whnf); first | refine Or.inl ?_ | refine And.intro (Obl.out (?_ : Obl _)) ?_ | refine ifB_intro (fun h => ?_) (fun h => ?_) | refine ⟨k, (strRow s), rfl, map_get hs, ?_⟩ | refine call_intro (hN) (And.intro rfl trivial) ?_ | refine Exists.intro _ (And.intro rfl ?_) | ((with_reducible show _ = _); rfl))
      all_goals try ((with_reducible refine Obl.mk ?_); first | ((with_reducible show regOk _ _ = true); kernel_rfl) | rfl | exact trivial | ((repeat' (first | exact trivial | refine And.intro ?_ ?_)); done) | decide | ((repeat' (first | exact List.forall_mem_nil _ | refine List.forall_mem_cons.2 (And.intro rfl ?_))); done) | (refine And.intro ?_ ?_ <;> simp only [List.length_map, List.length_append, List.length_cons, List.length_nil] <;> omega))
      all_goals try (exfalso; simp only [decide_eq_false_iff_not, decide_eq_true_eq] at *; omega)
      all_goals try (exfalso; (try simp_all [within]); (try omega); done)
    | true =>
      rw [hno] at hN hr
      cases hco : (l.take k).contains s with
      | true =>
        rw [hco] at hC hr
        rw [if_neg (by simp), Bool.false_and] at hr
        subst hr
        rw [List.map_take] at hC
        repeat' ((conv => whnf); first | refine Or.inl ?_ | refine And.intro (Obl.out (?_ : Obl _)) ?_ | refine ifB_intro (fun h => ?_) (fun h => ?_) | refine ⟨k, (strRow s), rfl, map_get hs, ?_⟩ | refine call_intro (hN) (And.intro rfl trivial) ?_ | refine Exists.intro _ (And.intro rfl ?_) | ((with_reducible show _ = _); rfl))
        all_goals try ((with_reducible refine Obl.mk ?_); first | ((with_reducible show regOk _ _ = true); kernel_rfl) | rfl | exact trivial | ((repeat' (first | exact trivial | refine And.intro ?_ ?_)); done) | decide | ((repeat' (first | exact List.forall_mem_nil _ | refine List.forall_mem_cons.2 (And.intro rfl ?_))); done) | (refine And.intro ?_ ?_ <;> simp only [List.length_map, List.length_append, List.length_cons, List.length_nil] <;> omega))
        all_goals try (exfalso; simp only [decide_eq_false_iff_not, decide_eq_true_eq] at *; omega)
        all_goals try (exfalso; (try simp_all [within]); (try omega); done)
        conv => whnf
        refine ⟨0, k, rfl, rfl, by omega, by omega, ?_⟩
        repeat' ((conv => whnf); first | refine Or.inl ?_ | refine And.intro (Obl.out (?_ : Obl _)) ?_ | refine ifB_intro (fun h => ?_) (fun h => ?_) | refine call_intro (hC) (And.intro rfl (And.intro rfl trivial)) ?_ | refine Exists.intro _ (And.intro rfl ?_) | ((with_reducible show _ = _); rfl))
        all_goals try ((with_reducible refine Obl.mk ?_); first | ((with_reducible show regOk _ _ = true); kernel_rfl) | rfl | exact trivial | ((repeat' (first | exact trivial | refine And.intro ?_ ?_)); done) | decide | ((repeat' (first | exact List.forall_mem_nil _ | refine List.forall_mem_cons.2 (And.intro rfl ?_))); done) | (refine And.intro ?_ ?_ <;> simp only [List.length_map, List.length_append, List.length_cons, List.length_nil] <;> omega))
      | false =>
        rw [hco] at hC hr
        rw [if_pos ⟨rfl, rfl⟩] at hr
        rw [List.map_take] at hC
        repeat' ((conv => whnf); first | refine Or.inl ?_ | refine And.intro (Obl.out (?_ : Obl _)) ?_ | refine ifB_intro (fun h => ?_) (fun h => ?_) | refine ⟨k, (strRow s), rfl, map_get hs, ?_⟩ | refine call_intro (hN) (And.intro rfl trivial) ?_ | refine Exists.intro _ (And.intro rfl ?_) | ((with_reducible show _ = _); rfl))
        all_goals try ((with_reducible refine Obl.mk ?_); first | ((with_reducible show regOk _ _ = true); kernel_rfl) | rfl | exact trivial | ((repeat' (first | exact trivial | refine And.intro ?_ ?_)); done) | decide | ((repeat' (first | exact List.forall_mem_nil _ | refine List.forall_mem_cons.2 (And.intro rfl ?_))); done) | (refine And.intro ?_ ?_ <;> simp only [List.length_map, List.length_append, List.length_cons, List.length_nil] <;> omega))
        all_goals try (exfalso; simp only [decide_eq_false_iff_not, decide_eq_true_eq] at *; omega)
        all_goals try (exfalso; (try simp_all [within]); (try omega); done)
        conv => whnf
        refine ⟨0, k, rfl, rfl, by omega, by omega, ?_⟩
        repeat' ((conv => whnf); first | refine Or.inl ?_ | refine And.intro (Obl.out (?_ : Obl _)) ?_ | refine ifB_intro (fun h => ?_) (fun h => ?_) | refine call_intro (hC) (And.intro rfl (And.intro rfl trivial)) ?_ | refine Exists.intro _ (And.intro rfl ?_) | ((with_reducible show _ = _); rfl))
        all_goals try ((with_reducible refine Obl.mk ?_); first | ((with_reducible show regOk _ _ = true); kernel_rfl) | rfl | exact trivial | ((repeat' (first | exact trivial | refine And.intro ?_ ?_)); done) | decide | ((repeat' (first | exact List.forall_mem_nil _ | refine List.forall_mem_cons.2 (And.intro rfl ?_))); done) | (refine And.intro ?_ ?_ <;> simp only [List.length_map, List.length_append, List.length_cons, List.length_nil] <;> omega))
        all_goals try (exfalso; simp only [decide_eq_false_iff_not, decide_eq_true_eq] at *; omega)
        all_goals try (exfalso; (try simp_all [within]); (try omega); done)
        conv => whnf
        refine ⟨⟨k + 1, by omega, hr⟩, ?_, by dsimp only; omega⟩
        repeat' ((conv => whnf); first | refine Or.inl ?_ | refine And.intro (Obl.out (?_ : Obl _)) ?_ | refine ifB_intro (fun h => ?_) (fun h => ?_) | refine Exists.intro _ (And.intro rfl ?_) | ((with_reducible show _ = _); rfl))
        all_goals try ((with_reducible refine Obl.mk ?_); first | ((with_reducible show regOk _ _ = true); kernel_rfl) | rfl | exact trivial | ((repeat' (first | exact trivial | refine And.intro ?_ ?_)); done) | decide | ((repeat' (first | exact List.forall_mem_nil _ | refine List.forall_mem_cons.2 (And.intro rfl ?_))); done) | (refine And.intro ?_ ?_ <;> simp only [List.length_map, List.length_append, List.length_cons, List.length_nil] <;> omega))
        all_goals try exact ⟨by dsimp only; rw [IntWalk.i64_in _ (by omega)]; rfl⟩
  · rw [show l.length - k = 0 by omega, argN, Bool.true_and] at hr
    subst hr
    repeat' ((conv => whnf); first | refine Or.inl ?_ | refine And.intro (Obl.out (?_ : Obl _)) ?_ | refine ifB_intro (fun h => ?_) (fun h => ?_) | refine Exists.intro _ (And.intro rfl ?_) | ((with_reducible show _ = _); rfl))
    all_goals try ((with_reducible refine Obl.mk ?_); first | ((with_reducible show regOk _ _ = true); kernel_rfl) | rfl | exact trivial | ((repeat' (first | exact trivial | refine And.intro ?_ ?_)); done) | decide | ((repeat' (first | exact List.forall_mem_nil _ | refine List.forall_mem_cons.2 (And.intro rfl ?_))); done) | (refine And.intro ?_ ?_ <;> simp only [List.length_map, List.length_append, List.length_cons, List.length_nil] <;> omega))
    all_goals try (exfalso; simp only [decide_eq_false_iff_not, decide_eq_true_eq] at *; omega)
    all_goals exact ⟨congrArg Tr.bool (decide_eq_decide.2 (by rw [hlen]; omega))⟩
def hasExpr (k : Int) : Bool := k == 1 || (k == 2 || (k == 3 || (k == 5 || k == 6)))
theorem s_impl_hasExpr (k : Int) : Sim.Spec Try.prog 157 [tvI k] (rB (hasExpr k)) := by
  refine spec_of_W hΓ hmix Try.func157 rfl (by decide) rfl ?_
  unfold hasExpr
  repeat' ((conv => whnf); first | refine Or.inl ?_ | refine And.intro (Obl.out (?_ : Obl _)) ?_ | refine ifB_intro (fun h => ?_) (fun h => ?_) | refine Exists.intro _ (And.intro rfl ?_) | ((with_reducible show _ = _); rfl))
  all_goals try ((with_reducible refine Obl.mk ?_); first | ((with_reducible show regOk _ _ = true); kernel_rfl) | rfl | exact trivial | ((repeat' (first | exact trivial | refine And.intro ?_ ?_)); done) | decide | ((repeat' (first | exact List.forall_mem_nil _ | refine List.forall_mem_cons.2 (And.intro rfl ?_))); done) | (refine And.intro ?_ ?_ <;> simp only [List.length_map, List.length_append, List.length_cons, List.length_nil] <;> omega))
  all_goals (refine ⟨congrArg Tr.bool ?_⟩; simp_all; (try (rw [Bool.eq_iff_iff]; simp; omega)))
theorem s_spec_l03HasExpr (k : Int) (hk : within k 0 7 = true) : Sim.Spec Try.prog 182 [tvI k] (rB (hasExpr k)) := by
  refine spec_of_W hΓ hmix Try.func182 rfl (by decide) rfl ?_
  have := within_iff.1 hk
  unfold hasExpr
  repeat' ((conv => whnf); first | refine Or.inl ?_ | refine And.intro (Obl.out (?_ : Obl _)) ?_ | refine ifB_intro (fun h => ?_) (fun h => ?_) | refine Exists.intro _ (And.intro rfl ?_) | ((with_reducible show _ = _); rfl))
  all_goals try ((with_reducible refine Obl.mk ?_); first | ((with_reducible show regOk _ _ = true); kernel_rfl) | rfl | exact trivial | ((repeat' (first | exact trivial | refine And.intro ?_ ?_)); done) | decide | ((repeat' (first | exact List.forall_mem_nil _ | refine List.forall_mem_cons.2 (And.intro rfl ?_))); done) | (refine And.intro ?_ ?_ <;> simp only [List.length_map, List.length_append, List.length_cons, List.length_nil] <;> omega))
  all_goals (refine ⟨congrArg Tr.bool ?_⟩; simp_all; (try (rw [Bool.eq_iff_iff]; simp; done)); (try (rw [Bool.eq_iff_iff]; simp; omega)))
def lineOk (x : TLine) : Bool := within x.fKind 0 7 && ((if x.fKind = 0 ∨ x.fKind = 1 then nameOk x.fName else x.fName == []) && ((if x.fKind = 0 then areArgs x.fArgs else x.fArgs.length == 0) && (if hasExpr x.fKind = true then exprOk x.fExpr else x.fExpr.length == 0)))
theorem line_small {x : TLine} (hs : smallR 1048576 x.tr) : x.fName.length ≤ 1048576 ∧ x.fArgs.length ≤ 1048576 ∧ (∀ y ∈ x.fArgs, y.length ≤ 1048576) ∧ x.fExpr.length ≤ 1048576 ∧ (∀ y ∈ x.fExpr, y.fName.length ≤ 1048576) := by
  simp only [TLine.tr, smallR] at hs
  obtain ⟨_, h1, h2, h3, _⟩ := hs
  have e1 := small_len h2
  have e2 := small_len h3
  refine ⟨by rw [smallT] at h1; omega, by omega, fun y hy => ?_, by omega, fun y hy => ?_⟩
  · have := smallRs_map h2 hy
    simp only [strRow, smallR, smallT] at this
    omega
  · have := smallRs_map h3 hy
    simp only [TTok.tr, smallR, smallT] at this
    omega
theorem lineOk_kind {x : TLine} (h : within x.fKind 0 7 = false) : lineOk x = false := by
  unfold lineOk; rw [h]; rfl
theorem lineOk_args {x : TLine} (h : 4 < x.fArgs.length) : lineOk x = false := by
  have h1 : areArgs x.fArgs = false := by unfold areArgs; rw [decide_eq_false (by omega), Bool.and_false]
  have h2 : (x.fArgs.length == 0) = false := by rw [beq_eq_false_iff_ne]; omega
  unfold lineOk
  rw [h1, h2]
  split <;> simp
theorem s_impl_LineOk (x : TLine) (hs : smallR 1048576 x.tr) : Sim.Spec Try.prog 151 [.agg x.tr] (rB (lineOk x)) := by
  refine spec_of_W hΓ hmix Try.func151 rfl (by decide) rfl ?_
  obtain ⟨h1, h2, h3, h4, h5⟩ := line_small hs
  have hB := s_impl_between x.fKind 0 7
  have hN := s_impl_NameOk x.fName (by omega)
  have hA := s_impl_areArgs x.fArgs h2 (fun y hy => by have := h3 y hy; omega)
  have hH := s_impl_hasExpr x.fKind
  have hE := s_impl_ExprOk x.fExpr h4 (fun y hy => by have := h5 y hy; omega)
  unfold lineOk
  generalize within x.fKind 0 7 = b1 at *
  generalize nameOk x.fName = b2 at *
  generalize areArgs x.fArgs = b3 at *
  generalize hasExpr x.fKind = b4 at *
  generalize exprOk x.fExpr = b5 at *
  have hl1 : (x.fArgs.map strRow).length = x.fArgs.length := by simp
  have hl2 : (x.fExpr.map TTok.tr).length = x.fExpr.length := by simp
  repeat' ((conv => whnf); first | refine Or.inl ?_ | refine And.intro (Obl.out (?_ : Obl _)) ?_ | refine ifB_intro (fun h => ?_) (fun h => ?_) | refine call_intro (hB) (And.intro rfl (And.intro rfl (And.intro rfl trivial))) ?_ | refine call_intro (hN) (And.intro rfl trivial) ?_ | refine call_intro (hA) (And.intro rfl trivial) ?_ | refine call_intro (hH) (And.intro rfl trivial) ?_ | refine call_intro (hE) (And.intro rfl trivial) ?_ | refine Exists.intro _ (And.intro rfl ?_) | ((with_reducible show _ = _); rfl))
  all_goals try ((with_reducible refine Obl.mk ?_); first | ((with_reducible show regOk _ _ = true); kernel_rfl) | rfl | exact trivial | ((repeat' (first | exact trivial | refine And.intro ?_ ?_)); done) | decide | ((repeat' (first | exact List.forall_mem_nil _ | refine List.forall_mem_cons.2 (And.intro rfl ?_))); done) | (refine And.intro ?_ ?_ <;> simp only [List.length_map, List.length_append, List.length_cons, List.length_nil] <;> omega))
  all_goals (refine ⟨congrArg Tr.bool ?_⟩; simp_all; (try (rw [Bool.eq_iff_iff]; simp; done)); (try (rw [Bool.eq_iff_iff]; simp; omega)); (try (intro hh; exfalso; simp_all; done)))
theorem drop_has {l : List (List UInt8)} {k i : Nat} {y s : List UInt8} (hi : i < k) (hy : l[i]? = some y) : ((l.take k).drop i).contains s = (s == y || ((l.take k).drop (i + 1)).contains s) := by
  rw [drop_at (x := y) (by rw [List.getElem?_take, if_pos hi]; exact hy), List.contains_cons]
theorem lineOk_0 {x : TLine} (hk : within x.fKind 0 7 = true) (h0 : x.fKind = 0) (ha : x.fArgs.length ≤ 4) : lineOk x = (argN x.fArgs x.fArgs.length 0 && (nameOk x.fName && x.fExpr.length == 0)) := by
  unfold lineOk areArgs
  rw [hk, if_pos (.inl h0), if_pos h0, if_neg (by rw [h0]; decide), decide_eq_true ha]
  cases nameOk x.fName <;> cases argN x.fArgs x.fArgs.length 0 <;> simp
theorem lineOk_1 {x : TLine} (hk : within x.fKind 0 7 = true) (h0 : x.fKind ≠ 0) : lineOk x = (x.fArgs.length == 0 && ((if x.fKind = 1 then nameOk x.fName else x.fName == []) && (if hasExpr x.fKind = true then exprOk x.fExpr else x.fExpr.length == 0))) := by
  have e : (if x.fKind = 0 ∨ x.fKind = 1 then nameOk x.fName else x.fName == []) = (if x.fKind = 1 then nameOk x.fName else x.fName == []) := by
    by_cases h1 : x.fKind = 1
    · rw [if_pos (.inr h1), if_pos h1]
    · rw [if_neg (by omega), if_neg h1]
  unfold lineOk
  rw [hk, if_neg h0, e, Bool.true_and]
  generalize (if x.fKind = 1 then nameOk x.fName else x.fName == []) = a
  generalize (if hasExpr x.fKind = true then exprOk x.fExpr else x.fExpr.length == 0) = b
  cases a <;> cases (x.fArgs.length == 0) <;> simp
theorem natBeq0 (n : Nat) : ((n : Int) == 0) = (n == 0) := by rw [Bool.eq_iff_iff]; simp
abbrev lBox (x : TLine) : AO := .box (x.tr.map .t)
theorem s_spec_LineOk (x : TLine) (hs : smallR 1048576 x.tr) : Sim.Spec Try.prog 121 [.agg x.tr] (rB (lineOk x)) := by
  refine spec_of_W hΓ hmix Try.func121 rfl (by decide) rfl ?_
  obtain ⟨h1, h2, h3, h4, h5⟩ := line_small hs
  have hB := s_spec_l01In x.fKind 0 7
  have hN := s_spec_NameOk x.fName (by omega)
  have hE := s_spec_ExprOk x.fExpr h4 (fun y hy => by have := h5 y hy; omega)
  have hl1 : (x.fArgs.map strRow).length = x.fArgs.length := by simp
  have hl2 : (x.fExpr.map TTok.tr).length = x.fExpr.length := by simp
  cases hk : within x.fKind 0 7 with
  | false =>
    rw [hk] at hB
    rw [lineOk_kind hk]
    repeat' ((conv => whnf); first | refine Or.inl ?_ | refine And.intro (Obl.out (?_ : Obl _)) ?_ | refine ifB_intro (fun h => ?_) (fun h => ?_) | refine call_intro (hB) (And.intro rfl (And.intro rfl (And.intro rfl trivial))) ?_ | refine Exists.intro _ (And.intro rfl ?_) | ((with_reducible show _ = _); rfl))
    all_goals try ((with_reducible refine Obl.mk ?_); first | ((with_reducible show regOk _ _ = true); kernel_rfl) | rfl | exact trivial | ((repeat' (first | exact trivial | refine And.intro ?_ ?_)); done) | decide | ((repeat' (first | exact List.forall_mem_nil _ | refine List.forall_mem_cons.2 (And.intro rfl ?_))); done) | (refine And.intro ?_ ?_ <;> simp only [List.length_map, List.length_append, List.length_cons, List.length_nil] <;> omega))
    all_goals try (exfalso; simp only [decide_eq_false_iff_not, decide_eq_true_eq] at *; omega)
  | true =>
    rw [hk] at hB
    have hH := s_spec_l03HasExpr x.fKind hk
    by_cases ha : x.fArgs.length ≤ 4
    · by_cases h0 : x.fKind = 0
      · rw [lineOk_0 hk h0 ha]
        generalize nameOk x.fName = b2 at *
        generalize exprOk x.fExpr = b5 at *
        obtain ⟨A, hA⟩ : ∃ A, argN x.fArgs x.fArgs.length 0 = A := ⟨_, rfl⟩
        rw [hA]
        have hh0 : hasExpr x.fKind = false := by rw [h0]; rfl
        rw [hh0] at hH
        repeat' ((conv => whnf); first | refine Or.inl ?_ | refine And.intro (Obl.out (?_ : Obl _)) ?_ | refine ifB_intro (fun h => ?_) (fun h => ?_) | refine call_intro (hB) (And.intro rfl (And.intro rfl (And.intro rfl trivial))) ?_ | refine Exists.intro _ (And.intro rfl ?_) | ((with_reducible show _ = _); rfl))
        all_goals try ((with_reducible refine Obl.mk ?_); first | ((with_reducible show regOk _ _ = true); kernel_rfl) | rfl | exact trivial | ((repeat' (first | exact trivial | refine And.intro ?_ ?_)); done) | decide | ((repeat' (first | exact List.forall_mem_nil _ | refine List.forall_mem_cons.2 (And.intro rfl ?_))); done) | (refine And.intro ?_ ?_ <;> simp only [List.length_map, List.length_append, List.length_cons, List.length_nil] <;> omega))
        all_goals try (exfalso; simp only [decide_eq_false_iff_not, decide_eq_true_eq] at *; omega)
        conv => whnf
        refine ⟨{ k : Nat // k ≤ x.fArgs.length ∧ argN x.fArgs (x.fArgs.length - k) k = A }, fun q => ⟨[(1, .r (.c (.ptr (1, 0, 0) 0))), (3, tI .i64 (q.1 : Int))], [((1, 0, 0), some (lBox x))], [1]⟩, fun q => x.fArgs.length - q.1, ⟨0, by omega, by rw [Nat.sub_zero]; exact hA⟩, ?_, ?_⟩
        · skip
          repeat' ((conv => whnf); first | refine Or.inl ?_ | refine And.intro (Obl.out (?_ : Obl _)) ?_ | refine ifB_intro (fun h => ?_) (fun h => ?_) | refine Exists.intro _ (And.intro rfl ?_) | ((with_reducible show _ = _); rfl))
          all_goals try ((with_reducible refine Obl.mk ?_); first | ((with_reducible show regOk _ _ = true); kernel_rfl) | rfl | exact trivial | ((repeat' (first | exact trivial | refine And.intro ?_ ?_)); done) | decide | ((repeat' (first | exact List.forall_mem_nil _ | refine List.forall_mem_cons.2 (And.intro rfl ?_))); done) | (refine And.intro ?_ ?_ <;> simp only [List.length_map, List.length_append, List.length_cons, List.length_nil] <;> omega))
        intro ⟨k, hkl, hr⟩
        dsimp only at hkl hr ⊢
        by_cases hlt : k < x.fArgs.length
        · obtain ⟨s, hsk⟩ := get_of_lt hlt
          rw [argN_step hsk] at hr
          have hN2 := s_spec_NameOk s (by have := h3 s (List.mem_of_getElem? hsk); omega)
          cases hno : nameOk s with
          | false =>
            rw [hno] at hN2 hr
            rw [if_neg (by simp)] at hr
            subst hr
            repeat' ((conv => whnf); first | refine Or.inl ?_ | refine And.intro (Obl.out (?_ : Obl _)) ?_ | refine ifB_intro (fun h => ?_) (fun h => ?_) | refine call_intro (hN2) (And.intro rfl trivial) ?_ | refine ⟨k, (strRow s), rfl, map_get hsk, ?_⟩ | refine Exists.intro _ (And.intro rfl ?_) | ((with_reducible show _ = _); rfl))
            all_goals try ((with_reducible refine Obl.mk ?_); first | ((with_reducible show regOk _ _ = true); kernel_rfl) | rfl | exact trivial | ((repeat' (first | exact trivial | refine And.intro ?_ ?_)); done) | decide | ((repeat' (first | exact List.forall_mem_nil _ | refine List.forall_mem_cons.2 (And.intro rfl ?_))); done) | (refine And.intro ?_ ?_ <;> simp only [List.length_map, List.length_append, List.length_cons, List.length_nil] <;> omega))
            all_goals try (exfalso; simp only [decide_eq_false_iff_not, decide_eq_true_eq] at *; omega)
          | true =>
            rw [hno] at hN2 hr
            obtain ⟨C, hC⟩ : ∃ C, (x.fArgs.take k).contains s = C := ⟨_, rfl⟩
            rw [hC] at hr
            repeat' ((conv => whnf); first | refine Or.inl ?_ | refine And.intro (Obl.out (?_ : Obl _)) ?_ | refine ifB_intro (fun h => ?_) (fun h => ?_) | refine call_intro (hN2) (And.intro rfl trivial) ?_ | refine ⟨k, (strRow s), rfl, map_get hsk, ?_⟩ | refine Exists.intro _ (And.intro rfl ?_) | ((with_reducible show _ = _); rfl))
            all_goals try ((with_reducible refine Obl.mk ?_); first | ((with_reducible show regOk _ _ = true); kernel_rfl) | rfl | exact trivial | ((repeat' (first | exact trivial | refine And.intro ?_ ?_)); done) | decide | ((repeat' (first | exact List.forall_mem_nil _ | refine List.forall_mem_cons.2 (And.intro rfl ?_))); done) | (refine And.intro ?_ ?_ <;> simp only [List.length_map, List.length_append, List.length_cons, List.length_nil] <;> omega))
            all_goals try (exfalso; simp only [decide_eq_false_iff_not, decide_eq_true_eq] at *; omega)
            all_goals try (exfalso; (try simp_all [within]); (try omega); done)
            conv => whnf
            refine ⟨{ i : Nat // i ≤ k ∧ ((x.fArgs.take k).drop i).contains s = C }, fun q => ⟨[(1, .r (.c (.ptr (1, 0, 0) 0))), (3, tI .i64 (k : Int)), (4, tI .i64 (q.1 : Int))], [((1, 0, 0), some (lBox x))], [1]⟩, fun q => k - q.1, ⟨0, by omega, hC⟩, ?_, ?_⟩
            · skip
              repeat' ((conv => whnf); first | refine Or.inl ?_ | refine And.intro (Obl.out (?_ : Obl _)) ?_ | refine ifB_intro (fun h => ?_) (fun h => ?_) | refine Exists.intro _ (And.intro rfl ?_) | ((with_reducible show _ = _); rfl))
              all_goals try ((with_reducible refine Obl.mk ?_); first | ((with_reducible show regOk _ _ = true); kernel_rfl) | rfl | exact trivial | ((repeat' (first | exact trivial | refine And.intro ?_ ?_)); done) | decide | ((repeat' (first | exact List.forall_mem_nil _ | refine List.forall_mem_cons.2 (And.intro rfl ?_))); done) | (refine And.intro ?_ ?_ <;> simp only [List.length_map, List.length_append, List.length_cons, List.length_nil] <;> omega))
            intro ⟨i, hik, hc⟩
            dsimp only at hik hc ⊢
            by_cases hil : i < k
            · obtain ⟨y, hy⟩ := get_of_lt (l := x.fArgs) (k := i) (by omega)
              rw [drop_has hil hy] at hc
              by_cases hys : s = y
              · subst hys
                rw [beq_self_eq_true, Bool.true_or] at hc
                subst hc
                rw [if_neg (by simp)] at hr
                subst hr
                repeat' ((conv => whnf); first | refine Or.inl ?_ | refine And.intro (Obl.out (?_ : Obl _)) ?_ | refine ifB_intro (fun h => ?_) (fun h => ?_) | refine ⟨i, (strRow s), rfl, map_get hy, ?_⟩ | refine ⟨k, (strRow s), rfl, map_get hsk, ?_⟩ | refine Exists.intro _ (And.intro rfl ?_) | ((with_reducible show _ = _); rfl))
                all_goals try ((with_reducible refine Obl.mk ?_); first | ((with_reducible show regOk _ _ = true); kernel_rfl) | rfl | exact trivial | ((repeat' (first | exact trivial | refine And.intro ?_ ?_)); done) | decide | ((repeat' (first | exact List.forall_mem_nil _ | refine List.forall_mem_cons.2 (And.intro rfl ?_))); done) | (refine And.intro ?_ ?_ <;> simp only [List.length_map, List.length_append, List.length_cons, List.length_nil] <;> omega))
                all_goals try (exfalso; simp only [decide_eq_false_iff_not, decide_eq_true_eq] at *; omega)
                all_goals try (exfalso; (try simp_all [within]); (try omega); done)
              · rw [beq_eq_false_iff_ne.2 hys, Bool.false_or] at hc
                repeat' ((conv => whnf); first | refine Or.inl ?_ | refine And.intro (Obl.out (?_ : Obl _)) ?_ | refine ifB_intro (fun h => ?_) (fun h => ?_) | refine ⟨i, (strRow y), rfl, map_get hy, ?_⟩ | refine ⟨k, (strRow s), rfl, map_get hsk, ?_⟩ | refine Exists.intro _ (And.intro rfl ?_) | ((with_reducible show _ = _); rfl))
                all_goals try ((with_reducible refine Obl.mk ?_); first | ((with_reducible show regOk _ _ = true); kernel_rfl) | rfl | exact trivial | ((repeat' (first | exact trivial | refine And.intro ?_ ?_)); done) | decide | ((repeat' (first | exact List.forall_mem_nil _ | refine List.forall_mem_cons.2 (And.intro rfl ?_))); done) | (refine And.intro ?_ ?_ <;> simp only [List.length_map, List.length_append, List.length_cons, List.length_nil] <;> omega))
                all_goals try (exfalso; simp only [decide_eq_false_iff_not, decide_eq_true_eq] at *; omega)
                all_goals try (exfalso; apply hys; simp_all; done)
                conv => whnf
                refine ⟨⟨i + 1, by omega, hc⟩, ?_, by dsimp only; omega⟩
                repeat' ((conv => whnf); first | refine Or.inl ?_ | refine And.intro (Obl.out (?_ : Obl _)) ?_ | refine ifB_intro (fun h => ?_) (fun h => ?_) | refine Exists.intro _ (And.intro rfl ?_) | ((with_reducible show _ = _); rfl))
                all_goals try ((with_reducible refine Obl.mk ?_); first | ((with_reducible show regOk _ _ = true); kernel_rfl) | rfl | exact trivial | ((repeat' (first | exact trivial | refine And.intro ?_ ?_)); done) | decide | ((repeat' (first | exact List.forall_mem_nil _ | refine List.forall_mem_cons.2 (And.intro rfl ?_))); done) | (refine And.intro ?_ ?_ <;> simp only [List.length_map, List.length_append, List.length_cons, List.length_nil] <;> omega))
                all_goals try exact ⟨by dsimp only; rw [IntWalk.i64_in _ (by omega)]; rfl⟩
            · rw [List.drop_eq_nil_of_le (by simp; omega)] at hc
              have hc : false = C := hc
              subst hc
              rw [if_pos ⟨rfl, rfl⟩] at hr
              repeat' ((conv => whnf); first | refine Or.inl ?_ | refine And.intro (Obl.out (?_ : Obl _)) ?_ | refine ifB_intro (fun h => ?_) (fun h => ?_) | refine Exists.intro _ (And.intro rfl ?_) | ((with_reducible show _ = _); rfl))
              all_goals try ((with_reducible refine Obl.mk ?_); first | ((with_reducible show regOk _ _ = true); kernel_rfl) | rfl | exact trivial | ((repeat' (first | exact trivial | refine And.intro ?_ ?_)); done) | decide | ((repeat' (first | exact List.forall_mem_nil _ | refine List.forall_mem_cons.2 (And.intro rfl ?_))); done) | (refine And.intro ?_ ?_ <;> simp only [List.length_map, List.length_append, List.length_cons, List.length_nil] <;> omega))
              all_goals try (exfalso; simp only [decide_eq_false_iff_not, decide_eq_true_eq] at *; omega)
              conv => whnf
              refine ⟨⟨k + 1, by omega, hr⟩, ?_, by dsimp only; omega⟩
              repeat' ((conv => whnf); first | refine Or.inl ?_ | refine And.intro (Obl.out (?_ : Obl _)) ?_ | refine ifB_intro (fun h => ?_) (fun h => ?_) | refine Exists.intro _ (And.intro rfl ?_) | ((with_reducible show _ = _); rfl))
              all_goals try ((with_reducible refine Obl.mk ?_); first | ((with_reducible show regOk _ _ = true); kernel_rfl) | rfl | exact trivial | ((repeat' (first | exact trivial | refine And.intro ?_ ?_)); done) | decide | ((repeat' (first | exact List.forall_mem_nil _ | refine List.forall_mem_cons.2 (And.intro rfl ?_))); done) | (refine And.intro ?_ ?_ <;> simp only [List.length_map, List.length_append, List.length_cons, List.length_nil] <;> omega))
              all_goals try exact ⟨by dsimp only; rw [IntWalk.i64_in _ (by omega)]; rfl⟩
        · rw [show x.fArgs.length - k = 0 by omega] at hr
          have hr : true = A := hr
          subst hr
          repeat' ((conv => whnf); first | refine Or.inl ?_ | refine And.intro (Obl.out (?_ : Obl _)) ?_ | refine ifB_intro (fun h => ?_) (fun h => ?_) | refine call_intro (hN) (And.intro rfl trivial) ?_ | refine call_intro (hH) (And.intro rfl trivial) ?_ | refine call_intro (hE) (And.intro rfl trivial) ?_ | refine Exists.intro _ (And.intro rfl ?_) | ((with_reducible show _ = _); rfl))
          all_goals try ((with_reducible refine Obl.mk ?_); first | ((with_reducible show regOk _ _ = true); kernel_rfl) | rfl | exact trivial | ((repeat' (first | exact trivial | refine And.intro ?_ ?_)); done) | decide | ((repeat' (first | exact List.forall_mem_nil _ | refine List.forall_mem_cons.2 (And.intro rfl ?_))); done) | (refine And.intro ?_ ?_ <;> simp only [List.length_map, List.length_append, List.length_cons, List.length_nil] <;> omega))
          all_goals try (exfalso; simp only [decide_eq_false_iff_not, decide_eq_true_eq] at *; omega)
          all_goals try (exfalso; (try simp_all [within]); (try omega); done)
          all_goals (refine ⟨congrArg Tr.bool ?_⟩; simp_all; (try exact natBeq0 _))
      · rw [lineOk_1 hk h0]
        generalize nameOk x.fName = b2 at *
        generalize exprOk x.fExpr = b5 at *
        generalize hasExpr x.fKind = b4 at *
        repeat' ((conv => whnf); first | refine Or.inl ?_ | refine And.intro (Obl.out (?_ : Obl _)) ?_ | refine ifB_intro (fun h => ?_) (fun h => ?_) | refine call_intro (hB) (And.intro rfl (And.intro rfl (And.intro rfl trivial))) ?_ | refine Exists.intro _ (And.intro rfl ?_) | ((with_reducible show _ = _); rfl))
        all_goals try ((with_reducible refine Obl.mk ?_); first | ((with_reducible show regOk _ _ = true); kernel_rfl) | rfl | exact trivial | ((repeat' (first | exact trivial | refine And.intro ?_ ?_)); done) | decide | ((repeat' (first | exact List.forall_mem_nil _ | refine List.forall_mem_cons.2 (And.intro rfl ?_))); done) | (refine And.intro ?_ ?_ <;> simp only [List.length_map, List.length_append, List.length_cons, List.length_nil] <;> omega))
        all_goals try (exfalso; simp only [decide_eq_false_iff_not, decide_eq_true_eq] at *; omega)
        conv => whnf
        refine ⟨Unit, fun q => ⟨[(1, .r (.c (.ptr (1, 0, 0) 0))), (3, tI .i64 0)], [((1, 0, 0), some (lBox x))], [1]⟩, fun q => 0, (), ?_, ?_⟩
        · skip
          repeat' ((conv => whnf); first | refine Or.inl ?_ | refine And.intro (Obl.out (?_ : Obl _)) ?_ | refine ifB_intro (fun h => ?_) (fun h => ?_) | refine Exists.intro _ (And.intro rfl ?_) | ((with_reducible show _ = _); rfl))
          all_goals try ((with_reducible refine Obl.mk ?_); first | ((with_reducible show regOk _ _ = true); kernel_rfl) | rfl | exact trivial | ((repeat' (first | exact trivial | refine And.intro ?_ ?_)); done) | decide | ((repeat' (first | exact List.forall_mem_nil _ | refine List.forall_mem_cons.2 (And.intro rfl ?_))); done) | (refine And.intro ?_ ?_ <;> simp only [List.length_map, List.length_append, List.length_cons, List.length_nil] <;> omega))
        intro q
        dsimp only
        by_cases hlt : 0 < x.fArgs.length
        · obtain ⟨s, hsk⟩ := get_of_lt hlt
          have hN2 := s_spec_NameOk s (by have := h3 s (List.mem_of_getElem? hsk); omega)
          rw [show (x.fArgs.length == 0) = false by rw [beq_eq_false_iff_ne]; omega]
          repeat' ((conv => whnf); first | refine Or.inl ?_ | refine And.intro (Obl.out (?_ : Obl _)) ?_ | refine ifB_intro (fun h => ?_) (fun h => ?_) | refine call_intro (hN2) (And.intro rfl trivial) ?_ | refine ⟨0, (strRow s), rfl, map_get hsk, ?_⟩ | refine Exists.intro _ (And.intro rfl ?_) | ((with_reducible show _ = _); rfl))
          all_goals try ((with_reducible refine Obl.mk ?_); first | ((with_reducible show regOk _ _ = true); kernel_rfl) | rfl | exact trivial | ((repeat' (first | exact trivial | refine And.intro ?_ ?_)); done) | decide | ((repeat' (first | exact List.forall_mem_nil _ | refine List.forall_mem_cons.2 (And.intro rfl ?_))); done) | (refine And.intro ?_ ?_ <;> simp only [List.length_map, List.length_append, List.length_cons, List.length_nil] <;> omega))
          all_goals try (exfalso; simp only [decide_eq_false_iff_not, decide_eq_true_eq] at *; omega)
          all_goals try (exfalso; (try simp_all [within]); (try omega); done)
          all_goals try (exfalso; simp_all; done)
        · have hz : x.fArgs.length = 0 := by omega
          rw [show (x.fArgs.length == 0) = true by rw [hz]; rfl]
          rw [hz] at hl1
          repeat' ((conv => whnf); first | refine Or.inl ?_ | refine And.intro (Obl.out (?_ : Obl _)) ?_ | refine ifB_intro (fun h => ?_) (fun h => ?_) | refine call_intro (hN) (And.intro rfl trivial) ?_ | refine call_intro (hH) (And.intro rfl trivial) ?_ | refine call_intro (hE) (And.intro rfl trivial) ?_ | refine Exists.intro _ (And.intro rfl ?_) | ((with_reducible show _ = _); rfl))
          all_goals try ((with_reducible refine Obl.mk ?_); first | ((with_reducible show regOk _ _ = true); kernel_rfl) | rfl | exact trivial | ((repeat' (first | exact trivial | refine And.intro ?_ ?_)); done) | decide | ((repeat' (first | exact List.forall_mem_nil _ | refine List.forall_mem_cons.2 (And.intro rfl ?_))); done) | (refine And.intro ?_ ?_ <;> simp only [List.length_map, List.length_append, List.length_cons, List.length_nil] <;> omega))
          all_goals try (exfalso; simp_all; done)
          all_goals (refine ⟨congrArg Tr.bool ?_⟩; simp_all; (try exact natBeq0 _); (try (rw [Bool.eq_iff_iff]; simp; omega)))
    · rw [lineOk_args (by omega)]
      repeat' ((conv => whnf); first | refine Or.inl ?_ | refine And.intro (Obl.out (?_ : Obl _)) ?_ | refine ifB_intro (fun h => ?_) (fun h => ?_) | refine call_intro (hB) (And.intro rfl (And.intro rfl (And.intro rfl trivial))) ?_ | refine Exists.intro _ (And.intro rfl ?_) | ((with_reducible show _ = _); rfl))
      all_goals try ((with_reducible refine Obl.mk ?_); first | ((with_reducible show regOk _ _ = true); kernel_rfl) | rfl | exact trivial | ((repeat' (first | exact trivial | refine And.intro ?_ ?_)); done) | decide | ((repeat' (first | exact List.forall_mem_nil _ | refine List.forall_mem_cons.2 (And.intro rfl ?_))); done) | (refine And.intro ?_ ?_ <;> simp only [List.length_map, List.length_append, List.length_cons, List.length_nil] <;> omega))
      all_goals try (exfalso; simp only [decide_eq_false_iff_not, decide_eq_true_eq] at *; omega)
end Go.Proofs.Ytehniaekfijmiaa
