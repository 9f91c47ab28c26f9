/- OpSize, RulesOf in both texts. -/
import Derived.Test.YtehniaekfijmiaaFnsQ
namespace Go.Proofs.Ytehniaekfijmiaa
open Go.Sim
set_option maxRecDepth 100000
set_option maxHeartbeats 4000000
def opArg (c : Int) : Int × Bool :=
  if c = 0 then (4, true) else if c = 1 ∨ c = 2 ∨ c = 3 ∨ c = 4 ∨ c = 10 ∨ c = 11 then (2, true)
  else if c = 16 then (2, false) else if c = 12 ∨ c = 13 ∨ c = 14 ∨ c = 15 then (1, false) else (0, false)
def opSize (c : Int) : Int := if within c 0 17 then (opArg c).1 + 1 else 0
theorem opArg_le (c : Int) : 0 ≤ (opArg c).1 ∧ (opArg c).1 ≤ 4 := by
  unfold opArg
  repeat' split
  all_goals simp
theorem opSize_le (c : Int) : 0 ≤ opSize c ∧ opSize c ≤ 5 := by
  have := opArg_le c
  unfold opSize
  split <;> omega
abbrev rArg (c : Int) : Res := .tup [.c (.t (.int .i64 (opArg c).1)), .c (.t (.bool (opArg c).2))]
theorem s_impl_argument (c : Int) : Sim.Spec Try.prog 178 [tvI c] (rArg c) := by
  refine spec_of_W hΓ hmix Try.func178 rfl (by decide) rfl ?_
  repeat' ((conv => whnf); first | refine Or.inl ?_ | refine And.intro (Obl.out (?_ : Obl _)) ?_ | refine ifB_intro (fun h => ?_) (fun h => ?_) | refine Exists.intro _ (And.intro rfl ?_) | ((with_reducible show _ = _); rfl))
  all_goals try ((with_reducible refine Obl.mk ?_); first | ((with_reducible show regOk _ _ = true); kernel_rfl) | ((with_reducible show eqTyOk _ _ = true); kernel_rfl) | rfl | exact trivial | ((repeat' (first | exact trivial | refine And.intro ?_ ?_)); done) | decide | ((repeat' (first | exact List.forall_mem_nil _ | refine List.forall_mem_cons.2 (And.intro rfl ?_))); done) | (refine And.intro ?_ ?_ <;> simp only [List.length_map, List.length_append, List.length_cons, List.length_nil] <;> omega))
  all_goals (refine ⟨?_⟩; simp_all [opArg])
theorem s_spec_l07Width (c : Int) : Sim.Spec Try.prog 119 [tvI c] (rArg c) := by
  refine spec_of_W hΓ hmix Try.func119 rfl (by decide) rfl ?_
  repeat' ((conv => whnf); first | refine Or.inl ?_ | refine And.intro (Obl.out (?_ : Obl _)) ?_ | refine ifB_intro (fun h => ?_) (fun h => ?_) | refine Exists.intro _ (And.intro rfl ?_) | ((with_reducible show _ = _); rfl))
  all_goals try ((with_reducible refine Obl.mk ?_); first | ((with_reducible show regOk _ _ = true); kernel_rfl) | ((with_reducible show eqTyOk _ _ = true); kernel_rfl) | rfl | exact trivial | ((repeat' (first | exact trivial | refine And.intro ?_ ?_)); done) | decide | ((repeat' (first | exact List.forall_mem_nil _ | refine List.forall_mem_cons.2 (And.intro rfl ?_))); done) | (refine And.intro ?_ ?_ <;> simp only [List.length_map, List.length_append, List.length_cons, List.length_nil] <;> omega))
  all_goals (refine ⟨?_⟩; simp_all [opArg])
theorem s_impl_OpSize (c : Int) : Sim.Spec Try.prog 118 [tvI c] (rI (opSize c)) := by
  refine spec_of_W hΓ hmix Try.func118 rfl (by decide) rfl ?_
  have hb := s_impl_between c 0 17
  have ha := s_impl_argument c
  have hle := opArg_le c
  unfold opSize
  cases hw : within c 0 17 with
  | false =>
    rw [hw] at hb
    repeat' ((conv => whnf); first | refine Or.inl ?_ | refine And.intro (Obl.out (?_ : Obl _)) ?_ | refine ifB_intro (fun h => ?_) (fun h => ?_) | refine call_intro (hb) (And.intro rfl (And.intro rfl (And.intro rfl trivial))) ?_ | refine Exists.intro _ (And.intro rfl ?_) | ((with_reducible show _ = _); rfl))
    all_goals try ((with_reducible refine Obl.mk ?_); first | ((with_reducible show regOk _ _ = true); kernel_rfl) | ((with_reducible show eqTyOk _ _ = true); kernel_rfl) | rfl | exact trivial | ((repeat' (first | exact trivial | refine And.intro ?_ ?_)); done) | decide | ((repeat' (first | exact List.forall_mem_nil _ | refine List.forall_mem_cons.2 (And.intro rfl ?_))); done) | (refine And.intro ?_ ?_ <;> simp only [List.length_map, List.length_append, List.length_cons, List.length_nil] <;> omega))
  | true =>
    rw [hw] at hb
    repeat' ((conv => whnf); first | refine Or.inl ?_ | refine And.intro (Obl.out (?_ : Obl _)) ?_ | refine ifB_intro (fun h => ?_) (fun h => ?_) | refine call_intro (hb) (And.intro rfl (And.intro rfl (And.intro rfl trivial))) ?_ | refine call_intro (ha) (And.intro rfl trivial) ?_ | refine Exists.intro _ (And.intro rfl ?_) | ((with_reducible show _ = _); rfl))
    all_goals try ((with_reducible refine Obl.mk ?_); first | ((with_reducible show regOk _ _ = true); kernel_rfl) | ((with_reducible show eqTyOk _ _ = true); kernel_rfl) | rfl | exact trivial | ((repeat' (first | exact trivial | refine And.intro ?_ ?_)); done) | decide | ((repeat' (first | exact List.forall_mem_nil _ | refine List.forall_mem_cons.2 (And.intro rfl ?_))); done) | (refine And.intro ?_ ?_ <;> simp only [List.length_map, List.length_append, List.length_cons, List.length_nil] <;> omega))
    exact ⟨by rw [IntWalk.i64_in _ (by omega)]; rfl⟩
theorem s_spec_OpSize (c : Int) : Sim.Spec Try.prog 49 [tvI c] (rI (opSize c)) := by
  refine spec_of_W hΓ hmix Try.func49 rfl (by decide) rfl ?_
  have hb := s_spec_l01In c 0 17
  have ha := s_spec_l07Width c
  have hle := opArg_le c
  unfold opSize
  cases hw : within c 0 17 with
  | false =>
    rw [hw] at hb
    repeat' ((conv => whnf); first | refine Or.inl ?_ | refine And.intro (Obl.out (?_ : Obl _)) ?_ | refine ifB_intro (fun h => ?_) (fun h => ?_) | refine call_intro (hb) (And.intro rfl (And.intro rfl (And.intro rfl trivial))) ?_ | refine Exists.intro _ (And.intro rfl ?_) | ((with_reducible show _ = _); rfl))
    all_goals try ((with_reducible refine Obl.mk ?_); first | ((with_reducible show regOk _ _ = true); kernel_rfl) | ((with_reducible show eqTyOk _ _ = true); kernel_rfl) | rfl | exact trivial | ((repeat' (first | exact trivial | refine And.intro ?_ ?_)); done) | decide | ((repeat' (first | exact List.forall_mem_nil _ | refine List.forall_mem_cons.2 (And.intro rfl ?_))); done) | (refine And.intro ?_ ?_ <;> simp only [List.length_map, List.length_append, List.length_cons, List.length_nil] <;> omega))
  | true =>
    rw [hw] at hb
    repeat' ((conv => whnf); first | refine Or.inl ?_ | refine And.intro (Obl.out (?_ : Obl _)) ?_ | refine ifB_intro (fun h => ?_) (fun h => ?_) | refine call_intro (hb) (And.intro rfl (And.intro rfl (And.intro rfl trivial))) ?_ | refine call_intro (ha) (And.intro rfl trivial) ?_ | refine Exists.intro _ (And.intro rfl ?_) | ((with_reducible show _ = _); rfl))
    all_goals try ((with_reducible refine Obl.mk ?_); first | ((with_reducible show regOk _ _ = true); kernel_rfl) | ((with_reducible show eqTyOk _ _ = true); kernel_rfl) | rfl | exact trivial | ((repeat' (first | exact trivial | refine And.intro ?_ ?_)); done) | decide | ((repeat' (first | exact List.forall_mem_nil _ | refine List.forall_mem_cons.2 (And.intro rfl ?_))); done) | (refine And.intro ?_ ?_ <;> simp only [List.length_map, List.length_append, List.length_cons, List.length_nil] <;> omega))
    exact ⟨by rw [IntWalk.i64_in _ (by omega), Int.add_comm]; rfl⟩
def near (l : List TPlace) : Bool := l.all fun x => within x.fOffset 0 1000000
theorem near_at {l : List TPlace} {k : Nat} {x : TPlace} (hx : l[k]? = some x) : near (l.drop k) = (within x.fOffset 0 1000000 && near (l.drop (k + 1))) := by
  rw [drop_at hx, near, List.all_cons]; rfl
theorem near_mem {l : List TPlace} (h : near l = true) : ∀ x ∈ l, 0 ≤ x.fOffset ∧ x.fOffset ≤ 1000000 := fun x hx => within_iff.1 (List.all_eq_true.1 h x hx)
theorem s_spec_l12Near (l : List TPlace) (hl : l.length ≤ 1048576) : Sim.Spec Try.prog 98 [tvL 8 (l.map TPlace.tr)] (rB (near l)) := by
  refine spec_of_W hΓ hmix Try.func98 rfl (by decide) rfl ?_
  have hlen : (l.map TPlace.tr).length = l.length := by simp
  repeat' ((conv => whnf); first | refine Or.inl ?_ | refine And.intro (Obl.out (?_ : Obl _)) ?_ | refine ifB_intro (fun h => ?_) (fun h => ?_) | refine Exists.intro _ (And.intro rfl ?_) | ((with_reducible show _ = _); rfl))
  all_goals try ((with_reducible refine Obl.mk ?_); first | ((with_reducible show regOk _ _ = true); kernel_rfl) | ((with_reducible show eqTyOk _ _ = true); kernel_rfl) | rfl | exact trivial | ((repeat' (first | exact trivial | refine And.intro ?_ ?_)); done) | decide | ((repeat' (first | exact List.forall_mem_nil _ | refine List.forall_mem_cons.2 (And.intro rfl ?_))); done) | (refine And.intro ?_ ?_ <;> simp only [List.length_map, List.length_append, List.length_cons, List.length_nil] <;> omega))
  conv => whnf
  refine ⟨{ k : Nat // k ≤ l.length ∧ near (l.drop k) = near l }, fun k => ⟨[(0, .r (.c (.t (.lst 8 (l.map TPlace.tr))))), (3, tI .i64 (k.1 : Int))], [], []⟩, fun k => l.length - k.1, ⟨0, by omega, rfl⟩, ?_, ?_⟩
  · skip
    repeat' ((conv => whnf); first | refine Or.inl ?_ | refine And.intro (Obl.out (?_ : Obl _)) ?_ | refine ifB_intro (fun h => ?_) (fun h => ?_) | refine Exists.intro _ (And.intro rfl ?_) | ((with_reducible show _ = _); rfl))
    all_goals try ((with_reducible refine Obl.mk ?_); first | ((with_reducible show regOk _ _ = true); kernel_rfl) | ((with_reducible show eqTyOk _ _ = true); kernel_rfl) | rfl | exact trivial | ((repeat' (first | exact trivial | refine And.intro ?_ ?_)); done) | decide | ((repeat' (first | exact List.forall_mem_nil _ | refine List.forall_mem_cons.2 (And.intro rfl ?_))); done) | (refine And.intro ?_ ?_ <;> simp only [List.length_map, List.length_append, List.length_cons, List.length_nil] <;> omega))
  intro ⟨k, hk, hr⟩
  dsimp only
  by_cases hlt : k < l.length
  · obtain ⟨x, hx⟩ := get_of_lt hlt
    have hb := s_spec_l01In x.fOffset 0 1000000
    rw [near_at hx] at hr
    cases hw : within x.fOffset 0 1000000 with
    | false =>
      rw [hw] at hb hr
      repeat' ((conv => whnf); first | refine Or.inl ?_ | refine And.intro (Obl.out (?_ : Obl _)) ?_ | refine ifB_intro (fun h => ?_) (fun h => ?_) | refine ⟨k, x.tr, rfl, map_get hx, ?_⟩ | refine call_intro (hb) (And.intro rfl (And.intro rfl (And.intro rfl trivial))) ?_ | refine Exists.intro _ (And.intro rfl ?_) | ((with_reducible show _ = _); rfl))
      all_goals try ((with_reducible refine Obl.mk ?_); first | ((with_reducible show regOk _ _ = true); kernel_rfl) | ((with_reducible show eqTyOk _ _ = true); kernel_rfl) | rfl | exact trivial | ((repeat' (first | exact trivial | refine And.intro ?_ ?_)); done) | decide | ((repeat' (first | exact List.forall_mem_nil _ | refine List.forall_mem_cons.2 (And.intro rfl ?_))); done) | (refine And.intro ?_ ?_ <;> simp only [List.length_map, List.length_append, List.length_cons, List.length_nil] <;> omega))
      all_goals try (exfalso; simp only [decide_eq_false_iff_not, decide_eq_true_eq] at *; omega)
      all_goals exact ⟨by rw [← hr]; rfl⟩
    | true =>
      rw [hw, Bool.true_and] at hr
      rw [hw] at hb
      repeat' ((conv => whnf); first | refine Or.inl ?_ | refine And.intro (Obl.out (?_ : Obl _)) ?_ | refine ifB_intro (fun h => ?_) (fun h => ?_) | refine ⟨k, x.tr, rfl, map_get hx, ?_⟩ | refine call_intro (hb) (And.intro rfl (And.intro rfl (And.intro rfl trivial))) ?_ | refine Exists.intro _ (And.intro rfl ?_) | ((with_reducible show _ = _); rfl))
      all_goals try ((with_reducible refine Obl.mk ?_); first | ((with_reducible show regOk _ _ = true); kernel_rfl) | ((with_reducible show eqTyOk _ _ = true); kernel_rfl) | rfl | exact trivial | ((repeat' (first | exact trivial | refine And.intro ?_ ?_)); done) | decide | ((repeat' (first | exact List.forall_mem_nil _ | refine List.forall_mem_cons.2 (And.intro rfl ?_))); done) | (refine And.intro ?_ ?_ <;> simp only [List.length_map, List.length_append, List.length_cons, List.length_nil] <;> omega))
      all_goals try (exfalso; simp only [decide_eq_false_iff_not, decide_eq_true_eq] at *; omega)
      conv => whnf
      refine ⟨⟨k + 1, by omega, hr⟩, ?_, by dsimp only; omega⟩
      repeat' ((conv => whnf); first | refine Or.inl ?_ | refine And.intro (Obl.out (?_ : Obl _)) ?_ | refine ifB_intro (fun h => ?_) (fun h => ?_) | refine Exists.intro _ (And.intro rfl ?_) | ((with_reducible show _ = _); rfl))
      all_goals try ((with_reducible refine Obl.mk ?_); first | ((with_reducible show regOk _ _ = true); kernel_rfl) | ((with_reducible show eqTyOk _ _ = true); kernel_rfl) | rfl | exact trivial | ((repeat' (first | exact trivial | refine And.intro ?_ ?_)); done) | decide | ((repeat' (first | exact List.forall_mem_nil _ | refine List.forall_mem_cons.2 (And.intro rfl ?_))); done) | (refine And.intro ?_ ?_ <;> simp only [List.length_map, List.length_append, List.length_cons, List.length_nil] <;> omega))
      all_goals try exact ⟨by dsimp only; rw [IntWalk.i64_in _ (by omega)]; rfl⟩
  · have hge : l.length ≤ k := by omega
    rw [List.drop_eq_nil_of_le hge] at hr
    repeat' ((conv => whnf); first | refine Or.inl ?_ | refine And.intro (Obl.out (?_ : Obl _)) ?_ | refine ifB_intro (fun h => ?_) (fun h => ?_) | refine Exists.intro _ (And.intro rfl ?_) | ((with_reducible show _ = _); rfl))
    all_goals try ((with_reducible refine Obl.mk ?_); first | ((with_reducible show regOk _ _ = true); kernel_rfl) | ((with_reducible show eqTyOk _ _ = true); kernel_rfl) | rfl | exact trivial | ((repeat' (first | exact trivial | refine And.intro ?_ ?_)); done) | decide | ((repeat' (first | exact List.forall_mem_nil _ | refine List.forall_mem_cons.2 (And.intro rfl ?_))); done) | (refine And.intro ?_ ?_ <;> simp only [List.length_map, List.length_append, List.length_cons, List.length_nil] <;> omega))
    all_goals try (exfalso; simp only [decide_eq_false_iff_not, decide_eq_true_eq] at *; omega)
    exact ⟨by rw [← hr]; rfl⟩
end Go.Proofs.Ytehniaekfijmiaa
