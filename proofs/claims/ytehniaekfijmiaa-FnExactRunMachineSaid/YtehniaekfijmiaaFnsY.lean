/- locate in both texts; SpaceOk of the reference; both for all spaces. -/
import Derived.Test.YtehniaekfijmiaaFnsX
namespace Go.Proofs.Ytehniaekfijmiaa
open Go.Sim
set_option maxRecDepth 100000
set_option maxHeartbeats 4000000
abbrev rLoc (x : Int × Int) : Res := .tup [.c (.t (.int .i64 x.1)), .c (.t (.int .i64 x.2))]
theorem s_impl_locate (i0 i1 : TImage) (b0 b1 e : Int) (es : List Int) (hb0 : 0 ≤ b0 ∧ b0 ≤ 1000000) (hb1 : 0 ≤ b1 ∧ b1 ≤ 1000000) (hl0 : i0.fCode.length ≤ 1048576) (hl1 : i1.fCode.length ≤ 1048576) : Sim.Spec Try.prog 135 [.agg (TSpace.mk [i0, i1] [b0, b1] es).tr, tvI e] (rLoc (loc2 i0 i1 b0 b1 e)) := by
  refine spec_of_W hΓ hmix Try.func135 rfl (by decide) rfl ?_
  generalize hR : loc2 i0 i1 b0 b1 e = R
  repeat' ((conv => whnf); first | refine Or.inl ?_ | refine And.intro (Obl.out (?_ : Obl _)) ?_ | refine ifB_intro (fun h => ?_) (fun h => ?_) | refine Exists.intro _ (And.intro rfl ?_) | ((with_reducible show _ = _); rfl))
  all_goals try ((with_reducible refine Obl.mk ?_); first | ((with_reducible show regOk _ _ = true); kernel_rfl) | ((with_reducible show eqTyOk _ _ = true); kernel_rfl) | rfl | exact trivial | ((repeat' (first | exact trivial | refine And.intro ?_ ?_)); done) | decide | ((repeat' (first | exact List.forall_mem_nil _ | refine List.forall_mem_cons.2 (And.intro rfl ?_))); done) | (refine And.intro ?_ ?_ <;> simp only [List.length_map, List.length_append, List.length_cons, List.length_nil] <;> omega))
  conv => whnf
  refine ⟨{ k : Nat // k ≤ 2 ∧ (1 ≤ k → ¬ (b0 ≤ e ∧ e < b0 + i0.fCode.length)) ∧ (2 ≤ k → ¬ (b1 ≤ e ∧ e < b1 + i1.fCode.length)) }, fun k => ⟨[(1, tI .i64 e), (2, .r (.c (.ptr (2, 0, 0) 0))), (9, .r (.c (.t (.lst 2 [i0.tr, i1.tr])))), (10, tI .i64 2), (11, tI .i64 (k.1 : Int))], [((2, 0, 0), some (.box (spBox i0 i1 b0 b1 es)))], [2]⟩, fun k => 2 - k.1, ⟨0, by omega, by omega, by omega⟩, ?_, ?_⟩
  · skip
    repeat' ((conv => whnf); first | refine Or.inl ?_ | refine And.intro (Obl.out (?_ : Obl _)) ?_ | refine ifB_intro (fun h => ?_) (fun h => ?_) | refine Exists.intro _ (And.intro rfl ?_) | ((with_reducible show _ = _); rfl))
    all_goals try ((with_reducible refine Obl.mk ?_); first | ((with_reducible show regOk _ _ = true); kernel_rfl) | ((with_reducible show eqTyOk _ _ = true); kernel_rfl) | rfl | exact trivial | ((repeat' (first | exact trivial | refine And.intro ?_ ?_)); done) | decide | ((repeat' (first | exact List.forall_mem_nil _ | refine List.forall_mem_cons.2 (And.intro rfl ?_))); done) | (refine And.intro ?_ ?_ <;> simp only [List.length_map, List.length_append, List.length_cons, List.length_nil] <;> omega))
  intro ⟨k, hk, hk1, hk2⟩
  dsimp only
  by_cases hlt : k < 2
  · obtain ⟨i, b, hi, hb, hbb, hll, hyes, hno⟩ : ∃ (i : TImage) (b : Int), ([i0.tr, i1.tr] : List (List Tr))[k]? = some i.tr ∧ ([intRow b0, intRow b1] : List (List Tr))[k]? = some (intRow b) ∧ (0 ≤ b ∧ b ≤ 1000000) ∧ i.fCode.length ≤ 1048576 ∧
        (b ≤ e ∧ e < b + i.fCode.length → R = ((k : Int), e - b)) ∧ (¬ (b ≤ e ∧ e < b + i.fCode.length) → (1 ≤ k + 1 → ¬ (b0 ≤ e ∧ e < b0 + i0.fCode.length)) ∧ (2 ≤ k + 1 → ¬ (b1 ≤ e ∧ e < b1 + i1.fCode.length))) := by
      have : k = 0 ∨ k = 1 := by omega
      rcases this with rfl | rfl
      · exact ⟨i0, b0, rfl, rfl, hb0, hl0, fun h => by rw [← hR, loc2, if_pos h]; rfl, fun h => ⟨fun _ => h, fun h2 => by omega⟩⟩
      · exact ⟨i1, b1, rfl, rfl, hb1, hl1, fun h => by rw [← hR, loc2, if_neg (hk1 (by omega)), if_pos h]; rfl, fun h => ⟨fun _ => hk1 (by omega), fun _ => h⟩⟩
    by_cases hin : b ≤ e ∧ e < b + i.fCode.length
    · have hRR := hyes hin
      have hws : IntKind.i64.wrap (e - b) = e - b := IntWalk.i64_in _ (by omega)
      have hB := s_impl_between e b (b + i.fCode.length - 1)
      rw [within_iff.2 ⟨hin.1, by omega⟩] at hB
      subst hRR
      repeat' ((conv => whnf); first | refine Or.inl ?_ | refine And.intro (Obl.out (?_ : Obl _)) ?_ | refine ifB_intro (fun h => ?_) (fun h => ?_) | refine ⟨k, i.tr, rfl, hi, ?_⟩ | refine ⟨k, intRow b, rfl, hb, ?_⟩ | refine call_intro (hB) (And.intro rfl (And.intro rfl (And.intro (congrArg (Tr.int _) (by first | rfl | (simp (disch := omega) only [IntWalk.i64_in]; done) | ((try simp (disch := omega) only [IntWalk.i64_in]); omega))) trivial))) ?_ | refine Exists.intro _ (And.intro rfl ?_) | ((with_reducible show _ = _); rfl))
      all_goals try ((with_reducible refine Obl.mk ?_); first | ((with_reducible show regOk _ _ = true); kernel_rfl) | ((with_reducible show eqTyOk _ _ = true); kernel_rfl) | rfl | exact trivial | ((repeat' (first | exact trivial | refine And.intro ?_ ?_)); done) | decide | ((repeat' (first | exact List.forall_mem_nil _ | refine List.forall_mem_cons.2 (And.intro rfl ?_))); done) | (refine And.intro ?_ ?_ <;> simp only [List.length_map, List.length_append, List.length_cons, List.length_nil] <;> omega))
      all_goals first
        | (exfalso; have h' := of_decide_eq_false h; omega)
        | (refine ⟨congrArg (Tr.int _) ?_⟩; rw [hws])
    · have hB := s_impl_between e b (b + i.fCode.length - 1)
      have hwf : within e b (b + i.fCode.length - 1) = false := by
        cases hw : within e b (b + i.fCode.length - 1) with
        | false => rfl
        | true => have := within_iff.1 hw; exact absurd ⟨this.1, by omega⟩ hin
      rw [hwf] at hB
      repeat' ((conv => whnf); first | refine Or.inl ?_ | refine And.intro (Obl.out (?_ : Obl _)) ?_ | refine ifB_intro (fun h => ?_) (fun h => ?_) | refine ⟨k, i.tr, rfl, hi, ?_⟩ | refine ⟨k, intRow b, rfl, hb, ?_⟩ | refine call_intro (hB) (And.intro rfl (And.intro rfl (And.intro (congrArg (Tr.int _) (by first | rfl | (simp (disch := omega) only [IntWalk.i64_in]; done) | ((try simp (disch := omega) only [IntWalk.i64_in]); omega))) trivial))) ?_ | refine Exists.intro _ (And.intro rfl ?_) | ((with_reducible show _ = _); rfl))
      all_goals try ((with_reducible refine Obl.mk ?_); first | ((with_reducible show regOk _ _ = true); kernel_rfl) | ((with_reducible show eqTyOk _ _ = true); kernel_rfl) | rfl | exact trivial | ((repeat' (first | exact trivial | refine And.intro ?_ ?_)); done) | decide | ((repeat' (first | exact List.forall_mem_nil _ | refine List.forall_mem_cons.2 (And.intro rfl ?_))); done) | (refine And.intro ?_ ?_ <;> simp only [List.length_map, List.length_append, List.length_cons, List.length_nil] <;> omega))
      all_goals try (exfalso; have h' := of_decide_eq_false h; omega)
      all_goals conv => whnf
      all_goals refine ⟨⟨k + 1, by omega, hno hin⟩, ?_, by dsimp only; omega⟩
      repeat' ((conv => whnf); first | refine Or.inl ?_ | refine And.intro (Obl.out (?_ : Obl _)) ?_ | refine ifB_intro (fun h => ?_) (fun h => ?_) | refine Exists.intro _ (And.intro rfl ?_) | ((with_reducible show _ = _); rfl))
      all_goals try ((with_reducible refine Obl.mk ?_); first | ((with_reducible show regOk _ _ = true); kernel_rfl) | ((with_reducible show eqTyOk _ _ = true); kernel_rfl) | rfl | exact trivial | ((repeat' (first | exact trivial | refine And.intro ?_ ?_)); done) | decide | ((repeat' (first | exact List.forall_mem_nil _ | refine List.forall_mem_cons.2 (And.intro rfl ?_))); done) | (refine And.intro ?_ ?_ <;> simp only [List.length_map, List.length_append, List.length_cons, List.length_nil] <;> omega))
      all_goals exact ⟨by dsimp only; rw [IntWalk.i64_in _ (by omega)]; rfl⟩
  · have hk2' : k = 2 := by omega
    subst hk2'
    have hRR : R = (-1, -1) := by rw [← hR, loc2, if_neg (hk1 (by omega)), if_neg (hk2 (by omega))]
    subst hRR
    repeat' ((conv => whnf); first | refine Or.inl ?_ | refine And.intro (Obl.out (?_ : Obl _)) ?_ | refine ifB_intro (fun h => ?_) (fun h => ?_) | refine Exists.intro _ (And.intro rfl ?_) | ((with_reducible show _ = _); rfl))
    all_goals try ((with_reducible refine Obl.mk ?_); first | ((with_reducible show regOk _ _ = true); kernel_rfl) | ((with_reducible show eqTyOk _ _ = true); kernel_rfl) | rfl | exact trivial | ((repeat' (first | exact trivial | refine And.intro ?_ ?_)); done) | decide | ((repeat' (first | exact List.forall_mem_nil _ | refine List.forall_mem_cons.2 (And.intro rfl ?_))); done) | (refine And.intro ?_ ?_ <;> simp only [List.length_map, List.length_append, List.length_cons, List.length_nil] <;> omega))
theorem s_spec_l10Locate (i0 i1 : TImage) (b0 b1 e : Int) (es : List Int) (hb0 : 0 ≤ b0 ∧ b0 ≤ 1000000) (hb1 : 0 ≤ b1 ∧ b1 ≤ 1000000) (hl0 : i0.fCode.length ≤ 1048576) (hl1 : i1.fCode.length ≤ 1048576) : Sim.Spec Try.prog 127 [.agg (TSpace.mk [i0, i1] [b0, b1] es).tr, tvI e] (rLoc (loc2 i0 i1 b0 b1 e)) := by
  refine spec_of_W hΓ hmix Try.func127 rfl (by decide) rfl ?_
  have h2 : ([i0.tr, i1.tr] : List (List Tr)).length = 2 := rfl
  generalize hR : loc2 i0 i1 b0 b1 e = R
  repeat' ((conv => whnf); first | refine Or.inl ?_ | refine And.intro (Obl.out (?_ : Obl _)) ?_ | refine ifB_intro (fun h => ?_) (fun h => ?_) | refine Exists.intro _ (And.intro rfl ?_) | ((with_reducible show _ = _); rfl))
  all_goals try ((with_reducible refine Obl.mk ?_); first | ((with_reducible show regOk _ _ = true); kernel_rfl) | ((with_reducible show eqTyOk _ _ = true); kernel_rfl) | rfl | exact trivial | ((repeat' (first | exact trivial | refine And.intro ?_ ?_)); done) | decide | ((repeat' (first | exact List.forall_mem_nil _ | refine List.forall_mem_cons.2 (And.intro rfl ?_))); done) | (refine And.intro ?_ ?_ <;> simp only [List.length_map, List.length_append, List.length_cons, List.length_nil] <;> omega))
  conv => whnf
  refine ⟨{ k : Nat // k ≤ 2 ∧ (1 ≤ k → ¬ (b0 ≤ e ∧ e < b0 + i0.fCode.length)) ∧ (2 ≤ k → ¬ (b1 ≤ e ∧ e < b1 + i1.fCode.length)) }, fun k => ⟨[(1, tI .i64 e), (2, .r (.c (.ptr (2, 0, 0) 0))), (6, tI .i64 (k.1 : Int))], [((2, 0, 0), some (.box (spBox i0 i1 b0 b1 es)))], [2]⟩, fun k => 2 - k.1, ⟨0, by omega, by omega, by omega⟩, ?_, ?_⟩
  · skip
    repeat' ((conv => whnf); first | refine Or.inl ?_ | refine And.intro (Obl.out (?_ : Obl _)) ?_ | refine ifB_intro (fun h => ?_) (fun h => ?_) | refine Exists.intro _ (And.intro rfl ?_) | ((with_reducible show _ = _); rfl))
    all_goals try ((with_reducible refine Obl.mk ?_); first | ((with_reducible show regOk _ _ = true); kernel_rfl) | ((with_reducible show eqTyOk _ _ = true); kernel_rfl) | rfl | exact trivial | ((repeat' (first | exact trivial | refine And.intro ?_ ?_)); done) | decide | ((repeat' (first | exact List.forall_mem_nil _ | refine List.forall_mem_cons.2 (And.intro rfl ?_))); done) | (refine And.intro ?_ ?_ <;> simp only [List.length_map, List.length_append, List.length_cons, List.length_nil] <;> omega))
  intro ⟨k, hk, hk1, hk2⟩
  dsimp only
  by_cases hlt : k < 2
  · obtain ⟨i, b, hi, hb, hbb, hll, hyes, hno⟩ : ∃ (i : TImage) (b : Int), ([i0.tr, i1.tr] : List (List Tr))[k]? = some i.tr ∧ ([intRow b0, intRow b1] : List (List Tr))[k]? = some (intRow b) ∧ (0 ≤ b ∧ b ≤ 1000000) ∧ i.fCode.length ≤ 1048576 ∧
        (b ≤ e ∧ e < b + i.fCode.length → R = ((k : Int), e - b)) ∧ (¬ (b ≤ e ∧ e < b + i.fCode.length) → (1 ≤ k + 1 → ¬ (b0 ≤ e ∧ e < b0 + i0.fCode.length)) ∧ (2 ≤ k + 1 → ¬ (b1 ≤ e ∧ e < b1 + i1.fCode.length))) := by
      have : k = 0 ∨ k = 1 := by omega
      rcases this with rfl | rfl
      · exact ⟨i0, b0, rfl, rfl, hb0, hl0, fun h => by rw [← hR, loc2, if_pos h]; rfl, fun h => ⟨fun _ => h, fun h2 => by omega⟩⟩
      · exact ⟨i1, b1, rfl, rfl, hb1, hl1, fun h => by rw [← hR, loc2, if_neg (hk1 (by omega)), if_pos h]; rfl, fun h => ⟨fun _ => hk1 (by omega), fun _ => h⟩⟩
    by_cases hin : b ≤ e ∧ e < b + i.fCode.length
    · have hRR := hyes hin
      have hws : IntKind.i64.wrap (e - b) = e - b := IntWalk.i64_in _ (by omega)
      have hw3 : IntKind.i64.wrap (b + (i.fCode.length : Int)) = b + i.fCode.length := IntWalk.i64_in _ (by omega)
      subst hRR
      repeat' ((conv => whnf); first | refine Or.inl ?_ | refine And.intro (Obl.out (?_ : Obl _)) ?_ | refine ifB_intro (fun h => ?_) (fun h => ?_) | refine ⟨k, i.tr, rfl, hi, ?_⟩ | refine ⟨k, intRow b, rfl, hb, ?_⟩ | refine Exists.intro _ (And.intro rfl ?_) | ((with_reducible show _ = _); rfl))
      all_goals try ((with_reducible refine Obl.mk ?_); first | ((with_reducible show regOk _ _ = true); kernel_rfl) | ((with_reducible show eqTyOk _ _ = true); kernel_rfl) | rfl | exact trivial | ((repeat' (first | exact trivial | refine And.intro ?_ ?_)); done) | decide | ((repeat' (first | exact List.forall_mem_nil _ | refine List.forall_mem_cons.2 (And.intro rfl ?_))); done) | (refine And.intro ?_ ?_ <;> simp only [List.length_map, List.length_append, List.length_cons, List.length_nil] <;> omega))
      all_goals first
        | (exfalso; have h' := of_decide_eq_false h; (try rw [hw3] at h'); (try rw [h2] at h'); omega)
        | (refine ⟨congrArg (Tr.int _) ?_⟩; rw [hws])
    · have hw3 : IntKind.i64.wrap (b + (i.fCode.length : Int)) = b + i.fCode.length := IntWalk.i64_in _ (by omega)
      repeat' ((conv => whnf); first | refine Or.inl ?_ | refine And.intro (Obl.out (?_ : Obl _)) ?_ | refine ifB_intro (fun h => ?_) (fun h => ?_) | refine ⟨k, i.tr, rfl, hi, ?_⟩ | refine ⟨k, intRow b, rfl, hb, ?_⟩ | refine Exists.intro _ (And.intro rfl ?_) | ((with_reducible show _ = _); rfl))
      all_goals try ((with_reducible refine Obl.mk ?_); first | ((with_reducible show regOk _ _ = true); kernel_rfl) | ((with_reducible show eqTyOk _ _ = true); kernel_rfl) | rfl | exact trivial | ((repeat' (first | exact trivial | refine And.intro ?_ ?_)); done) | decide | ((repeat' (first | exact List.forall_mem_nil _ | refine List.forall_mem_cons.2 (And.intro rfl ?_))); done) | (refine And.intro ?_ ?_ <;> simp only [List.length_map, List.length_append, List.length_cons, List.length_nil] <;> omega))
      all_goals try (exfalso; first | (have h' := of_decide_eq_false h; rw [h2] at h'; omega) | (rename_i a1; have c1 := of_decide_eq_true a1; have c2 := of_decide_eq_true h; rw [hw3] at c2; exact hin ⟨c1, c2⟩))
      all_goals conv => whnf
      all_goals refine ⟨⟨k + 1, by omega, hno hin⟩, ?_, by dsimp only; omega⟩
      repeat' ((conv => whnf); first | refine Or.inl ?_ | refine And.intro (Obl.out (?_ : Obl _)) ?_ | refine ifB_intro (fun h => ?_) (fun h => ?_) | refine Exists.intro _ (And.intro rfl ?_) | ((with_reducible show _ = _); rfl))
      all_goals try ((with_reducible refine Obl.mk ?_); first | ((with_reducible show regOk _ _ = true); kernel_rfl) | ((with_reducible show eqTyOk _ _ = true); kernel_rfl) | rfl | exact trivial | ((repeat' (first | exact trivial | refine And.intro ?_ ?_)); done) | decide | ((repeat' (first | exact List.forall_mem_nil _ | refine List.forall_mem_cons.2 (And.intro rfl ?_))); done) | (refine And.intro ?_ ?_ <;> simp only [List.length_map, List.length_append, List.length_cons, List.length_nil] <;> omega))
      all_goals exact ⟨by dsimp only; rw [IntWalk.i64_in _ (by omega)]; rfl⟩
  · have hk2' : k = 2 := by omega
    subst hk2'
    have hRR : R = (-1, -1) := by rw [← hR, loc2, if_neg (hk1 (by omega)), if_neg (hk2 (by omega))]
    subst hRR
    repeat' ((conv => whnf); first | refine Or.inl ?_ | refine And.intro (Obl.out (?_ : Obl _)) ?_ | refine ifB_intro (fun h => ?_) (fun h => ?_) | refine Exists.intro _ (And.intro rfl ?_) | ((with_reducible show _ = _); rfl))
    all_goals try ((with_reducible refine Obl.mk ?_); first | ((with_reducible show regOk _ _ = true); kernel_rfl) | ((with_reducible show eqTyOk _ _ = true); kernel_rfl) | rfl | exact trivial | ((repeat' (first | exact trivial | refine And.intro ?_ ?_)); done) | decide | ((repeat' (first | exact List.forall_mem_nil _ | refine List.forall_mem_cons.2 (And.intro rfl ?_))); done) | (refine And.intro ?_ ?_ <;> simp only [List.length_map, List.length_append, List.length_cons, List.length_nil] <;> omega))
theorem space_shape {s : TSpace} : (∃ i0 i1 b0 b1, s = ⟨[i0, i1], [b0, b1], s.fEntries⟩) ∨ (spaceOk s = false ∧ ¬ (s.fImages.length = 2 ∧ s.fBases.length = 2)) := by
  obtain ⟨im, bs, es⟩ := s
  match im, bs with
  | [i0, i1], [b0, b1] => exact .inl ⟨i0, i1, b0, b1, rfl⟩
  | [], _ => exact .inr ⟨rfl, by simp⟩
  | [_], _ => exact .inr ⟨rfl, by simp⟩
  | _ :: _ :: _ :: _, _ => exact .inr ⟨rfl, by simp⟩
  | [_, _], [] => exact .inr ⟨rfl, by simp⟩
  | [_, _], [_] => exact .inr ⟨rfl, by simp⟩
  | [_, _], _ :: _ :: _ :: _ => exact .inr ⟨rfl, by simp⟩
theorem s_impl_SpaceOk (s : TSpace) (hs : smallR 1048576 s.tr) : Sim.Spec Try.prog 74 [.agg s.tr] (rB (spaceOk s)) := by
  rcases space_shape (s := s) with ⟨i0, i1, b0, b1, h⟩ | ⟨h, hn⟩
  · rw [h] at hs ⊢
    exact s_impl_SpaceOk2 i0 i1 b0 b1 s.fEntries hs
  · rw [h]
    have l1 : (s.fImages.map TImage.tr).length = s.fImages.length := by simp
    have l2 : (s.fBases.map intRow).length = s.fBases.length := by simp
    refine spec_of_W hΓ hmix Try.func74 rfl (by decide) rfl ?_
    repeat' ((conv => whnf); first | refine Or.inl ?_ | refine And.intro (Obl.out (?_ : Obl _)) ?_ | refine ifB_intro (fun h => ?_) (fun h => ?_) | refine call_intro (s_impl_between _ _ _) (And.intro rfl (And.intro rfl (And.intro rfl trivial))) ?_ | refine Exists.intro _ (And.intro rfl ?_) | ((with_reducible show _ = _); rfl))
    all_goals try ((with_reducible refine Obl.mk ?_); first | ((with_reducible show regOk _ _ = true); kernel_rfl) | ((with_reducible show eqTyOk _ _ = true); kernel_rfl) | rfl | exact trivial | ((repeat' (first | exact trivial | refine And.intro ?_ ?_)); done) | decide | ((repeat' (first | exact List.forall_mem_nil _ | refine List.forall_mem_cons.2 (And.intro rfl ?_))); done) | (refine And.intro ?_ ?_ <;> simp only [List.length_map, List.length_append, List.length_cons, List.length_nil] <;> omega))
    all_goals (exfalso; apply hn; (simp_all) <;> (constructor <;> omega))
theorem s_spec_SpaceOk2 (i0 i1 : TImage) (b0 b1 : Int) (es : List Int) (hs : smallR 1048576 (TSpace.mk [i0, i1] [b0, b1] es).tr) : Sim.Spec Try.prog 67 [.agg (TSpace.mk [i0, i1] [b0, b1] es).tr] (rB (spaceOk2 i0 i1 b0 b1 es)) := by
  refine spec_of_W hΓ hmix Try.func67 rfl (by decide) rfl ?_
  have hlen : (es.map intRow).length = es.length := by simp
  have hE := s_spec_l01In es.length 1 6
  unfold spaceOk2
  cases hw : within es.length 1 6 with
  | false =>
    rw [hw] at hE
    repeat' ((conv => whnf); first | refine Or.inl ?_ | refine And.intro (Obl.out (?_ : Obl _)) ?_ | refine ifB_intro (fun h => ?_) (fun h => ?_) | refine call_intro (hE) (And.intro (congrArg (Tr.int _) (by first | rfl | (simp (disch := omega) only [IntWalk.i64_in]; done) | ((try simp (disch := omega) only [IntWalk.i64_in]); omega))) (And.intro rfl (And.intro rfl trivial))) ?_ | refine Exists.intro _ (And.intro rfl ?_) | ((with_reducible show _ = _); rfl))
    all_goals try ((with_reducible refine Obl.mk ?_); first | ((with_reducible show regOk _ _ = true); kernel_rfl) | ((with_reducible show eqTyOk _ _ = true); kernel_rfl) | rfl | exact trivial | ((repeat' (first | exact trivial | refine And.intro ?_ ?_)); done) | decide | ((repeat' (first | exact List.forall_mem_nil _ | refine List.forall_mem_cons.2 (And.intro rfl ?_))); done) | (refine And.intro ?_ ?_ <;> simp only [List.length_map, List.length_append, List.length_cons, List.length_nil] <;> omega))
    all_goals (exfalso; simp at h; done)
  | true =>
    rw [hw] at hE
    repeat' ((conv => whnf); first | refine Or.inl ?_ | refine And.intro (Obl.out (?_ : Obl _)) ?_ | refine ifB_intro (fun h => ?_) (fun h => ?_) | refine call_intro (hE) (And.intro (congrArg (Tr.int _) (by first | rfl | (simp (disch := omega) only [IntWalk.i64_in]; done) | ((try simp (disch := omega) only [IntWalk.i64_in]); omega))) (And.intro rfl (And.intro rfl trivial))) ?_ | refine Exists.intro _ (And.intro rfl ?_) | ((with_reducible show _ = _); rfl))
    all_goals try ((with_reducible refine Obl.mk ?_); first | ((with_reducible show regOk _ _ = true); kernel_rfl) | ((with_reducible show eqTyOk _ _ = true); kernel_rfl) | rfl | exact trivial | ((repeat' (first | exact trivial | refine And.intro ?_ ?_)); done) | decide | ((repeat' (first | exact List.forall_mem_nil _ | refine List.forall_mem_cons.2 (And.intro rfl ?_))); done) | (refine And.intro ?_ ?_ <;> simp only [List.length_map, List.length_append, List.length_cons, List.length_nil] <;> omega))
    all_goals try (exfalso; simp at h; done)
    have hsp := hs
    simp only [TSpace.tr, smallR] at hsp
    have hsI := hsp.1
    have hi0 : smallR 1048576 i0.tr := smallRs_map hsI (by simp)
    have hi1 : smallR 1048576 i1.tr := smallRs_map hsI (by simp)
    have hc0 : i0.fCode.length ≤ 1048576 := by have := hi0; simp only [TImage.tr, smallR, smallT] at this; omega
    have hc1 : i1.fCode.length ≤ 1048576 := by have := hi1; simp only [TImage.tr, smallR, smallT] at this; omega
    have hsy0 : i0.fSymbols.length ≤ 1048576 := by have := hi0; simp only [TImage.tr, smallR] at this; exact small_nat this.2.1
    have hsy1 : i1.fSymbols.length ≤ 1048576 := by have := hi1; simp only [TImage.tr, smallR] at this; exact small_nat this.2.1
    have hel : es.length ≤ 1048576 := small_nat hsp.2.2.1
    rw [Bool.true_and]
    generalize hR : (imageOk i0 && (within b0 1 1000000 && (imageOk i1 && (within b1 1 1000000 && (!(overlap i0 i1 b0 b1) && es.all fun e => entryIn i0 b0 e || entryIn i1 b1 e))))) = R
    conv => whnf
    refine ⟨{ k : Nat // k ≤ 2 ∧ (1 ≤ k → imageOk i0 = true ∧ within b0 1 1000000 = true) ∧ (2 ≤ k → imageOk i1 = true ∧ within b1 1 1000000 = true) }, fun k => ⟨[(1, .r (.c (.ptr (1, 0, 0) 0))), (3, tI .i64 (k.1 : Int))], [((1, 0, 0), some (.box (spBox i0 i1 b0 b1 es)))], [1]⟩, fun k => 2 - k.1, ⟨0, by omega, by omega, by omega⟩, ?_, ?_⟩
    · skip
      repeat' ((conv => whnf); first | refine Or.inl ?_ | refine And.intro (Obl.out (?_ : Obl _)) ?_ | refine ifB_intro (fun h => ?_) (fun h => ?_) | refine Exists.intro _ (And.intro rfl ?_) | ((with_reducible show _ = _); rfl))
      all_goals try ((with_reducible refine Obl.mk ?_); first | ((with_reducible show regOk _ _ = true); kernel_rfl) | ((with_reducible show eqTyOk _ _ = true); kernel_rfl) | rfl | exact trivial | ((repeat' (first | exact trivial | refine And.intro ?_ ?_)); done) | decide | ((repeat' (first | exact List.forall_mem_nil _ | refine List.forall_mem_cons.2 (And.intro rfl ?_))); done) | (refine And.intro ?_ ?_ <;> simp only [List.length_map, List.length_append, List.length_cons, List.length_nil] <;> omega))
    intro ⟨k, hk, hk1, hk2⟩
    dsimp only
    by_cases hlt : k < 2
    · obtain ⟨i, b, hi, hb, hsi, hn1, hn2, hyes⟩ : ∃ (i : TImage) (b : Int), ([i0.tr, i1.tr] : List (List Tr))[k]? = some i.tr ∧ ([intRow b0, intRow b1] : List (List Tr))[k]? = some (intRow b) ∧ smallR 1048576 i.tr ∧
          (imageOk i = false → R = false) ∧ (within b 1 1000000 = false → R = false) ∧ (imageOk i = true → within b 1 1000000 = true → (1 ≤ k + 1 → imageOk i0 = true ∧ within b0 1 1000000 = true) ∧ (2 ≤ k + 1 → imageOk i1 = true ∧ within b1 1 1000000 = true)) := by
        have : k = 0 ∨ k = 1 := by omega
        rcases this with rfl | rfl
        · exact ⟨i0, b0, rfl, rfl, hi0, fun h => by rw [← hR, h]; rfl, fun h => by rw [← hR, h]; simp, fun h h' => ⟨fun _ => ⟨h, h'⟩, fun h2 => by omega⟩⟩
        · exact ⟨i1, b1, rfl, rfl, hi1, fun h => by rw [← hR, h]; simp, fun h => by rw [← hR, h]; simp, fun h h' => ⟨fun _ => hk1 (by omega), fun _ => ⟨h, h'⟩⟩⟩
      have hI := s_spec_ImageOk i hsi
      have hB := s_spec_l01In b 1 1000000
      cases hio : imageOk i with
      | false =>
        rw [hio] at hI
        rw [hn1 hio]
        repeat' ((conv => whnf); first | refine Or.inl ?_ | refine And.intro (Obl.out (?_ : Obl _)) ?_ | refine ifB_intro (fun h => ?_) (fun h => ?_) | refine ⟨k, i.tr, rfl, hi, ?_⟩ | refine call_intro (hI) (And.intro (And.intro rfl (And.intro rfl trivial)) trivial) ?_ | refine Exists.intro _ (And.intro rfl ?_) | ((with_reducible show _ = _); rfl))
        all_goals try ((with_reducible refine Obl.mk ?_); first | ((with_reducible show regOk _ _ = true); kernel_rfl) | ((with_reducible show eqTyOk _ _ = true); kernel_rfl) | rfl | exact trivial | ((repeat' (first | exact trivial | refine And.intro ?_ ?_)); done) | decide | ((repeat' (first | exact List.forall_mem_nil _ | refine List.forall_mem_cons.2 (And.intro rfl ?_))); done) | (refine And.intro ?_ ?_ <;> simp only [List.length_map, List.length_append, List.length_cons, List.length_nil] <;> omega))
        all_goals (exfalso; first | (have h' := of_decide_eq_false h; omega) | (simp at h; done))
      | true =>
        rw [hio] at hI
        cases hbo : within b 1 1000000 with
        | false =>
          rw [hbo] at hB
          rw [hn2 hbo]
          repeat' ((conv => whnf); first | refine Or.inl ?_ | refine And.intro (Obl.out (?_ : Obl _)) ?_ | refine ifB_intro (fun h => ?_) (fun h => ?_) | refine ⟨k, i.tr, rfl, hi, ?_⟩ | refine ⟨k, intRow b, rfl, hb, ?_⟩ | refine call_intro (hI) (And.intro (And.intro rfl (And.intro rfl trivial)) trivial) ?_ | refine call_intro (hB) (And.intro rfl (And.intro rfl (And.intro rfl trivial))) ?_ | refine Exists.intro _ (And.intro rfl ?_) | ((with_reducible show _ = _); rfl))
          all_goals try ((with_reducible refine Obl.mk ?_); first | ((with_reducible show regOk _ _ = true); kernel_rfl) | ((with_reducible show eqTyOk _ _ = true); kernel_rfl) | rfl | exact trivial | ((repeat' (first | exact trivial | refine And.intro ?_ ?_)); done) | decide | ((repeat' (first | exact List.forall_mem_nil _ | refine List.forall_mem_cons.2 (And.intro rfl ?_))); done) | (refine And.intro ?_ ?_ <;> simp only [List.length_map, List.length_append, List.length_cons, List.length_nil] <;> omega))
          all_goals (exfalso; first | (have h' := of_decide_eq_false h; omega) | (simp at h; done))
        | true =>
          rw [hbo] at hB
          repeat' ((conv => whnf); first | refine Or.inl ?_ | refine And.intro (Obl.out (?_ : Obl _)) ?_ | refine ifB_intro (fun h => ?_) (fun h => ?_) | refine ⟨k, i.tr, rfl, hi, ?_⟩ | refine ⟨k, intRow b, rfl, hb, ?_⟩ | refine call_intro (hI) (And.intro (And.intro rfl (And.intro rfl trivial)) trivial) ?_ | refine call_intro (hB) (And.intro rfl (And.intro rfl (And.intro rfl trivial))) ?_ | refine Exists.intro _ (And.intro rfl ?_) | ((with_reducible show _ = _); rfl))
          all_goals try ((with_reducible refine Obl.mk ?_); first | ((with_reducible show regOk _ _ = true); kernel_rfl) | ((with_reducible show eqTyOk _ _ = true); kernel_rfl) | rfl | exact trivial | ((repeat' (first | exact trivial | refine And.intro ?_ ?_)); done) | decide | ((repeat' (first | exact List.forall_mem_nil _ | refine List.forall_mem_cons.2 (And.intro rfl ?_))); done) | (refine And.intro ?_ ?_ <;> simp only [List.length_map, List.length_append, List.length_cons, List.length_nil] <;> omega))
          all_goals try (exfalso; first | (have h' := of_decide_eq_false h; omega) | (simp at h; done))
          conv => whnf
          refine ⟨⟨k + 1, by omega, hyes hio hbo⟩, ?_, by dsimp only; omega⟩
          repeat' ((conv => whnf); first | refine Or.inl ?_ | refine And.intro (Obl.out (?_ : Obl _)) ?_ | refine ifB_intro (fun h => ?_) (fun h => ?_) | refine Exists.intro _ (And.intro rfl ?_) | ((with_reducible show _ = _); rfl))
          all_goals try ((with_reducible refine Obl.mk ?_); first | ((with_reducible show regOk _ _ = true); kernel_rfl) | ((with_reducible show eqTyOk _ _ = true); kernel_rfl) | rfl | exact trivial | ((repeat' (first | exact trivial | refine And.intro ?_ ?_)); done) | decide | ((repeat' (first | exact List.forall_mem_nil _ | refine List.forall_mem_cons.2 (And.intro rfl ?_))); done) | (refine And.intro ?_ ?_ <;> simp only [List.length_map, List.length_append, List.length_cons, List.length_nil] <;> omega))
          all_goals exact ⟨by dsimp only; rw [IntWalk.i64_in _ (by omega)]; rfl⟩
    · have hk2' : k = 2 := by omega
      subst hk2'
      obtain ⟨g0, w0⟩ := hk1 (by omega)
      obtain ⟨g1, w1⟩ := hk2 (by omega)
      have v0 := within_iff.1 w0
      have v1 := within_iff.1 w1
      rw [g0, g1, w0, w1, Bool.true_and, Bool.true_and, Bool.true_and, Bool.true_and] at hR
      have x0 : IntKind.i64.wrap (b1 + (i1.fCode.length : Int)) = b1 + i1.fCode.length := IntWalk.i64_in _ (by omega)
      have x1 : IntKind.i64.wrap (b0 + (i0.fCode.length : Int)) = b0 + i0.fCode.length := IntWalk.i64_in _ (by omega)
      cases ho : overlap i0 i1 b0 b1 with
      | true =>
        rw [ho] at hR
        rw [overlap, Bool.and_eq_true, Bool.and_eq_true, Bool.and_eq_true, decide_eq_true_eq, decide_eq_true_eq, decide_eq_true_eq, decide_eq_true_eq] at ho
        obtain ⟨o1, o2, o3, o4⟩ := ho
        subst hR
        repeat' ((conv => whnf); first | refine Or.inl ?_ | refine And.intro (Obl.out (?_ : Obl _)) ?_ | refine ifB_intro (fun h => ?_) (fun h => ?_) | refine ⟨0, _, rfl, rfl, ?_⟩ | refine ⟨1, _, rfl, rfl, ?_⟩ | refine Exists.intro _ (And.intro rfl ?_) | ((with_reducible show _ = _); rfl))
        all_goals try ((with_reducible refine Obl.mk ?_); first | ((with_reducible show regOk _ _ = true); kernel_rfl) | ((with_reducible show eqTyOk _ _ = true); kernel_rfl) | rfl | exact trivial | ((repeat' (first | exact trivial | refine And.intro ?_ ?_)); done) | decide | ((repeat' (first | exact List.forall_mem_nil _ | refine List.forall_mem_cons.2 (And.intro rfl ?_))); done) | (refine And.intro ?_ ?_ <;> simp only [List.length_map, List.length_append, List.length_cons, List.length_nil] <;> omega))
        all_goals (exfalso; first | (have h' := of_decide_eq_false h; (try rw [x0] at h'); (try rw [x1] at h'); omega) | (have h' := of_decide_eq_true h; omega))
      | false =>
        rw [ho, Bool.not_false, Bool.true_and] at hR
        have hno : ¬ (0 < i0.fCode.length ∧ 0 < i1.fCode.length ∧ b0 < b1 + i1.fCode.length ∧ b1 < b0 + i0.fCode.length) := by
          intro ⟨a, b, c, d⟩
          rw [overlap, decide_eq_true a, decide_eq_true b, decide_eq_true c, decide_eq_true d] at ho
          cases ho
        have m0 := imgOkF_mem (imageOk_iff.1 g0).2 (by omega)
        have m1 := imgOkF_mem (imageOk_iff.1 g1).2 (by omega)
        have l0 := (imageOk_iff.1 g0).1
        have l1 := (imageOk_iff.1 g1).1
        repeat' ((conv => whnf); first | refine Or.inl ?_ | refine And.intro (Obl.out (?_ : Obl _)) ?_ | refine ifB_intro (fun h => ?_) (fun h => ?_) | refine ⟨0, _, rfl, rfl, ?_⟩ | refine ⟨1, _, rfl, rfl, ?_⟩ | refine Exists.intro _ (And.intro rfl ?_) | ((with_reducible show _ = _); rfl))
        all_goals try ((with_reducible refine Obl.mk ?_); first | ((with_reducible show regOk _ _ = true); kernel_rfl) | ((with_reducible show eqTyOk _ _ = true); kernel_rfl) | rfl | exact trivial | ((repeat' (first | exact trivial | refine And.intro ?_ ?_)); done) | decide | ((repeat' (first | exact List.forall_mem_nil _ | refine List.forall_mem_cons.2 (And.intro rfl ?_))); done) | (refine And.intro ?_ ?_ <;> simp only [List.length_map, List.length_append, List.length_cons, List.length_nil] <;> omega))
        all_goals try (
          exfalso
          rename_i a1 a2 a3
          have c1 := of_decide_eq_true a1
          have c2 := of_decide_eq_true a2
          have c3 := of_decide_eq_true a3
          have c4 := of_decide_eq_true h
          rw [x0] at c3
          rw [x1] at c4
          exact hno ⟨by omega, by omega, c3, c4⟩)
        all_goals (
          conv => whnf
          refine ⟨{ j : Nat // j ≤ es.length ∧ ((es.drop j).all fun e => entryIn i0 b0 e || entryIn i1 b1 e) = R }, fun j => ⟨[(1, .r (.c (.ptr (1, 0, 0) 0))), (6, tI .i64 (j.1 : Int))], [((1, 0, 0), some (.box (spBox i0 i1 b0 b1 es)))], [1]⟩, fun j => es.length - j.1, ⟨0, by omega, hR⟩, ?_, ?_⟩
          · skip
            repeat' ((conv => whnf); first | refine Or.inl ?_ | refine And.intro (Obl.out (?_ : Obl _)) ?_ | refine ifB_intro (fun h => ?_) (fun h => ?_) | refine Exists.intro _ (And.intro rfl ?_) | ((with_reducible show _ = _); rfl))
            all_goals try ((with_reducible refine Obl.mk ?_); first | ((with_reducible show regOk _ _ = true); kernel_rfl) | ((with_reducible show eqTyOk _ _ = true); kernel_rfl) | rfl | exact trivial | ((repeat' (first | exact trivial | refine And.intro ?_ ?_)); done) | decide | ((repeat' (first | exact List.forall_mem_nil _ | refine List.forall_mem_cons.2 (And.intro rfl ?_))); done) | (refine And.intro ?_ ?_ <;> simp only [List.length_map, List.length_append, List.length_cons, List.length_nil] <;> omega))
          intro ⟨j, hj, hr⟩
          dsimp only
          by_cases hjl : j < es.length
          · obtain ⟨e, he⟩ := get_of_lt hjl
            have hLoc := s_spec_l10Locate i0 i1 b0 b1 e es (by omega) (by omega) hc0 hc1
            rw [drop_at he, List.all_cons, ← entry_same g0 g1 ho, entryS] at hr
            by_cases c0 : b0 ≤ e ∧ e < b0 + i0.fCode.length
            · have hl2 : loc2 i0 i1 b0 b1 e = (0, e - b0) := by rw [loc2, if_pos c0]
              rw [hl2] at hLoc hr
              rw [if_pos rfl] at hr
              have hS := s_spec_SymbolAt i0 (e - b0) hsy0
              have hrg := symbolAt_range i0.fSymbols (e - b0)
              dsimp only at hr
              rw [startAt] at hr
              generalize symbolAt i0.fSymbols (e - b0) = K at *
              rcases hrg with rfl | ⟨q0, q1⟩
              · rw [show decide ((0 : Int) ≤ -1) = false from rfl, Bool.false_and, Bool.false_and] at hr
                subst hr
                repeat' ((conv => whnf); first | refine Or.inl ?_ | refine And.intro (Obl.out (?_ : Obl _)) ?_ | refine ifB_intro (fun h => ?_) (fun h => ?_) | refine ⟨j, intRow e, rfl, map_get he, ?_⟩ | refine call_intro (hLoc) (And.intro (And.intro rfl (And.intro rfl (And.intro rfl trivial))) (And.intro rfl trivial)) ?_ | refine ⟨0, i0.tr, rfl, rfl, ?_⟩ | refine call_intro (hS) (And.intro (And.intro rfl (And.intro rfl trivial)) (And.intro rfl trivial)) ?_ | refine Exists.intro _ (And.intro rfl ?_) | ((with_reducible show _ = _); rfl))
                all_goals try ((with_reducible refine Obl.mk ?_); first | ((with_reducible show regOk _ _ = true); kernel_rfl) | ((with_reducible show eqTyOk _ _ = true); kernel_rfl) | rfl | exact trivial | ((repeat' (first | exact trivial | refine And.intro ?_ ?_)); done) | decide | ((repeat' (first | exact List.forall_mem_nil _ | refine List.forall_mem_cons.2 (And.intro rfl ?_))); done) | (refine And.intro ?_ ?_ <;> simp only [List.length_map, List.length_append, List.length_cons, List.length_nil] <;> omega))
                all_goals (exfalso; first | (have h' := of_decide_eq_false h; rw [hlen] at h'; omega) | (simp at h; done) | (have h' := of_decide_eq_true h; omega))
              · obtain ⟨n, rfl⟩ := Int.eq_ofNat_of_zero_le q0
                obtain ⟨x, hx⟩ := get_of_lt (l := i0.fSymbols) (k := n) (by omega)
                rw [Int.toNat_natCast, hx, decide_eq_true q0, Bool.true_and] at hr
                dsimp only at hr
                cases hxe : (x.fStart == e - b0) with
                | false =>
                  rw [hxe, Bool.false_and] at hr
                  subst hr
                  repeat' ((conv => whnf); first | refine Or.inl ?_ | refine And.intro (Obl.out (?_ : Obl _)) ?_ | refine ifB_intro (fun h => ?_) (fun h => ?_) | refine ⟨j, intRow e, rfl, map_get he, ?_⟩ | refine call_intro (hLoc) (And.intro (And.intro rfl (And.intro rfl (And.intro rfl trivial))) (And.intro rfl trivial)) ?_ | refine ⟨0, i0.tr, rfl, rfl, ?_⟩ | refine call_intro (hS) (And.intro (And.intro rfl (And.intro rfl trivial)) (And.intro rfl trivial)) ?_ | refine ⟨n, x.tr, rfl, map_get hx, ?_⟩ | refine Exists.intro _ (And.intro rfl ?_) | ((with_reducible show _ = _); rfl))
                  all_goals try ((with_reducible refine Obl.mk ?_); first | ((with_reducible show regOk _ _ = true); kernel_rfl) | ((with_reducible show eqTyOk _ _ = true); kernel_rfl) | rfl | exact trivial | ((repeat' (first | exact trivial | refine And.intro ?_ ?_)); done) | decide | ((repeat' (first | exact List.forall_mem_nil _ | refine List.forall_mem_cons.2 (And.intro rfl ?_))); done) | (refine And.intro ?_ ?_ <;> simp only [List.length_map, List.length_append, List.length_cons, List.length_nil] <;> omega))
                  all_goals (exfalso; first | (have h' := of_decide_eq_false h; rw [hlen] at h'; omega) | (have h' := of_decide_eq_true h; omega) | (simp only [bne, hxe] at h; simp at h; done))
                | true =>
                  rw [hxe, Bool.true_and] at hr
                  repeat' ((conv => whnf); first | refine Or.inl ?_ | refine And.intro (Obl.out (?_ : Obl _)) ?_ | refine ifB_intro (fun h => ?_) (fun h => ?_) | refine ⟨j, intRow e, rfl, map_get he, ?_⟩ | refine call_intro (hLoc) (And.intro (And.intro rfl (And.intro rfl (And.intro rfl trivial))) (And.intro rfl trivial)) ?_ | refine ⟨0, i0.tr, rfl, rfl, ?_⟩ | refine call_intro (hS) (And.intro (And.intro rfl (And.intro rfl trivial)) (And.intro rfl trivial)) ?_ | refine ⟨n, x.tr, rfl, map_get hx, ?_⟩ | refine Exists.intro _ (And.intro rfl ?_) | ((with_reducible show _ = _); rfl))
                  all_goals try ((with_reducible refine Obl.mk ?_); first | ((with_reducible show regOk _ _ = true); kernel_rfl) | ((with_reducible show eqTyOk _ _ = true); kernel_rfl) | rfl | exact trivial | ((repeat' (first | exact trivial | refine And.intro ?_ ?_)); done) | decide | ((repeat' (first | exact List.forall_mem_nil _ | refine List.forall_mem_cons.2 (And.intro rfl ?_))); done) | (refine And.intro ?_ ?_ <;> simp only [List.length_map, List.length_append, List.length_cons, List.length_nil] <;> omega))
                  all_goals try (exfalso; first | (have h' := of_decide_eq_false h; rw [hlen] at h'; omega) | (have h' := of_decide_eq_true h; omega) | (simp only [bne, hxe] at h; simp at h; done))
                  conv => whnf
                  refine ⟨⟨j + 1, by omega, hr⟩, ?_, by dsimp only; omega⟩
                  repeat' ((conv => whnf); first | refine Or.inl ?_ | refine And.intro (Obl.out (?_ : Obl _)) ?_ | refine ifB_intro (fun h => ?_) (fun h => ?_) | refine Exists.intro _ (And.intro rfl ?_) | ((with_reducible show _ = _); rfl))
                  all_goals try ((with_reducible refine Obl.mk ?_); first | ((with_reducible show regOk _ _ = true); kernel_rfl) | ((with_reducible show eqTyOk _ _ = true); kernel_rfl) | rfl | exact trivial | ((repeat' (first | exact trivial | refine And.intro ?_ ?_)); done) | decide | ((repeat' (first | exact List.forall_mem_nil _ | refine List.forall_mem_cons.2 (And.intro rfl ?_))); done) | (refine And.intro ?_ ?_ <;> simp only [List.length_map, List.length_append, List.length_cons, List.length_nil] <;> omega))
                  all_goals exact ⟨by dsimp only; rw [IntWalk.i64_in _ (by omega)]; rfl⟩
            · by_cases c1 : b1 ≤ e ∧ e < b1 + i1.fCode.length
              · have hl2 : loc2 i0 i1 b0 b1 e = (1, e - b1) := by rw [loc2, if_neg c0, if_pos c1]
                rw [hl2] at hLoc hr
                rw [if_neg (by simp), if_pos rfl] at hr
                have hS := s_spec_SymbolAt i1 (e - b1) hsy1
                have hrg := symbolAt_range i1.fSymbols (e - b1)
                dsimp only at hr
                rw [startAt] at hr
                generalize symbolAt i1.fSymbols (e - b1) = K at *
                rcases hrg with rfl | ⟨q0, q1⟩
                · rw [show decide ((0 : Int) ≤ -1) = false from rfl, Bool.false_and, Bool.false_and] at hr
                  subst hr
                  repeat' ((conv => whnf); first | refine Or.inl ?_ | refine And.intro (Obl.out (?_ : Obl _)) ?_ | refine ifB_intro (fun h => ?_) (fun h => ?_) | refine ⟨j, intRow e, rfl, map_get he, ?_⟩ | refine call_intro (hLoc) (And.intro (And.intro rfl (And.intro rfl (And.intro rfl trivial))) (And.intro rfl trivial)) ?_ | refine ⟨1, i1.tr, rfl, rfl, ?_⟩ | refine call_intro (hS) (And.intro (And.intro rfl (And.intro rfl trivial)) (And.intro rfl trivial)) ?_ | refine Exists.intro _ (And.intro rfl ?_) | ((with_reducible show _ = _); rfl))
                  all_goals try ((with_reducible refine Obl.mk ?_); first | ((with_reducible show regOk _ _ = true); kernel_rfl) | ((with_reducible show eqTyOk _ _ = true); kernel_rfl) | rfl | exact trivial | ((repeat' (first | exact trivial | refine And.intro ?_ ?_)); done) | decide | ((repeat' (first | exact List.forall_mem_nil _ | refine List.forall_mem_cons.2 (And.intro rfl ?_))); done) | (refine And.intro ?_ ?_ <;> simp only [List.length_map, List.length_append, List.length_cons, List.length_nil] <;> omega))
                  all_goals (exfalso; first | (have h' := of_decide_eq_false h; rw [hlen] at h'; omega) | (simp at h; done) | (have h' := of_decide_eq_true h; omega))
                · obtain ⟨n, rfl⟩ := Int.eq_ofNat_of_zero_le q0
                  obtain ⟨x, hx⟩ := get_of_lt (l := i1.fSymbols) (k := n) (by omega)
                  rw [Int.toNat_natCast, hx, decide_eq_true q0, Bool.true_and] at hr
                  dsimp only at hr
                  cases hxe : (x.fStart == e - b1) with
                  | false =>
                    rw [hxe, Bool.false_and] at hr
                    subst hr
                    repeat' ((conv => whnf); first | refine Or.inl ?_ | refine And.intro (Obl.out (?_ : Obl _)) ?_ | refine ifB_intro (fun h => ?_) (fun h => ?_) | refine ⟨j, intRow e, rfl, map_get he, ?_⟩ | refine call_intro (hLoc) (And.intro (And.intro rfl (And.intro rfl (And.intro rfl trivial))) (And.intro rfl trivial)) ?_ | refine ⟨1, i1.tr, rfl, rfl, ?_⟩ | refine call_intro (hS) (And.intro (And.intro rfl (And.intro rfl trivial)) (And.intro rfl trivial)) ?_ | refine ⟨n, x.tr, rfl, map_get hx, ?_⟩ | refine Exists.intro _ (And.intro rfl ?_) | ((with_reducible show _ = _); rfl))
                    all_goals try ((with_reducible refine Obl.mk ?_); first | ((with_reducible show regOk _ _ = true); kernel_rfl) | ((with_reducible show eqTyOk _ _ = true); kernel_rfl) | rfl | exact trivial | ((repeat' (first | exact trivial | refine And.intro ?_ ?_)); done) | decide | ((repeat' (first | exact List.forall_mem_nil _ | refine List.forall_mem_cons.2 (And.intro rfl ?_))); done) | (refine And.intro ?_ ?_ <;> simp only [List.length_map, List.length_append, List.length_cons, List.length_nil] <;> omega))
                    all_goals (exfalso; first | (have h' := of_decide_eq_false h; rw [hlen] at h'; omega) | (have h' := of_decide_eq_true h; omega) | (simp only [bne, hxe] at h; simp at h; done))
                  | true =>
                    rw [hxe, Bool.true_and] at hr
                    repeat' ((conv => whnf); first | refine Or.inl ?_ | refine And.intro (Obl.out (?_ : Obl _)) ?_ | refine ifB_intro (fun h => ?_) (fun h => ?_) | refine ⟨j, intRow e, rfl, map_get he, ?_⟩ | refine call_intro (hLoc) (And.intro (And.intro rfl (And.intro rfl (And.intro rfl trivial))) (And.intro rfl trivial)) ?_ | refine ⟨1, i1.tr, rfl, rfl, ?_⟩ | refine call_intro (hS) (And.intro (And.intro rfl (And.intro rfl trivial)) (And.intro rfl trivial)) ?_ | refine ⟨n, x.tr, rfl, map_get hx, ?_⟩ | refine Exists.intro _ (And.intro rfl ?_) | ((with_reducible show _ = _); rfl))
                    all_goals try ((with_reducible refine Obl.mk ?_); first | ((with_reducible show regOk _ _ = true); kernel_rfl) | ((with_reducible show eqTyOk _ _ = true); kernel_rfl) | rfl | exact trivial | ((repeat' (first | exact trivial | refine And.intro ?_ ?_)); done) | decide | ((repeat' (first | exact List.forall_mem_nil _ | refine List.forall_mem_cons.2 (And.intro rfl ?_))); done) | (refine And.intro ?_ ?_ <;> simp only [List.length_map, List.length_append, List.length_cons, List.length_nil] <;> omega))
                    all_goals try (exfalso; first | (have h' := of_decide_eq_false h; rw [hlen] at h'; omega) | (have h' := of_decide_eq_true h; omega) | (simp only [bne, hxe] at h; simp at h; done))
                    conv => whnf
                    refine ⟨⟨j + 1, by omega, hr⟩, ?_, by dsimp only; omega⟩
                    repeat' ((conv => whnf); first | refine Or.inl ?_ | refine And.intro (Obl.out (?_ : Obl _)) ?_ | refine ifB_intro (fun h => ?_) (fun h => ?_) | refine Exists.intro _ (And.intro rfl ?_) | ((with_reducible show _ = _); rfl))
                    all_goals try ((with_reducible refine Obl.mk ?_); first | ((with_reducible show regOk _ _ = true); kernel_rfl) | ((with_reducible show eqTyOk _ _ = true); kernel_rfl) | rfl | exact trivial | ((repeat' (first | exact trivial | refine And.intro ?_ ?_)); done) | decide | ((repeat' (first | exact List.forall_mem_nil _ | refine List.forall_mem_cons.2 (And.intro rfl ?_))); done) | (refine And.intro ?_ ?_ <;> simp only [List.length_map, List.length_append, List.length_cons, List.length_nil] <;> omega))
                    all_goals exact ⟨by dsimp only; rw [IntWalk.i64_in _ (by omega)]; rfl⟩
              · have hl2 : loc2 i0 i1 b0 b1 e = (-1, -1) := by rw [loc2, if_neg c0, if_neg c1]
                rw [hl2] at hLoc hr
                rw [if_neg (by simp), if_neg (by simp), Bool.false_and] at hr
                subst hr
                repeat' ((conv => whnf); first | refine Or.inl ?_ | refine And.intro (Obl.out (?_ : Obl _)) ?_ | refine ifB_intro (fun h => ?_) (fun h => ?_) | refine ⟨j, intRow e, rfl, map_get he, ?_⟩ | refine call_intro (hLoc) (And.intro (And.intro rfl (And.intro rfl (And.intro rfl trivial))) (And.intro rfl trivial)) ?_ | refine Exists.intro _ (And.intro rfl ?_) | ((with_reducible show _ = _); rfl))
                all_goals try ((with_reducible refine Obl.mk ?_); first | ((with_reducible show regOk _ _ = true); kernel_rfl) | ((with_reducible show eqTyOk _ _ = true); kernel_rfl) | rfl | exact trivial | ((repeat' (first | exact trivial | refine And.intro ?_ ?_)); done) | decide | ((repeat' (first | exact List.forall_mem_nil _ | refine List.forall_mem_cons.2 (And.intro rfl ?_))); done) | (refine And.intro ?_ ?_ <;> simp only [List.length_map, List.length_append, List.length_cons, List.length_nil] <;> omega))
                all_goals (exfalso; first | (have h' := of_decide_eq_false h; rw [hlen] at h'; omega) | (simp at h; done))
          · have hge : es.length ≤ j := by omega
            rw [List.drop_eq_nil_of_le hge, List.all_nil] at hr
            subst hr
            repeat' ((conv => whnf); first | refine Or.inl ?_ | refine And.intro (Obl.out (?_ : Obl _)) ?_ | refine ifB_intro (fun h => ?_) (fun h => ?_) | refine Exists.intro _ (And.intro rfl ?_) | ((with_reducible show _ = _); rfl))
            all_goals try ((with_reducible refine Obl.mk ?_); first | ((with_reducible show regOk _ _ = true); kernel_rfl) | ((with_reducible show eqTyOk _ _ = true); kernel_rfl) | rfl | exact trivial | ((repeat' (first | exact trivial | refine And.intro ?_ ?_)); done) | decide | ((repeat' (first | exact List.forall_mem_nil _ | refine List.forall_mem_cons.2 (And.intro rfl ?_))); done) | (refine And.intro ?_ ?_ <;> simp only [List.length_map, List.length_append, List.length_cons, List.length_nil] <;> omega))
            all_goals (exfalso; have h' := of_decide_eq_true h; rw [hlen] at h'; omega))
theorem s_spec_SpaceOk (s : TSpace) (hs : smallR 1048576 s.tr) : Sim.Spec Try.prog 67 [.agg s.tr] (rB (spaceOk s)) := by
  rcases space_shape (s := s) with ⟨i0, i1, b0, b1, h⟩ | ⟨h, hn⟩
  · rw [h] at hs ⊢
    exact s_spec_SpaceOk2 i0 i1 b0 b1 s.fEntries hs
  · rw [h]
    have l1 : (s.fImages.map TImage.tr).length = s.fImages.length := by simp
    have l2 : (s.fBases.map intRow).length = s.fBases.length := by simp
    refine spec_of_W hΓ hmix Try.func67 rfl (by decide) rfl ?_
    repeat' ((conv => whnf); first | refine Or.inl ?_ | refine And.intro (Obl.out (?_ : Obl _)) ?_ | refine ifB_intro (fun h => ?_) (fun h => ?_) | refine call_intro (s_spec_l01In _ _ _) (And.intro rfl (And.intro rfl (And.intro rfl trivial))) ?_ | refine Exists.intro _ (And.intro rfl ?_) | ((with_reducible show _ = _); rfl))
    all_goals try ((with_reducible refine Obl.mk ?_); first | ((with_reducible show regOk _ _ = true); kernel_rfl) | ((with_reducible show eqTyOk _ _ = true); kernel_rfl) | rfl | exact trivial | ((repeat' (first | exact trivial | refine And.intro ?_ ?_)); done) | decide | ((repeat' (first | exact List.forall_mem_nil _ | refine List.forall_mem_cons.2 (And.intro rfl ?_))); done) | (refine And.intro ?_ ?_ <;> simp only [List.length_map, List.length_append, List.length_cons, List.length_nil] <;> omega))
    all_goals (exfalso; apply hn; (simp_all) <;> (constructor <;> omega))
end Go.Proofs.Ytehniaekfijmiaa
