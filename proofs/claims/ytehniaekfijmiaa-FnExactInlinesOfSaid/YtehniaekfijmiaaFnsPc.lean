/- Ends, elses, functions and locals in both texts. -/
import Derived.Test.YtehniaekfijmiaaFnsPb
import Derived.Test.YtehniaekfijmiaaPlA
namespace Go.Proofs.Ytehniaekfijmiaa
open Go.Sim
set_option maxRecDepth 100000
set_option maxHeartbeats 4000000
abbrev tvP (l : List TLine) : TV := tvL 4 (l.map TLine.tr)
abbrev vP (l : List TLine) : AV := .r (.c (.t (.lst 4 (l.map TLine.tr))))
theorem s_impl_opens (k : Int) : Sim.Spec Try.prog 211 [tvI k] (rB (opensK k)) := by
  refine spec_of_W hΓ hmix Try.func211 rfl (by decide) rfl ?_
  unfold opensK
  repeat' ((conv => whnf); first | refine Or.inl ?_ | refine And.intro (Obl.out (?_ : Obl _)) ?_ | refine ifB_intro (fun h => ?_) (fun h => ?_) | refine Exists.intro _ (And.intro rfl ?_) | ((with_reducible show _ = _); rfl))
  all_goals try ((with_reducible refine Obl.mk ?_); first | ((with_reducible show regOk _ _ = true); kernel_rfl) | rfl | exact trivial | ((repeat' (first | exact trivial | refine And.intro ?_ ?_)); done) | decide | ((repeat' (first | exact List.forall_mem_nil _ | refine List.forall_mem_cons.2 (And.intro rfl ?_))); done) | (refine And.intro ?_ ?_ <;> simp only [List.length_map, List.length_append, List.length_cons, List.length_nil] <;> omega))
  all_goals (refine ⟨congrArg Tr.bool ?_⟩; simp_all; (try (rw [Bool.eq_iff_iff]; simp; omega)))
theorem s_spec_l04Opens (k : Int) : Sim.Spec Try.prog 184 [tvI k] (rB (opensK k)) := by
  refine spec_of_W hΓ hmix Try.func184 rfl (by decide) rfl ?_
  unfold opensK
  repeat' ((conv => whnf); first | refine Or.inl ?_ | refine And.intro (Obl.out (?_ : Obl _)) ?_ | refine ifB_intro (fun h => ?_) (fun h => ?_) | refine Exists.intro _ (And.intro rfl ?_) | ((with_reducible show _ = _); rfl))
  all_goals try ((with_reducible refine Obl.mk ?_); first | ((with_reducible show regOk _ _ = true); kernel_rfl) | rfl | exact trivial | ((repeat' (first | exact trivial | refine And.intro ?_ ?_)); done) | decide | ((repeat' (first | exact List.forall_mem_nil _ | refine List.forall_mem_cons.2 (And.intro rfl ?_))); done) | (refine And.intro ?_ ?_ <;> simp only [List.length_map, List.length_append, List.length_cons, List.length_nil] <;> omega))
  all_goals (refine ⟨congrArg Tr.bool ?_⟩; simp_all; (try (rw [Bool.eq_iff_iff]; simp; omega)))
abbrev EndsIx (l : List TLine) (k : Nat) (R : Int) := { q : Nat × Nat // q.1 ≤ l.length ∧ q.2 ≤ q.1 ∧ (q.2 = 0 → q.1 = k) ∧ endI (endN (l.drop q.1) q.1 q.2) = R }
theorem endN_start {l : List TLine} {k : Nat} {x : TLine} (hx : l[k]? = some x) (ho : opensK x.fKind = true) : endN (l.drop k) k 0 = endAt l k := by
  rw [endN_at hx, if_pos ho, endAt_of hx ho]
theorem s_impl_EndOf (l : List TLine) (k : Int) (hl : l.length ≤ 1048576) : Sim.Spec Try.prog 152 [tvP l, tvI k] (rI (endOf l k)) := by
  refine spec_of_W hΓ hmix Try.func152 rfl (by decide) rfl ?_
  have hlen : (l.map TLine.tr).length = l.length := by simp
  by_cases hin : 0 ≤ k ∧ k < l.length
  · obtain ⟨h0, h1⟩ := hin
    obtain ⟨k, rfl⟩ := Int.eq_ofNat_of_zero_le h0
    obtain ⟨x, hx⟩ := get_of_lt (l := l) (k := k) (by omega)
    have hO := s_impl_opens x.fKind
    have hw : IntKind.i64.wrap (((l.map TLine.tr).length : Int) - 1) = (l.length : Int) - 1 := by rw [IntWalk.i64_in _ (by omega)]; omega
    have hb := s_impl_between (k : Int) 0 (IntKind.i64.wrap (((l.map TLine.tr).length : Int) - 1))
    rw [within_iff.2 ⟨h0, by rw [hw]; omega⟩] at hb
    cases ho : opensK x.fKind with
    | false =>
      rw [ho] at hO
      have : endOf l (k : Int) = -1 := by rw [endOf_at, endAt, hx]; dsimp only; rw [if_neg (by simp [ho])]; rfl
      rw [this]
      repeat' ((conv => whnf); first | refine Or.inl ?_ | refine And.intro (Obl.out (?_ : Obl _)) ?_ | refine ifB_intro (fun h => ?_) (fun h => ?_) | refine call_intro (hb) (And.intro rfl (And.intro rfl (And.intro rfl trivial))) ?_ | refine ⟨k, x.tr, rfl, map_get hx, ?_⟩ | refine call_intro (hO) (And.intro rfl trivial) ?_ | refine Exists.intro _ (And.intro rfl ?_) | ((with_reducible show _ = _); rfl))
      all_goals try ((with_reducible refine Obl.mk ?_); first | ((with_reducible show regOk _ _ = true); kernel_rfl) | rfl | exact trivial | ((repeat' (first | exact trivial | refine And.intro ?_ ?_)); done) | decide | ((repeat' (first | exact List.forall_mem_nil _ | refine List.forall_mem_cons.2 (And.intro rfl ?_))); done) | (refine And.intro ?_ ?_ <;> simp only [List.length_map, List.length_append, List.length_cons, List.length_nil] <;> omega))
      all_goals try (exfalso; simp only [decide_eq_false_iff_not, decide_eq_true_eq] at *; omega)
    | true =>
      rw [ho] at hO
      obtain ⟨R, hR⟩ : ∃ R, endOf l (k : Int) = R := ⟨_, rfl⟩
      rw [hR]
      rw [endOf_at, ← endN_start hx ho] at hR
      repeat' ((conv => whnf); first | refine Or.inl ?_ | refine And.intro (Obl.out (?_ : Obl _)) ?_ | refine ifB_intro (fun h => ?_) (fun h => ?_) | refine call_intro (hb) (And.intro rfl (And.intro rfl (And.intro rfl trivial))) ?_ | refine ⟨k, x.tr, rfl, map_get hx, ?_⟩ | refine call_intro (hO) (And.intro rfl trivial) ?_ | refine Exists.intro _ (And.intro rfl ?_) | ((with_reducible show _ = _); rfl))
      all_goals try ((with_reducible refine Obl.mk ?_); first | ((with_reducible show regOk _ _ = true); kernel_rfl) | rfl | exact trivial | ((repeat' (first | exact trivial | refine And.intro ?_ ?_)); done) | decide | ((repeat' (first | exact List.forall_mem_nil _ | refine List.forall_mem_cons.2 (And.intro rfl ?_))); done) | (refine And.intro ?_ ?_ <;> simp only [List.length_map, List.length_append, List.length_cons, List.length_nil] <;> omega))
      all_goals try (exfalso; simp only [decide_eq_false_iff_not, decide_eq_true_eq] at *; omega)
      conv => whnf
      refine ⟨EndsIx l k R, fun q => ⟨[(0, vP l), (5, tI .i64 (q.1.2 : Int)), (6, tI .i64 (q.1.1 : Int))], [], []⟩, fun q => l.length - q.1.1, ⟨(k, 0), by dsimp only; omega, by omega, fun _ => rfl, hR⟩, ?_, ?_⟩
      · skip
        repeat' ((conv => whnf); first | refine Or.inl ?_ | refine And.intro (Obl.out (?_ : Obl _)) ?_ | refine ifB_intro (fun h => ?_) (fun h => ?_) | refine Exists.intro _ (And.intro rfl ?_) | ((with_reducible show _ = _); rfl))
        all_goals try ((with_reducible refine Obl.mk ?_); first | ((with_reducible show regOk _ _ = true); kernel_rfl) | rfl | exact trivial | ((repeat' (first | exact trivial | refine And.intro ?_ ?_)); done) | decide | ((repeat' (first | exact List.forall_mem_nil _ | refine List.forall_mem_cons.2 (And.intro rfl ?_))); done) | (refine And.intro ?_ ?_ <;> simp only [List.length_map, List.length_append, List.length_cons, List.length_nil] <;> omega))
      intro ⟨⟨i, o⟩, hi, hoi, hs, hr⟩
      dsimp only at hi hoi hs hr ⊢
      by_cases hlt : i < l.length
      · obtain ⟨y, hy⟩ := get_of_lt hlt
        have hO2 := s_impl_opens y.fKind
        rw [endN_at hy] at hr
        cases hoy : opensK y.fKind with
        | true =>
          rw [hoy] at hO2
          rw [if_pos hoy] at hr
          have h7 : y.fKind ≠ 7 := by rw [opensK_iff] at hoy; omega
          repeat' ((conv => whnf); first | refine Or.inl ?_ | refine And.intro (Obl.out (?_ : Obl _)) ?_ | refine ifB_intro (fun h => ?_) (fun h => ?_) | refine ⟨i, y.tr, rfl, map_get hy, ?_⟩ | refine call_intro (hO2) (And.intro rfl trivial) ?_ | refine Exists.intro _ (And.intro rfl ?_) | ((with_reducible show _ = _); rfl))
          all_goals try ((with_reducible refine Obl.mk ?_); first | ((with_reducible show regOk _ _ = true); kernel_rfl) | rfl | exact trivial | ((repeat' (first | exact trivial | refine And.intro ?_ ?_)); done) | decide | ((repeat' (first | exact List.forall_mem_nil _ | refine List.forall_mem_cons.2 (And.intro rfl ?_))); done) | (refine And.intro ?_ ?_ <;> simp only [List.length_map, List.length_append, List.length_cons, List.length_nil] <;> omega))
          all_goals try (exfalso; simp only [decide_eq_false_iff_not, decide_eq_true_eq] at *; omega)
          all_goals try (exfalso; (try simp_all [within]); (try omega); done)
          all_goals try (exfalso; simp (disch := omega) only [IntWalk.i64_in] at *; simp only [beq_iff_eq] at *; omega)
          conv => whnf
          refine ⟨⟨(i + 1, o + 1), by dsimp only; omega, by dsimp only; omega, fun h => by omega, hr⟩, ?_, by dsimp only; omega⟩
          repeat' ((conv => whnf); first | refine Or.inl ?_ | refine And.intro (Obl.out (?_ : Obl _)) ?_ | refine ifB_intro (fun h => ?_) (fun h => ?_) | refine Exists.intro _ (And.intro rfl ?_) | ((with_reducible show _ = _); rfl))
          all_goals try ((with_reducible refine Obl.mk ?_); first | ((with_reducible show regOk _ _ = true); kernel_rfl) | rfl | exact trivial | ((repeat' (first | exact trivial | refine And.intro ?_ ?_)); done) | decide | ((repeat' (first | exact List.forall_mem_nil _ | refine List.forall_mem_cons.2 (And.intro rfl ?_))); done) | (refine And.intro ?_ ?_ <;> simp only [List.length_map, List.length_append, List.length_cons, List.length_nil] <;> omega))
          all_goals try exact ⟨by dsimp only; rw [IntWalk.i64_in _ (by omega)]; rfl⟩
          all_goals exact ⟨by dsimp only; rw [IntWalk.i64_in _ (by omega)]; rfl⟩
        | false =>
          rw [hoy] at hO2
          rw [if_neg (by simp [hoy])] at hr
          have hne : o ≠ 0 := fun h => by
            have := hs h
            subst this
            rw [hx] at hy
            injection hy with hy
            subst hy
            rw [ho] at hoy
            cases hoy
          by_cases h7 : y.fKind = 7
          · rw [if_pos h7] at hr
            by_cases h1 : o = 1
            · rw [if_pos h1] at hr
              subst hr
              subst h1
              repeat' ((conv => whnf); first | refine Or.inl ?_ | refine And.intro (Obl.out (?_ : Obl _)) ?_ | refine ifB_intro (fun h => ?_) (fun h => ?_) | refine ⟨i, y.tr, rfl, map_get hy, ?_⟩ | refine call_intro (hO2) (And.intro rfl trivial) ?_ | refine Exists.intro _ (And.intro rfl ?_) | ((with_reducible show _ = _); rfl))
              all_goals try ((with_reducible refine Obl.mk ?_); first | ((with_reducible show regOk _ _ = true); kernel_rfl) | rfl | exact trivial | ((repeat' (first | exact trivial | refine And.intro ?_ ?_)); done) | decide | ((repeat' (first | exact List.forall_mem_nil _ | refine List.forall_mem_cons.2 (And.intro rfl ?_))); done) | (refine And.intro ?_ ?_ <;> simp only [List.length_map, List.length_append, List.length_cons, List.length_nil] <;> omega))
              all_goals try (exfalso; simp only [decide_eq_false_iff_not, decide_eq_true_eq] at *; omega)
              all_goals try (exfalso; (try simp_all [within]); (try omega); done)
            · rw [if_neg h1] at hr
              repeat' ((conv => whnf); first | refine Or.inl ?_ | refine And.intro (Obl.out (?_ : Obl _)) ?_ | refine ifB_intro (fun h => ?_) (fun h => ?_) | refine ⟨i, y.tr, rfl, map_get hy, ?_⟩ | refine call_intro (hO2) (And.intro rfl trivial) ?_ | refine Exists.intro _ (And.intro rfl ?_) | ((with_reducible show _ = _); rfl))
              all_goals try ((with_reducible refine Obl.mk ?_); first | ((with_reducible show regOk _ _ = true); kernel_rfl) | rfl | exact trivial | ((repeat' (first | exact trivial | refine And.intro ?_ ?_)); done) | decide | ((repeat' (first | exact List.forall_mem_nil _ | refine List.forall_mem_cons.2 (And.intro rfl ?_))); done) | (refine And.intro ?_ ?_ <;> simp only [List.length_map, List.length_append, List.length_cons, List.length_nil] <;> omega))
              all_goals try (exfalso; simp only [decide_eq_false_iff_not, decide_eq_true_eq] at *; omega)
              all_goals try (exfalso; (try simp_all [within]); (try omega); done)
              all_goals try (exfalso; simp (disch := omega) only [IntWalk.i64_in] at *; simp only [beq_iff_eq] at *; omega)
              conv => whnf
              refine ⟨⟨(i + 1, o - 1), by dsimp only; omega, by dsimp only; omega, fun h => by omega, hr⟩, ?_, by dsimp only; omega⟩
              repeat' ((conv => whnf); first | refine Or.inl ?_ | refine And.intro (Obl.out (?_ : Obl _)) ?_ | refine ifB_intro (fun h => ?_) (fun h => ?_) | refine Exists.intro _ (And.intro rfl ?_) | ((with_reducible show _ = _); rfl))
              all_goals try ((with_reducible refine Obl.mk ?_); first | ((with_reducible show regOk _ _ = true); kernel_rfl) | rfl | exact trivial | ((repeat' (first | exact trivial | refine And.intro ?_ ?_)); done) | decide | ((repeat' (first | exact List.forall_mem_nil _ | refine List.forall_mem_cons.2 (And.intro rfl ?_))); done) | (refine And.intro ?_ ?_ <;> simp only [List.length_map, List.length_append, List.length_cons, List.length_nil] <;> omega))
              all_goals try exact ⟨by dsimp only; rw [IntWalk.i64_in _ (by omega)]; rfl⟩
              all_goals exact ⟨by dsimp only; congr 1; rw [IntWalk.i64_in _ (by omega)]; omega⟩
          · rw [if_neg h7] at hr
            repeat' ((conv => whnf); first | refine Or.inl ?_ | refine And.intro (Obl.out (?_ : Obl _)) ?_ | refine ifB_intro (fun h => ?_) (fun h => ?_) | refine ⟨i, y.tr, rfl, map_get hy, ?_⟩ | refine call_intro (hO2) (And.intro rfl trivial) ?_ | refine Exists.intro _ (And.intro rfl ?_) | ((with_reducible show _ = _); rfl))
            all_goals try ((with_reducible refine Obl.mk ?_); first | ((with_reducible show regOk _ _ = true); kernel_rfl) | rfl | exact trivial | ((repeat' (first | exact trivial | refine And.intro ?_ ?_)); done) | decide | ((repeat' (first | exact List.forall_mem_nil _ | refine List.forall_mem_cons.2 (And.intro rfl ?_))); done) | (refine And.intro ?_ ?_ <;> simp only [List.length_map, List.length_append, List.length_cons, List.length_nil] <;> omega))
            all_goals try (exfalso; simp only [decide_eq_false_iff_not, decide_eq_true_eq] at *; omega)
            all_goals try (exfalso; (try simp_all [within]); (try omega); done)
            all_goals try (exfalso; simp only [beq_iff_eq] at *; omega)
            conv => whnf
            refine ⟨⟨(i + 1, o), by dsimp only; omega, by dsimp only; omega, fun h => by omega, hr⟩, ?_, by dsimp only; omega⟩
            repeat' ((conv => whnf); first | refine Or.inl ?_ | refine And.intro (Obl.out (?_ : Obl _)) ?_ | refine ifB_intro (fun h => ?_) (fun h => ?_) | refine Exists.intro _ (And.intro rfl ?_) | ((with_reducible show _ = _); rfl))
            all_goals try ((with_reducible refine Obl.mk ?_); first | ((with_reducible show regOk _ _ = true); kernel_rfl) | rfl | exact trivial | ((repeat' (first | exact trivial | refine And.intro ?_ ?_)); done) | decide | ((repeat' (first | exact List.forall_mem_nil _ | refine List.forall_mem_cons.2 (And.intro rfl ?_))); done) | (refine And.intro ?_ ?_ <;> simp only [List.length_map, List.length_append, List.length_cons, List.length_nil] <;> omega))
            all_goals try exact ⟨by dsimp only; rw [IntWalk.i64_in _ (by omega)]; rfl⟩
      · rw [endN_no (by omega)] at hr
        subst hr
        repeat' ((conv => whnf); first | refine Or.inl ?_ | refine And.intro (Obl.out (?_ : Obl _)) ?_ | refine ifB_intro (fun h => ?_) (fun h => ?_) | refine Exists.intro _ (And.intro rfl ?_) | ((with_reducible show _ = _); rfl))
        all_goals try ((with_reducible refine Obl.mk ?_); first | ((with_reducible show regOk _ _ = true); kernel_rfl) | rfl | exact trivial | ((repeat' (first | exact trivial | refine And.intro ?_ ?_)); done) | decide | ((repeat' (first | exact List.forall_mem_nil _ | refine List.forall_mem_cons.2 (And.intro rfl ?_))); done) | (refine And.intro ?_ ?_ <;> simp only [List.length_map, List.length_append, List.length_cons, List.length_nil] <;> omega))
        all_goals try (exfalso; simp only [decide_eq_false_iff_not, decide_eq_true_eq] at *; omega)
  · have : endOf l k = -1 := by
      rw [endOf]
      split
      · rw [endAt, List.getElem?_eq_none (by omega)]; rfl
      · rfl
    rw [this]
    have hb := s_impl_between k 0 (IntKind.i64.wrap (((l.map TLine.tr).length : Int) - 1))
    have hw : IntKind.i64.wrap (((l.map TLine.tr).length : Int) - 1) = (l.length : Int) - 1 := by rw [IntWalk.i64_in _ (by omega)]; omega
    have hf : within k 0 (IntKind.i64.wrap (((l.map TLine.tr).length : Int) - 1)) = false := by
      cases hx : within k 0 (IntKind.i64.wrap (((l.map TLine.tr).length : Int) - 1)) with
      | false => rfl
      | true => have := within_iff.1 hx; rw [hw] at this; exact absurd ⟨this.1, by omega⟩ hin
    rw [hf] at hb
    repeat' ((conv => whnf); first | refine Or.inl ?_ | refine And.intro (Obl.out (?_ : Obl _)) ?_ | refine ifB_intro (fun h => ?_) (fun h => ?_) | refine call_intro (hb) (And.intro rfl (And.intro rfl (And.intro rfl trivial))) ?_ | refine Exists.intro _ (And.intro rfl ?_) | ((with_reducible show _ = _); rfl))
    all_goals try ((with_reducible refine Obl.mk ?_); first | ((with_reducible show regOk _ _ = true); kernel_rfl) | rfl | exact trivial | ((repeat' (first | exact trivial | refine And.intro ?_ ?_)); done) | decide | ((repeat' (first | exact List.forall_mem_nil _ | refine List.forall_mem_cons.2 (And.intro rfl ?_))); done) | (refine And.intro ?_ ?_ <;> simp only [List.length_map, List.length_append, List.length_cons, List.length_nil] <;> omega))
    all_goals try (exfalso; simp only [decide_eq_false_iff_not, decide_eq_true_eq] at *; omega)
theorem s_spec_EndOf (l : List TLine) (k : Int) (hl : l.length ≤ 1048576) : Sim.Spec Try.prog 123 [tvP l, tvI k] (rI (endOf l k)) := by
  refine spec_of_W hΓ hmix Try.func123 rfl (by decide) rfl ?_
  have hlen : (l.map TLine.tr).length = l.length := by simp
  by_cases hin : 0 ≤ k ∧ k < l.length
  · obtain ⟨h0, h1⟩ := hin
    obtain ⟨k, rfl⟩ := Int.eq_ofNat_of_zero_le h0
    obtain ⟨x, hx⟩ := get_of_lt (l := l) (k := k) (by omega)
    have hO := s_spec_l04Opens x.fKind
    skip
    cases ho : opensK x.fKind with
    | false =>
      rw [ho] at hO
      have : endOf l (k : Int) = -1 := by rw [endOf_at, endAt, hx]; dsimp only; rw [if_neg (by simp [ho])]; rfl
      rw [this]
      repeat' ((conv => whnf); first | refine Or.inl ?_ | refine And.intro (Obl.out (?_ : Obl _)) ?_ | refine ifB_intro (fun h => ?_) (fun h => ?_) | refine ⟨k, x.tr, rfl, map_get hx, ?_⟩ | refine call_intro (hO) (And.intro rfl trivial) ?_ | refine Exists.intro _ (And.intro rfl ?_) | ((with_reducible show _ = _); rfl))
      all_goals try ((with_reducible refine Obl.mk ?_); first | ((with_reducible show regOk _ _ = true); kernel_rfl) | rfl | exact trivial | ((repeat' (first | exact trivial | refine And.intro ?_ ?_)); done) | decide | ((repeat' (first | exact List.forall_mem_nil _ | refine List.forall_mem_cons.2 (And.intro rfl ?_))); done) | (refine And.intro ?_ ?_ <;> simp only [List.length_map, List.length_append, List.length_cons, List.length_nil] <;> omega))
      all_goals try (exfalso; simp only [decide_eq_false_iff_not, decide_eq_true_eq] at *; omega)
    | true =>
      rw [ho] at hO
      obtain ⟨R, hR⟩ : ∃ R, endOf l (k : Int) = R := ⟨_, rfl⟩
      rw [hR]
      rw [endOf_at, ← endN_start hx ho] at hR
      repeat' ((conv => whnf); first | refine Or.inl ?_ | refine And.intro (Obl.out (?_ : Obl _)) ?_ | refine ifB_intro (fun h => ?_) (fun h => ?_) | refine ⟨k, x.tr, rfl, map_get hx, ?_⟩ | refine call_intro (hO) (And.intro rfl trivial) ?_ | refine Exists.intro _ (And.intro rfl ?_) | ((with_reducible show _ = _); rfl))
      all_goals try ((with_reducible refine Obl.mk ?_); first | ((with_reducible show regOk _ _ = true); kernel_rfl) | rfl | exact trivial | ((repeat' (first | exact trivial | refine And.intro ?_ ?_)); done) | decide | ((repeat' (first | exact List.forall_mem_nil _ | refine List.forall_mem_cons.2 (And.intro rfl ?_))); done) | (refine And.intro ?_ ?_ <;> simp only [List.length_map, List.length_append, List.length_cons, List.length_nil] <;> omega))
      all_goals try (exfalso; simp only [decide_eq_false_iff_not, decide_eq_true_eq] at *; omega)
      conv => whnf
      refine ⟨EndsIx l k R, fun q => ⟨[(0, vP l), (5, tI .i64 (q.1.2 : Int)), (6, tI .i64 (q.1.1 : Int))], [], []⟩, fun q => l.length - q.1.1, ⟨(k, 0), by dsimp only; omega, by omega, fun _ => rfl, hR⟩, ?_, ?_⟩
      · skip
        repeat' ((conv => whnf); first | refine Or.inl ?_ | refine And.intro (Obl.out (?_ : Obl _)) ?_ | refine ifB_intro (fun h => ?_) (fun h => ?_) | refine Exists.intro _ (And.intro rfl ?_) | ((with_reducible show _ = _); rfl))
        all_goals try ((with_reducible refine Obl.mk ?_); first | ((with_reducible show regOk _ _ = true); kernel_rfl) | rfl | exact trivial | ((repeat' (first | exact trivial | refine And.intro ?_ ?_)); done) | decide | ((repeat' (first | exact List.forall_mem_nil _ | refine List.forall_mem_cons.2 (And.intro rfl ?_))); done) | (refine And.intro ?_ ?_ <;> simp only [List.length_map, List.length_append, List.length_cons, List.length_nil] <;> omega))
      intro ⟨⟨i, o⟩, hi, hoi, hs, hr⟩
      dsimp only at hi hoi hs hr ⊢
      by_cases hlt : i < l.length
      · obtain ⟨y, hy⟩ := get_of_lt hlt
        have hO2 := s_spec_l04Opens y.fKind
        rw [endN_at hy] at hr
        cases hoy : opensK y.fKind with
        | true =>
          rw [hoy] at hO2
          rw [if_pos hoy] at hr
          have h7 : y.fKind ≠ 7 := by rw [opensK_iff] at hoy; omega
          repeat' ((conv => whnf); first | refine Or.inl ?_ | refine And.intro (Obl.out (?_ : Obl _)) ?_ | refine ifB_intro (fun h => ?_) (fun h => ?_) | refine ⟨i, y.tr, rfl, map_get hy, ?_⟩ | refine call_intro (hO2) (And.intro rfl trivial) ?_ | refine Exists.intro _ (And.intro rfl ?_) | ((with_reducible show _ = _); rfl))
          all_goals try ((with_reducible refine Obl.mk ?_); first | ((with_reducible show regOk _ _ = true); kernel_rfl) | rfl | exact trivial | ((repeat' (first | exact trivial | refine And.intro ?_ ?_)); done) | decide | ((repeat' (first | exact List.forall_mem_nil _ | refine List.forall_mem_cons.2 (And.intro rfl ?_))); done) | (refine And.intro ?_ ?_ <;> simp only [List.length_map, List.length_append, List.length_cons, List.length_nil] <;> omega))
          all_goals try (exfalso; simp only [decide_eq_false_iff_not, decide_eq_true_eq] at *; omega)
          all_goals try (exfalso; (try simp_all [within]); (try omega); done)
          all_goals try (exfalso; simp (disch := omega) only [IntWalk.i64_in] at *; simp only [beq_iff_eq] at *; omega)
          conv => whnf
          refine ⟨⟨(i + 1, o + 1), by dsimp only; omega, by dsimp only; omega, fun h => by omega, hr⟩, ?_, by dsimp only; omega⟩
          repeat' ((conv => whnf); first | refine Or.inl ?_ | refine And.intro (Obl.out (?_ : Obl _)) ?_ | refine ifB_intro (fun h => ?_) (fun h => ?_) | refine Exists.intro _ (And.intro rfl ?_) | ((with_reducible show _ = _); rfl))
          all_goals try ((with_reducible refine Obl.mk ?_); first | ((with_reducible show regOk _ _ = true); kernel_rfl) | rfl | exact trivial | ((repeat' (first | exact trivial | refine And.intro ?_ ?_)); done) | decide | ((repeat' (first | exact List.forall_mem_nil _ | refine List.forall_mem_cons.2 (And.intro rfl ?_))); done) | (refine And.intro ?_ ?_ <;> simp only [List.length_map, List.length_append, List.length_cons, List.length_nil] <;> omega))
          all_goals try exact ⟨by dsimp only; rw [IntWalk.i64_in _ (by omega)]; rfl⟩
          all_goals exact ⟨by dsimp only; rw [IntWalk.i64_in _ (by omega)]; rfl⟩
        | false =>
          rw [hoy] at hO2
          rw [if_neg (by simp [hoy])] at hr
          have hne : o ≠ 0 := fun h => by
            have := hs h
            subst this
            rw [hx] at hy
            injection hy with hy
            subst hy
            rw [ho] at hoy
            cases hoy
          by_cases h7 : y.fKind = 7
          · rw [if_pos h7] at hr
            by_cases h1 : o = 1
            · rw [if_pos h1] at hr
              subst hr
              subst h1
              repeat' ((conv => whnf); first | refine Or.inl ?_ | refine And.intro (Obl.out (?_ : Obl _)) ?_ | refine ifB_intro (fun h => ?_) (fun h => ?_) | refine ⟨i, y.tr, rfl, map_get hy, ?_⟩ | refine call_intro (hO2) (And.intro rfl trivial) ?_ | refine Exists.intro _ (And.intro rfl ?_) | ((with_reducible show _ = _); rfl))
              all_goals try ((with_reducible refine Obl.mk ?_); first | ((with_reducible show regOk _ _ = true); kernel_rfl) | rfl | exact trivial | ((repeat' (first | exact trivial | refine And.intro ?_ ?_)); done) | decide | ((repeat' (first | exact List.forall_mem_nil _ | refine List.forall_mem_cons.2 (And.intro rfl ?_))); done) | (refine And.intro ?_ ?_ <;> simp only [List.length_map, List.length_append, List.length_cons, List.length_nil] <;> omega))
              all_goals try (exfalso; simp only [decide_eq_false_iff_not, decide_eq_true_eq] at *; omega)
              all_goals try (exfalso; (try simp_all [within]); (try omega); done)
            · rw [if_neg h1] at hr
              repeat' ((conv => whnf); first | refine Or.inl ?_ | refine And.intro (Obl.out (?_ : Obl _)) ?_ | refine ifB_intro (fun h => ?_) (fun h => ?_) | refine ⟨i, y.tr, rfl, map_get hy, ?_⟩ | refine call_intro (hO2) (And.intro rfl trivial) ?_ | refine Exists.intro _ (And.intro rfl ?_) | ((with_reducible show _ = _); rfl))
              all_goals try ((with_reducible refine Obl.mk ?_); first | ((with_reducible show regOk _ _ = true); kernel_rfl) | rfl | exact trivial | ((repeat' (first | exact trivial | refine And.intro ?_ ?_)); done) | decide | ((repeat' (first | exact List.forall_mem_nil _ | refine List.forall_mem_cons.2 (And.intro rfl ?_))); done) | (refine And.intro ?_ ?_ <;> simp only [List.length_map, List.length_append, List.length_cons, List.length_nil] <;> omega))
              all_goals try (exfalso; simp only [decide_eq_false_iff_not, decide_eq_true_eq] at *; omega)
              all_goals try (exfalso; (try simp_all [within]); (try omega); done)
              all_goals try (exfalso; simp (disch := omega) only [IntWalk.i64_in] at *; simp only [beq_iff_eq] at *; omega)
              conv => whnf
              refine ⟨⟨(i + 1, o - 1), by dsimp only; omega, by dsimp only; omega, fun h => by omega, hr⟩, ?_, by dsimp only; omega⟩
              repeat' ((conv => whnf); first | refine Or.inl ?_ | refine And.intro (Obl.out (?_ : Obl _)) ?_ | refine ifB_intro (fun h => ?_) (fun h => ?_) | refine Exists.intro _ (And.intro rfl ?_) | ((with_reducible show _ = _); rfl))
              all_goals try ((with_reducible refine Obl.mk ?_); first | ((with_reducible show regOk _ _ = true); kernel_rfl) | rfl | exact trivial | ((repeat' (first | exact trivial | refine And.intro ?_ ?_)); done) | decide | ((repeat' (first | exact List.forall_mem_nil _ | refine List.forall_mem_cons.2 (And.intro rfl ?_))); done) | (refine And.intro ?_ ?_ <;> simp only [List.length_map, List.length_append, List.length_cons, List.length_nil] <;> omega))
              all_goals try exact ⟨by dsimp only; rw [IntWalk.i64_in _ (by omega)]; rfl⟩
              all_goals exact ⟨by dsimp only; congr 1; rw [IntWalk.i64_in _ (by omega)]; omega⟩
          · rw [if_neg h7] at hr
            repeat' ((conv => whnf); first | refine Or.inl ?_ | refine And.intro (Obl.out (?_ : Obl _)) ?_ | refine ifB_intro (fun h => ?_) (fun h => ?_) | refine ⟨i, y.tr, rfl, map_get hy, ?_⟩ | refine call_intro (hO2) (And.intro rfl trivial) ?_ | refine Exists.intro _ (And.intro rfl ?_) | ((with_reducible show _ = _); rfl))
            all_goals try ((with_reducible refine Obl.mk ?_); first | ((with_reducible show regOk _ _ = true); kernel_rfl) | rfl | exact trivial | ((repeat' (first | exact trivial | refine And.intro ?_ ?_)); done) | decide | ((repeat' (first | exact List.forall_mem_nil _ | refine List.forall_mem_cons.2 (And.intro rfl ?_))); done) | (refine And.intro ?_ ?_ <;> simp only [List.length_map, List.length_append, List.length_cons, List.length_nil] <;> omega))
            all_goals try (exfalso; simp only [decide_eq_false_iff_not, decide_eq_true_eq] at *; omega)
            all_goals try (exfalso; (try simp_all [within]); (try omega); done)
            all_goals try (exfalso; simp only [beq_iff_eq] at *; omega)
            conv => whnf
            refine ⟨⟨(i + 1, o), by dsimp only; omega, by dsimp only; omega, fun h => by omega, hr⟩, ?_, by dsimp only; omega⟩
            repeat' ((conv => whnf); first | refine Or.inl ?_ | refine And.intro (Obl.out (?_ : Obl _)) ?_ | refine ifB_intro (fun h => ?_) (fun h => ?_) | refine Exists.intro _ (And.intro rfl ?_) | ((with_reducible show _ = _); rfl))
            all_goals try ((with_reducible refine Obl.mk ?_); first | ((with_reducible show regOk _ _ = true); kernel_rfl) | rfl | exact trivial | ((repeat' (first | exact trivial | refine And.intro ?_ ?_)); done) | decide | ((repeat' (first | exact List.forall_mem_nil _ | refine List.forall_mem_cons.2 (And.intro rfl ?_))); done) | (refine And.intro ?_ ?_ <;> simp only [List.length_map, List.length_append, List.length_cons, List.length_nil] <;> omega))
            all_goals try exact ⟨by dsimp only; rw [IntWalk.i64_in _ (by omega)]; rfl⟩
      · rw [endN_no (by omega)] at hr
        subst hr
        repeat' ((conv => whnf); first | refine Or.inl ?_ | refine And.intro (Obl.out (?_ : Obl _)) ?_ | refine ifB_intro (fun h => ?_) (fun h => ?_) | refine Exists.intro _ (And.intro rfl ?_) | ((with_reducible show _ = _); rfl))
        all_goals try ((with_reducible refine Obl.mk ?_); first | ((with_reducible show regOk _ _ = true); kernel_rfl) | rfl | exact trivial | ((repeat' (first | exact trivial | refine And.intro ?_ ?_)); done) | decide | ((repeat' (first | exact List.forall_mem_nil _ | refine List.forall_mem_cons.2 (And.intro rfl ?_))); done) | (refine And.intro ?_ ?_ <;> simp only [List.length_map, List.length_append, List.length_cons, List.length_nil] <;> omega))
        all_goals try (exfalso; simp only [decide_eq_false_iff_not, decide_eq_true_eq] at *; omega)
  · have : endOf l k = -1 := by
      rw [endOf]
      split
      · rw [endAt, List.getElem?_eq_none (by omega)]; rfl
      · rfl
    rw [this]
    repeat' ((conv => whnf); first | refine Or.inl ?_ | refine And.intro (Obl.out (?_ : Obl _)) ?_ | refine ifB_intro (fun h => ?_) (fun h => ?_) | refine Exists.intro _ (And.intro rfl ?_) | ((with_reducible show _ = _); rfl))
    all_goals try ((with_reducible refine Obl.mk ?_); first | ((with_reducible show regOk _ _ = true); kernel_rfl) | rfl | exact trivial | ((repeat' (first | exact trivial | refine And.intro ?_ ?_)); done) | decide | ((repeat' (first | exact List.forall_mem_nil _ | refine List.forall_mem_cons.2 (And.intro rfl ?_))); done) | (refine And.intro ?_ ?_ <;> simp only [List.length_map, List.length_append, List.length_cons, List.length_nil] <;> omega))
    all_goals try (exfalso; simp only [decide_eq_false_iff_not, decide_eq_true_eq] at *; omega)
end Go.Proofs.Ytehniaekfijmiaa
