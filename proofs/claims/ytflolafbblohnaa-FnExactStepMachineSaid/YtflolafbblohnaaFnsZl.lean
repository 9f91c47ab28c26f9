/- StepMachine of the reference, and of the program. -/
import Derived.Test.YtflolafbblohnaaFnsZk
namespace Go.Proofs.Ytflolafbblohnaa
open Go.Sim
set_option maxRecDepth 100000
set_option maxHeartbeats 8000000
theorem s_spec_l10Fetch (i0 i1 : TImage) (b0 b1 a : Int) (es : List Int) (hb0 : 0 ≤ b0 ∧ b0 ≤ 1000000) (hb1 : 0 ≤ b1 ∧ b1 ≤ 1000000) (l0 : i0.fCode.length ≤ 1000000) (l1 : i1.fCode.length ≤ 1000000) : Sim.Spec Try.prog 187 [.agg (TSpace.mk [i0, i1] [b0, b1] es).tr, tvI a] (rOp (fetchP ⟨[i0, i1], [b0, b1], es⟩ a)) := by
  have hL := s_spec_l10Locate i0 i1 b0 b1 a es hb0 hb1 (by omega) (by omega)
  refine spec_of_W hΓ hmix Try.func187 rfl (by decide) rfl ?_
  have hloc : locS ⟨[i0, i1], [b0, b1], es⟩ a = loc2 i0 i1 b0 b1 a := rfl
  rcases loc2_cases i0 i1 b0 b1 a with hx | ⟨i, off, hi, hx⟩
  · rw [hx] at hL
    have hf : fetchP ⟨[i0, i1], [b0, b1], es⟩ a = none := by rw [fetchP, hloc, hx]; rfl
    rw [hf]
    repeat' (
      (conv => whnf)
      first
      | refine Or.inl ?_
      | refine And.intro (Obl.out (?_ : Obl _)) ?_
      | refine ifB_intro (fun h => ?_) (fun h => ?_)
      | refine call_intro (hL) (And.intro (And.intro rfl (And.intro rfl (And.intro rfl trivial))) (And.intro rfl trivial)) ?_
      | refine Exists.intro _ (And.intro rfl ?_)
      | ((with_reducible show _ = _); rfl))
    all_goals try (
      (with_reducible refine Obl.mk ?_)
      first
      | ((with_reducible show regOk _ _ = true); kernel_rfl)
      | ((with_reducible show eqTyOk _ _ = true); kernel_rfl)
      | ((with_reducible show regOkX _ _ _ _ = true); kernel_rfl)
      | ((with_reducible show condX _ _ _ _ _ _); (conv => whnf); rfl)
      | rfl
      | exact trivial
      | ((repeat' (first | exact trivial | refine And.intro ?_ ?_)); done)
      | decide
      | (intro r hr; simp only [List.mem_cons, List.not_mem_nil, or_false] at hr; first | (subst hr; rfl) | (rcases hr with rfl | rfl <;> rfl) | (rcases hr with rfl | rfl | rfl <;> rfl) | (rcases hr with rfl | rfl | rfl | rfl <;> rfl))
      | (refine And.intro ?_ ?_ <;> simp only [List.length_map, List.length_append, List.length_cons, List.length_nil] <;> omega))
    all_goals try (exfalso; simp at h; done)
  · have hoff := loc2_off (b0 := b0) (b1 := b1) (a := a) l0 l1
    rw [hx] at hL hoff
    dsimp only at hoff
    obtain ⟨im, hi1, hi2, hil⟩ := get2_imgs hi l0 l1
    have hD := s_spec_DecodeOp im.fCode off (by omega) (by omega)
    have hf : fetchP ⟨[i0, i1], [b0, b1], es⟩ a = decodeOp im.fCode off := by
      rw [fetchP, hloc, hx]
      dsimp only
      rw [if_neg (by omega), Int.toNat_natCast, hi1]
    rw [hf]
    repeat' (
      (conv => whnf)
      first
      | refine Or.inl ?_
      | refine And.intro (Obl.out (?_ : Obl _)) ?_
      | refine ifB_intro (fun h => ?_) (fun h => ?_)
      | refine call_intro (hL) (And.intro (And.intro rfl (And.intro rfl (And.intro rfl trivial))) (And.intro rfl trivial)) ?_
      | refine ⟨i, im.tr, rfl, hi2, ?_⟩
      | refine call_intro (hD) (And.intro rfl (And.intro rfl trivial)) ?_
      | refine Exists.intro _ (And.intro rfl ?_)
      | ((with_reducible show _ = _); rfl))
    all_goals try (
      (with_reducible refine Obl.mk ?_)
      first
      | ((with_reducible show regOk _ _ = true); kernel_rfl)
      | ((with_reducible show eqTyOk _ _ = true); kernel_rfl)
      | ((with_reducible show regOkX _ _ _ _ = true); kernel_rfl)
      | ((with_reducible show condX _ _ _ _ _ _); (conv => whnf); rfl)
      | rfl
      | exact trivial
      | ((repeat' (first | exact trivial | refine And.intro ?_ ?_)); done)
      | decide
      | (intro r hr; simp only [List.mem_cons, List.not_mem_nil, or_false] at hr; first | (subst hr; rfl) | (rcases hr with rfl | rfl <;> rfl) | (rcases hr with rfl | rfl | rfl <;> rfl) | (rcases hr with rfl | rfl | rfl | rfl <;> rfl))
      | (refine And.intro ?_ ?_ <;> simp only [List.length_map, List.length_append, List.length_cons, List.length_nil] <;> omega))
    all_goals try (exfalso; have h' := of_decide_eq_true h; omega)
def stepR (m : TMachine) : Option TMachine → TMachine
  | none => badM m
  | some m' => m'
theorem qPut_ok {c : CS} {a v : Int} (h : c.ok) : (qPut c a v).ok := by
  unfold qPut CS.ok at *
  split
  · simpa [setAt] using h
  · exact h
theorem qPerf_ok {es : List Int} {c : CS} {x : TOp} (h : c.ok) : (qPerf es c x).ok := by
  unfold qPerf
  refine ite_q (CS.ok) (qPush_ok h) ?_
  refine ite_q (CS.ok) (qPush_ok (cAt_ok h)) ?_
  refine ite_q (CS.ok) (qPush_ok (cAt_ok h)) ?_
  refine ite_q (CS.ok) (qPut_ok (cPop_ok h)) ?_
  refine ite_q (CS.ok) (qPut_ok (cPop_ok h)) ?_
  refine ite_q (CS.ok) h ?_
  refine ite_q (CS.ok) (by unfold qZero; split <;> exact cPop_ok h) ?_
  refine ite_q (CS.ok) (by unfold qGoto; split; · exact qPush_ok h
                           · exact h) ?_
  refine ite_q (CS.ok) (qZeros_ok (qPush_ok h)) ?_
  refine ite_q (CS.ok) (qZeros_ok h) ?_
  refine ite_q (CS.ok) (by unfold qLeave; split; · exact qPush_ok (cDrop_ok (cPop_ok (cPop_ok (cPop_ok h))))
                           · exact cPop_ok h) ?_
  refine ite_q (CS.ok) (qPush_ok (cDrop_ok (cPop_ok (cDrop_ok (cPop_ok h))))) ?_
  refine ite_q (CS.ok) (cPop_ok h) ?_
  exact qPush_ok (cPop_ok (cPop_ok h))
theorem s_spec_l11Step (s : TSpace) (m : TMachine) (hok : spaceOk s = true) (hm : m.fStack.length = 1200) (ho : m.fOut.length ≤ 2000000) : Sim.Spec Try.prog 104 [.agg s.tr, .agg m.tr] (.r (.agg ((stepR m (stepQ s m)).tr.map resC))) := by
  obtain ⟨i0, i1, b0, b1, hsh, ⟨e1, e2⟩, ⟨g0, p0, p1⟩, ⟨g1, q0, q1⟩, _, _⟩ := spaceOk_inv hok
  have l0 := (imageOk_iff.1 g0).1
  have l1 := (imageOk_iff.1 g1).1
  have hF := s_spec_l10Fetch i0 i1 b0 b1 m.fPc s.fEntries (by omega) (by omega) l0 l1
  have hC := s_spec_l11Copy m (by omega) ho
  obtain ⟨im, bs, es⟩ := s
  dsimp only at hsh hF e2
  injection hsh with h1 h2
  subst h1
  subst h2
  refine spec_of_W hΓ hmix Try.func104 rfl (by decide) rfl ?_
  obtain ⟨r, hr⟩ : ∃ r, stepQ ⟨[i0, i1], [b0, b1], es⟩ m = r := ⟨_, rfl⟩
  rw [hr]
  cases hf : fetchP ⟨[i0, i1], [b0, b1], es⟩ m.fPc with
  | none =>
    rw [hf] at hF
    have : r = none := by rw [← hr, stepQ, hf]
    subst this
    repeat' (
      (conv => whnf)
      first
      | refine seq_inl ?_
      | refine reg_inl ?_
      | refine And.intro (Obl.out (?_ : Obl _)) ?_
      | refine ifB_intro (fun h => ?_) (fun h => ?_)
      | refine Or.inl (call_intro (hC) (And.intro (And.intro rfl (And.intro rfl (And.intro rfl (And.intro rfl (And.intro rfl (And.intro rfl (And.intro rfl trivial))))))) trivial) ?_)
      | refine Or.inl (call_intro (hF) (And.intro (And.intro rfl (And.intro rfl (And.intro rfl trivial))) (And.intro rfl trivial)) ?_)
      | refine Exists.intro _ (And.intro rfl ?_)
      | ((with_reducible show _ = _); rfl))
    all_goals try (
      (with_reducible refine Obl.mk ?_)
      first
      | ((with_reducible show regOk _ _ = true); kernel_rfl)
      | ((with_reducible show eqTyOk _ _ = true); kernel_rfl)
      | ((with_reducible show regOkX _ _ _ _ = true); kernel_rfl)
      | ((with_reducible show condX _ _ _ _ _ _); (conv => whnf); rfl)
      | rfl
      | exact trivial
      | ((repeat' (first | exact trivial | refine And.intro ?_ ?_)); done)
      | decide
      | (intro r hr; simp only [List.mem_cons, List.not_mem_nil, or_false] at hr; first | (subst hr; rfl) | (rcases hr with rfl | rfl <;> rfl) | (rcases hr with rfl | rfl | rfl <;> rfl) | (rcases hr with rfl | rfl | rfl | rfl <;> rfl))
      | (refine And.intro ?_ ?_ <;> simp only [List.length_map, List.length_append, List.length_cons, List.length_nil] <;> omega))
    all_goals exact ⟨⟨rfl, flat_ints _⟩⟩
  | some xz =>
    obtain ⟨x, z⟩ := xz
    rw [hf] at hF
    obtain ⟨t, p, hd⟩ := fetchP_arg hf
    obtain ⟨c0, c1, _, z5⟩ := decodeOp_arg hd
    have hr2 : endM (qPerf es (adv ⟨m, false⟩ z) x) = r := by rw [← hr, stepQ, hf]
    by_cases h17 : x.fCode = 17
    · have hxx : x = ⟨17, x.fArg⟩ := by rw [← h17]
      have hP := g_cpu_out ⟨[i0, i1], [b0, b1], es⟩ ⟨m, false⟩ x.fArg z hm ho
      rw [← hxx] at hP
      have hcc : qPerf es (adv ⟨m, false⟩ z) x = qOut (adv ⟨m, false⟩ z) := by rw [hxx]; simp [qPerf]
      rw [hcc] at hr2
      have hco : (qOut (adv ⟨m, false⟩ z)).ok := cPop_ok (c := adv ⟨m, false⟩ z) hm
      generalize qOut (adv ⟨m, false⟩ z) = c at *
      have hW := g_cpu_word c c.m.fSp hco
      obtain ⟨cm, cb⟩ := c
      unfold cAt at hW
      dsimp only at hW
      cases cb with
      | true =>
        have : r = none := by rw [← hr2]; rfl
        subst this
        repeat' (
          (conv => whnf)
          first
          | refine callG_intro (hP) ?_
          | refine seq_inl ?_
          | refine reg_inl ?_
          | refine And.intro (Obl.out (?_ : Obl _)) ?_
          | refine ifB_intro (fun h => ?_) (fun h => ?_)
          | refine Or.inl (call_intro (hC) (And.intro (And.intro rfl (And.intro rfl (And.intro rfl (And.intro rfl (And.intro rfl (And.intro rfl (And.intro rfl trivial))))))) trivial) ?_)
          | refine Or.inl (call_intro (hF) (And.intro (And.intro rfl (And.intro rfl (And.intro rfl trivial))) (And.intro rfl trivial)) ?_)
          | refine Exists.intro _ (And.intro rfl ?_)
          | ((with_reducible show _ = _); rfl))
        all_goals try (
          (with_reducible refine Obl.mk ?_)
          first
          | ((with_reducible show regOk _ _ = true); kernel_rfl)
          | ((with_reducible show eqTyOk _ _ = true); kernel_rfl)
          | ((with_reducible show regOkX _ _ _ _ = true); kernel_rfl)
          | ((with_reducible show condX _ _ _ _ _ _); (conv => whnf); rfl)
          | rfl
          | exact trivial
          | ((repeat' (first | exact trivial | refine And.intro ?_ ?_)); done)
          | decide
          | (intro r hr; simp only [List.mem_cons, List.not_mem_nil, or_false] at hr; first | (subst hr; rfl) | (rcases hr with rfl | rfl <;> rfl) | (rcases hr with rfl | rfl | rfl <;> rfl) | (rcases hr with rfl | rfl | rfl | rfl <;> rfl))
          | (refine And.intro ?_ ?_ <;> simp only [List.length_map, List.length_append, List.length_cons, List.length_nil] <;> omega))
        all_goals exact ⟨⟨rfl, flat_ints _⟩⟩
      | false =>
        by_cases hpc : cm.fPc = 0
        · cases hin : inStk cm.fSp with
          | false =>
            rw [hin] at hW
            have : r = none := by rw [← hr2]; simp [endM, hpc, hin]
            subst this
            repeat' (
              (conv => whnf)
              first
              | refine callG_intro (hP) ?_
              | refine callG_intro (hW) ?_
              | refine seq_inl ?_
              | refine reg_inl ?_
              | refine And.intro (Obl.out (?_ : Obl _)) ?_
              | refine ifB_intro (fun h => ?_) (fun h => ?_)
              | refine Or.inl (call_intro (hC) (And.intro (And.intro rfl (And.intro rfl (And.intro rfl (And.intro rfl (And.intro rfl (And.intro rfl (And.intro rfl trivial))))))) trivial) ?_)
              | refine Or.inl (call_intro (hF) (And.intro (And.intro rfl (And.intro rfl (And.intro rfl trivial))) (And.intro rfl trivial)) ?_)
              | refine Exists.intro _ (And.intro rfl ?_)
              | ((with_reducible show _ = _); rfl))
            all_goals try (
              (with_reducible refine Obl.mk ?_)
              first
              | ((with_reducible show regOk _ _ = true); kernel_rfl)
              | ((with_reducible show eqTyOk _ _ = true); kernel_rfl)
              | ((with_reducible show regOkX _ _ _ _ = true); kernel_rfl)
              | ((with_reducible show condX _ _ _ _ _ _); (conv => whnf); rfl)
              | rfl
              | exact trivial
              | ((repeat' (first | exact trivial | refine And.intro ?_ ?_)); done)
              | decide
              | (intro r hr; simp only [List.mem_cons, List.not_mem_nil, or_false] at hr; first | (subst hr; rfl) | (rcases hr with rfl | rfl <;> rfl) | (rcases hr with rfl | rfl | rfl <;> rfl) | (rcases hr with rfl | rfl | rfl | rfl <;> rfl))
              | (refine And.intro ?_ ?_ <;> simp only [List.length_map, List.length_append, List.length_cons, List.length_nil] <;> omega))
            all_goals try (exfalso; simp [hpc] at h; done)
            all_goals exact ⟨⟨rfl, flat_ints _⟩⟩
          | true =>
            rw [hin] at hW
            have : r = some { cm with fState := 1, fValue := qVal ⟨cm, false⟩ cm.fSp } := by rw [← hr2]; simp [endM, hpc, hin, qVal]
            subst this
            repeat' (
              (conv => whnf)
              first
              | refine callG_intro (hP) ?_
              | refine callG_intro (hW) ?_
              | refine seq_inl ?_
              | refine reg_inl ?_
              | refine And.intro (Obl.out (?_ : Obl _)) ?_
              | refine ifB_intro (fun h => ?_) (fun h => ?_)
              | refine Or.inl (call_intro (hC) (And.intro (And.intro rfl (And.intro rfl (And.intro rfl (And.intro rfl (And.intro rfl (And.intro rfl (And.intro rfl trivial))))))) trivial) ?_)
              | refine Or.inl (call_intro (hF) (And.intro (And.intro rfl (And.intro rfl (And.intro rfl trivial))) (And.intro rfl trivial)) ?_)
              | refine Exists.intro _ (And.intro rfl ?_)
              | ((with_reducible show _ = _); rfl))
            all_goals try (
              (with_reducible refine Obl.mk ?_)
              first
              | ((with_reducible show regOk _ _ = true); kernel_rfl)
              | ((with_reducible show eqTyOk _ _ = true); kernel_rfl)
              | ((with_reducible show regOkX _ _ _ _ = true); kernel_rfl)
              | ((with_reducible show condX _ _ _ _ _ _); (conv => whnf); rfl)
              | rfl
              | exact trivial
              | ((repeat' (first | exact trivial | refine And.intro ?_ ?_)); done)
              | decide
              | (intro r hr; simp only [List.mem_cons, List.not_mem_nil, or_false] at hr; first | (subst hr; rfl) | (rcases hr with rfl | rfl <;> rfl) | (rcases hr with rfl | rfl | rfl <;> rfl) | (rcases hr with rfl | rfl | rfl | rfl <;> rfl))
              | (refine And.intro ?_ ?_ <;> simp only [List.length_map, List.length_append, List.length_cons, List.length_nil] <;> omega))
            all_goals try (exfalso; simp [hpc] at h; done)
            all_goals exact ⟨⟨rfl, flat_ints _⟩⟩
        · have : r = some cm := by rw [← hr2]; simp [endM, hpc]
          subst this
          repeat' (
            (conv => whnf)
            first
            | refine callG_intro (hP) ?_
            | refine seq_inl ?_
            | refine reg_inl ?_
            | refine And.intro (Obl.out (?_ : Obl _)) ?_
            | refine ifB_intro (fun h => ?_) (fun h => ?_)
            | refine Or.inl (call_intro (hC) (And.intro (And.intro rfl (And.intro rfl (And.intro rfl (And.intro rfl (And.intro rfl (And.intro rfl (And.intro rfl trivial))))))) trivial) ?_)
            | refine Or.inl (call_intro (hF) (And.intro (And.intro rfl (And.intro rfl (And.intro rfl trivial))) (And.intro rfl trivial)) ?_)
            | refine Exists.intro _ (And.intro rfl ?_)
            | ((with_reducible show _ = _); rfl))
          all_goals try (
            (with_reducible refine Obl.mk ?_)
            first
            | ((with_reducible show regOk _ _ = true); kernel_rfl)
            | ((with_reducible show eqTyOk _ _ = true); kernel_rfl)
            | ((with_reducible show regOkX _ _ _ _ = true); kernel_rfl)
            | ((with_reducible show condX _ _ _ _ _ _); (conv => whnf); rfl)
            | rfl
            | exact trivial
            | ((repeat' (first | exact trivial | refine And.intro ?_ ?_)); done)
            | decide
            | (intro r hr; simp only [List.mem_cons, List.not_mem_nil, or_false] at hr; first | (subst hr; rfl) | (rcases hr with rfl | rfl <;> rfl) | (rcases hr with rfl | rfl | rfl <;> rfl) | (rcases hr with rfl | rfl | rfl | rfl <;> rfl))
            | (refine And.intro ?_ ?_ <;> simp only [List.length_map, List.length_append, List.length_cons, List.length_nil] <;> omega))
          all_goals try (exfalso; simp [hpc] at h; done)
          all_goals exact ⟨⟨rfl, flat_ints _⟩⟩
    · have hP := g_cpu_perform ⟨[i0, i1], [b0, b1], es⟩ ⟨m, false⟩ x z hm h17 c0 c1 (by dsimp only; omega)
      have hco : (qPerf es (adv ⟨m, false⟩ z) x).ok := qPerf_ok hm
      dsimp only at hP
      generalize qPerf es (adv ⟨m, false⟩ z) x = c at *
      have hW := g_cpu_word c c.m.fSp hco
      obtain ⟨cm, cb⟩ := c
      unfold cAt at hW
      dsimp only at hW
      cases cb with
      | true =>
        have : r = none := by rw [← hr2]; rfl
        subst this
        repeat' (
          (conv => whnf)
          first
          | refine callG_intro (hP) ?_
          | refine seq_inl ?_
          | refine reg_inl ?_
          | refine And.intro (Obl.out (?_ : Obl _)) ?_
          | refine ifB_intro (fun h => ?_) (fun h => ?_)
          | refine Or.inl (call_intro (hC) (And.intro (And.intro rfl (And.intro rfl (And.intro rfl (And.intro rfl (And.intro rfl (And.intro rfl (And.intro rfl trivial))))))) trivial) ?_)
          | refine Or.inl (call_intro (hF) (And.intro (And.intro rfl (And.intro rfl (And.intro rfl trivial))) (And.intro rfl trivial)) ?_)
          | refine Exists.intro _ (And.intro rfl ?_)
          | ((with_reducible show _ = _); rfl))
        all_goals try (
          (with_reducible refine Obl.mk ?_)
          first
          | ((with_reducible show regOk _ _ = true); kernel_rfl)
          | ((with_reducible show eqTyOk _ _ = true); kernel_rfl)
          | ((with_reducible show regOkX _ _ _ _ = true); kernel_rfl)
          | ((with_reducible show condX _ _ _ _ _ _); (conv => whnf); rfl)
          | rfl
          | exact trivial
          | ((repeat' (first | exact trivial | refine And.intro ?_ ?_)); done)
          | decide
          | (intro r hr; simp only [List.mem_cons, List.not_mem_nil, or_false] at hr; first | (subst hr; rfl) | (rcases hr with rfl | rfl <;> rfl) | (rcases hr with rfl | rfl | rfl <;> rfl) | (rcases hr with rfl | rfl | rfl | rfl <;> rfl))
          | (refine And.intro ?_ ?_ <;> simp only [List.length_map, List.length_append, List.length_cons, List.length_nil] <;> omega))
        all_goals exact ⟨⟨rfl, flat_ints _⟩⟩
      | false =>
        by_cases hpc : cm.fPc = 0
        · cases hin : inStk cm.fSp with
          | false =>
            rw [hin] at hW
            have : r = none := by rw [← hr2]; simp [endM, hpc, hin]
            subst this
            repeat' (
              (conv => whnf)
              first
              | refine callG_intro (hP) ?_
              | refine callG_intro (hW) ?_
              | refine seq_inl ?_
              | refine reg_inl ?_
              | refine And.intro (Obl.out (?_ : Obl _)) ?_
              | refine ifB_intro (fun h => ?_) (fun h => ?_)
              | refine Or.inl (call_intro (hC) (And.intro (And.intro rfl (And.intro rfl (And.intro rfl (And.intro rfl (And.intro rfl (And.intro rfl (And.intro rfl trivial))))))) trivial) ?_)
              | refine Or.inl (call_intro (hF) (And.intro (And.intro rfl (And.intro rfl (And.intro rfl trivial))) (And.intro rfl trivial)) ?_)
              | refine Exists.intro _ (And.intro rfl ?_)
              | ((with_reducible show _ = _); rfl))
            all_goals try (
              (with_reducible refine Obl.mk ?_)
              first
              | ((with_reducible show regOk _ _ = true); kernel_rfl)
              | ((with_reducible show eqTyOk _ _ = true); kernel_rfl)
              | ((with_reducible show regOkX _ _ _ _ = true); kernel_rfl)
              | ((with_reducible show condX _ _ _ _ _ _); (conv => whnf); rfl)
              | rfl
              | exact trivial
              | ((repeat' (first | exact trivial | refine And.intro ?_ ?_)); done)
              | decide
              | (intro r hr; simp only [List.mem_cons, List.not_mem_nil, or_false] at hr; first | (subst hr; rfl) | (rcases hr with rfl | rfl <;> rfl) | (rcases hr with rfl | rfl | rfl <;> rfl) | (rcases hr with rfl | rfl | rfl | rfl <;> rfl))
              | (refine And.intro ?_ ?_ <;> simp only [List.length_map, List.length_append, List.length_cons, List.length_nil] <;> omega))
            all_goals try (exfalso; simp [hpc] at h; done)
            all_goals exact ⟨⟨rfl, flat_ints _⟩⟩
          | true =>
            rw [hin] at hW
            have : r = some { cm with fState := 1, fValue := qVal ⟨cm, false⟩ cm.fSp } := by rw [← hr2]; simp [endM, hpc, hin, qVal]
            subst this
            repeat' (
              (conv => whnf)
              first
              | refine callG_intro (hP) ?_
              | refine callG_intro (hW) ?_
              | refine seq_inl ?_
              | refine reg_inl ?_
              | refine And.intro (Obl.out (?_ : Obl _)) ?_
              | refine ifB_intro (fun h => ?_) (fun h => ?_)
              | refine Or.inl (call_intro (hC) (And.intro (And.intro rfl (And.intro rfl (And.intro rfl (And.intro rfl (And.intro rfl (And.intro rfl (And.intro rfl trivial))))))) trivial) ?_)
              | refine Or.inl (call_intro (hF) (And.intro (And.intro rfl (And.intro rfl (And.intro rfl trivial))) (And.intro rfl trivial)) ?_)
              | refine Exists.intro _ (And.intro rfl ?_)
              | ((with_reducible show _ = _); rfl))
            all_goals try (
              (with_reducible refine Obl.mk ?_)
              first
              | ((with_reducible show regOk _ _ = true); kernel_rfl)
              | ((with_reducible show eqTyOk _ _ = true); kernel_rfl)
              | ((with_reducible show regOkX _ _ _ _ = true); kernel_rfl)
              | ((with_reducible show condX _ _ _ _ _ _); (conv => whnf); rfl)
              | rfl
              | exact trivial
              | ((repeat' (first | exact trivial | refine And.intro ?_ ?_)); done)
              | decide
              | (intro r hr; simp only [List.mem_cons, List.not_mem_nil, or_false] at hr; first | (subst hr; rfl) | (rcases hr with rfl | rfl <;> rfl) | (rcases hr with rfl | rfl | rfl <;> rfl) | (rcases hr with rfl | rfl | rfl | rfl <;> rfl))
              | (refine And.intro ?_ ?_ <;> simp only [List.length_map, List.length_append, List.length_cons, List.length_nil] <;> omega))
            all_goals try (exfalso; simp [hpc] at h; done)
            all_goals exact ⟨⟨rfl, flat_ints _⟩⟩
        · have : r = some cm := by rw [← hr2]; simp [endM, hpc]
          subst this
          repeat' (
            (conv => whnf)
            first
            | refine callG_intro (hP) ?_
            | refine seq_inl ?_
            | refine reg_inl ?_
            | refine And.intro (Obl.out (?_ : Obl _)) ?_
            | refine ifB_intro (fun h => ?_) (fun h => ?_)
            | refine Or.inl (call_intro (hC) (And.intro (And.intro rfl (And.intro rfl (And.intro rfl (And.intro rfl (And.intro rfl (And.intro rfl (And.intro rfl trivial))))))) trivial) ?_)
            | refine Or.inl (call_intro (hF) (And.intro (And.intro rfl (And.intro rfl (And.intro rfl trivial))) (And.intro rfl trivial)) ?_)
            | refine Exists.intro _ (And.intro rfl ?_)
            | ((with_reducible show _ = _); rfl))
          all_goals try (
            (with_reducible refine Obl.mk ?_)
            first
            | ((with_reducible show regOk _ _ = true); kernel_rfl)
            | ((with_reducible show eqTyOk _ _ = true); kernel_rfl)
            | ((with_reducible show regOkX _ _ _ _ = true); kernel_rfl)
            | ((with_reducible show condX _ _ _ _ _ _); (conv => whnf); rfl)
            | rfl
            | exact trivial
            | ((repeat' (first | exact trivial | refine And.intro ?_ ?_)); done)
            | decide
            | (intro r hr; simp only [List.mem_cons, List.not_mem_nil, or_false] at hr; first | (subst hr; rfl) | (rcases hr with rfl | rfl <;> rfl) | (rcases hr with rfl | rfl | rfl <;> rfl) | (rcases hr with rfl | rfl | rfl | rfl <;> rfl))
            | (refine And.intro ?_ ?_ <;> simp only [List.length_map, List.length_append, List.length_cons, List.length_nil] <;> omega))
          all_goals try (exfalso; simp [hpc] at h; done)
          all_goals exact ⟨⟨rfl, flat_ints _⟩⟩
theorem endM_some {c : CS} {m' : TMachine} (h : endM c = some m') : m'.fStack = c.m.fStack ∧ m'.fOut = c.m.fOut ∧ m'.fSp = c.m.fSp ∧ m'.fFp = c.m.fFp ∧ m'.fPc = c.m.fPc ∧ c.bad = false := by
  unfold endM at h
  split at h
  · cases h
  · rename_i hb
    have hb' : c.bad = false := by simpa using hb
    split at h
    · split at h
      · injection h with h; subst h; exact ⟨rfl, rfl, rfl, rfl, rfl, hb'⟩
      · cases h
    · injection h with h; subst h; exact ⟨rfl, rfl, rfl, rfl, rfl, hb'⟩
theorem stepP_some {s : TSpace} {m m' : TMachine} (h : stepP s m = some m') : ∃ x, fetchP s m.fPc = some x ∧ endM (cPerf s.fEntries (adv ⟨m, false⟩ x.2) x.1) = some m' := by
  unfold stepP at h
  split at h
  · cases h
  · rename_i x hx; exact ⟨x, hx, h⟩
theorem stepP_len {s : TSpace} {m : TMachine} (hm : m.fStack.length = 1200) : ∀ m', stepP s m = some m' → m'.fStack.length = 1200 := by
  intro m' h
  obtain ⟨x, _, h2⟩ := stepP_some h
  rw [(endM_some h2).1]
  exact cPerf_ok (c := adv ⟨m, false⟩ x.2) hm
theorem stepP_out {s : TSpace} {m : TMachine} : ∀ m', stepP s m = some m' → m'.fOut.length ≤ m.fOut.length + 1 := by
  intro m' h
  obtain ⟨x, _, h2⟩ := stepP_some h
  rw [(endM_some h2).2.1]
  exact cPerf_out (c := adv ⟨m, false⟩ x.2)
def stepMach (s : TSpace) (m : TMachine) : TMachine := if spaceOk s = true ∧ machineOk m = true ∧ m.fState = 0 then stepR m (stepP s m) else m
theorem machineOk_iffL {m : TMachine} : machineOk m = true ↔ m.fStack.length = 1200 ∧ (0 ≤ m.fSp ∧ m.fSp ≤ 1200) ∧ 0 ≤ m.fState ∧ m.fState ≤ 2 := by
  rw [machineOk, Bool.and_eq_true, Bool.and_eq_true, within_iff, within_iff, beq_iff_eq]
  exact ⟨fun h => ⟨h.1.1, h.1.2, h.2⟩, fun h => ⟨⟨h.1, h.2.1⟩, h.2.2⟩⟩
theorem mach_small {m : TMachine} (h : smallR 1048576 m.tr) : m.fStack.length ≤ 2000000 ∧ m.fOut.length ≤ 1048576 := by
  simp only [TMachine.tr, smallR] at h
  have h1 := small_nat h.2.2.2.1
  have h2 := small_nat h.2.2.2.2.1
  omega
theorem s_spec_StepMachine (s : TSpace) (m : TMachine) (hs : smallR 1048576 s.tr) (hms : smallR 1048576 m.tr) (hfp : inI m.fFp) : Sim.Spec Try.prog 34 [.agg s.tr, .agg m.tr] (.r (.agg ((stepMach s m).tr.map resC))) := by
  have hS := s_spec_SpaceOk s hs
  have hM := s_spec_MachineOk m
  obtain ⟨k1, k2⟩ := mach_small hms
  have hC := s_spec_l11Copy m k1 (by omega)
  refine spec_of_W hΓ hmix Try.func34 rfl (by decide) rfl ?_
  unfold stepMach
  cases h1 : spaceOk s with
  | false =>
    rw [h1] at hS
    rw [if_neg (by simp)]
    repeat' (
      (conv => whnf)
      first
      | refine Or.inl ?_
      | refine And.intro (Obl.out (?_ : Obl _)) ?_
      | refine ifB_intro (fun h => ?_) (fun h => ?_)
      | refine call_intro (hS) (And.intro (And.intro rfl (And.intro rfl (And.intro rfl trivial))) trivial) ?_
      | refine call_intro (hM) (And.intro (And.intro rfl (And.intro rfl (And.intro rfl (And.intro rfl (And.intro rfl (And.intro rfl (And.intro rfl trivial))))))) trivial) ?_
      | refine call_intro (hC) (And.intro (And.intro rfl (And.intro rfl (And.intro rfl (And.intro rfl (And.intro rfl (And.intro rfl (And.intro rfl trivial))))))) trivial) ?_
      | refine Exists.intro _ (And.intro rfl ?_)
      | ((with_reducible show _ = _); rfl))
    all_goals try (
      (with_reducible refine Obl.mk ?_)
      first
      | ((with_reducible show regOk _ _ = true); kernel_rfl)
      | ((with_reducible show eqTyOk _ _ = true); kernel_rfl)
      | ((with_reducible show regOkX _ _ _ _ = true); kernel_rfl)
      | ((with_reducible show condX _ _ _ _ _ _); (conv => whnf); rfl)
      | rfl
      | exact trivial
      | ((repeat' (first | exact trivial | refine And.intro ?_ ?_)); done)
      | decide
      | (intro r hr; simp only [List.mem_cons, List.not_mem_nil, or_false] at hr; first | (subst hr; rfl) | (rcases hr with rfl | rfl <;> rfl) | (rcases hr with rfl | rfl | rfl <;> rfl) | (rcases hr with rfl | rfl | rfl | rfl <;> rfl))
      | (refine And.intro ?_ ?_ <;> simp only [List.length_map, List.length_append, List.length_cons, List.length_nil] <;> omega))
    all_goals try (exfalso; simp at h; done)
  | true =>
    rw [h1] at hS
    cases h2 : machineOk m with
    | false =>
      rw [h2] at hM
      rw [if_neg (by simp)]
      repeat' (
        (conv => whnf)
        first
        | refine Or.inl ?_
        | refine And.intro (Obl.out (?_ : Obl _)) ?_
        | refine ifB_intro (fun h => ?_) (fun h => ?_)
        | refine call_intro (hS) (And.intro (And.intro rfl (And.intro rfl (And.intro rfl trivial))) trivial) ?_
        | refine call_intro (hM) (And.intro (And.intro rfl (And.intro rfl (And.intro rfl (And.intro rfl (And.intro rfl (And.intro rfl (And.intro rfl trivial))))))) trivial) ?_
        | refine call_intro (hC) (And.intro (And.intro rfl (And.intro rfl (And.intro rfl (And.intro rfl (And.intro rfl (And.intro rfl (And.intro rfl trivial))))))) trivial) ?_
        | refine Exists.intro _ (And.intro rfl ?_)
        | ((with_reducible show _ = _); rfl))
      all_goals try (
        (with_reducible refine Obl.mk ?_)
        first
        | ((with_reducible show regOk _ _ = true); kernel_rfl)
        | ((with_reducible show eqTyOk _ _ = true); kernel_rfl)
        | ((with_reducible show regOkX _ _ _ _ = true); kernel_rfl)
        | ((with_reducible show condX _ _ _ _ _ _); (conv => whnf); rfl)
        | rfl
        | exact trivial
        | ((repeat' (first | exact trivial | refine And.intro ?_ ?_)); done)
        | decide
        | (intro r hr; simp only [List.mem_cons, List.not_mem_nil, or_false] at hr; first | (subst hr; rfl) | (rcases hr with rfl | rfl <;> rfl) | (rcases hr with rfl | rfl | rfl <;> rfl) | (rcases hr with rfl | rfl | rfl | rfl <;> rfl))
        | (refine And.intro ?_ ?_ <;> simp only [List.length_map, List.length_append, List.length_cons, List.length_nil] <;> omega))
      all_goals try (exfalso; simp at h; done)
    | true =>
      rw [h2] at hM
      obtain ⟨m1, m2, m3⟩ := machineOk_iffL.1 h2
      by_cases h0 : m.fState = 0
      · have hT := s_spec_l11Step s m h1 m1 (by omega)
        rw [← step_eq m2 hfp] at hT
        rw [if_pos ⟨rfl, rfl, h0⟩]
        repeat' (
          (conv => whnf)
          first
          | refine seq_inl ?_
          | refine reg_inl ?_
          | refine And.intro (Obl.out (?_ : Obl _)) ?_
          | refine ifB_intro (fun h => ?_) (fun h => ?_)
          | refine Or.inl (call_intro (hS) (And.intro (And.intro rfl (And.intro rfl (And.intro rfl trivial))) trivial) ?_)
          | refine Or.inl (call_intro (hM) (And.intro (And.intro rfl (And.intro rfl (And.intro rfl (And.intro rfl (And.intro rfl (And.intro rfl (And.intro rfl trivial))))))) trivial) ?_)
          | refine Exists.intro _ (And.intro rfl ?_)
          | ((with_reducible show _ = _); rfl))
        all_goals try (
          (with_reducible refine Obl.mk ?_)
          first
          | ((with_reducible show regOk _ _ = true); kernel_rfl)
          | ((with_reducible show eqTyOk _ _ = true); kernel_rfl)
          | ((with_reducible show regOkX _ _ _ _ = true); kernel_rfl)
          | ((with_reducible show condX _ _ _ _ _ _); (conv => whnf); rfl)
          | rfl
          | exact trivial
          | ((repeat' (first | exact trivial | refine And.intro ?_ ?_)); done)
          | decide
          | (intro r hr; simp only [List.mem_cons, List.not_mem_nil, or_false] at hr; first | (subst hr; rfl) | (rcases hr with rfl | rfl <;> rfl) | (rcases hr with rfl | rfl | rfl <;> rfl) | (rcases hr with rfl | rfl | rfl | rfl <;> rfl))
          | (refine And.intro ?_ ?_ <;> simp only [List.length_map, List.length_append, List.length_cons, List.length_nil] <;> omega))
        all_goals try (exfalso; simp [h0] at h; done)
        repeat' (
          (conv => whnf)
          first
          | refine Or.inl ?_
          | refine And.intro (Obl.out (?_ : Obl _)) ?_
          | refine ifB_intro (fun h => ?_) (fun h => ?_)
          | refine call_intro (hT) (And.intro (And.intro rfl (And.intro rfl (And.intro rfl trivial))) (And.intro (And.intro rfl (And.intro rfl (And.intro rfl (And.intro rfl (And.intro rfl (And.intro rfl (And.intro rfl trivial))))))) trivial)) ?_
          | refine Exists.intro _ (And.intro rfl ?_)
          | ((with_reducible show _ = _); rfl))
        all_goals try (
          (with_reducible refine Obl.mk ?_)
          first
          | ((with_reducible show regOk _ _ = true); kernel_rfl)
          | ((with_reducible show eqTyOk _ _ = true); kernel_rfl)
          | ((with_reducible show regOkX _ _ _ _ = true); kernel_rfl)
          | ((with_reducible show condX _ _ _ _ _ _); (conv => whnf); rfl)
          | rfl
          | exact trivial
          | ((repeat' (first | exact trivial | refine And.intro ?_ ?_)); done)
          | decide
          | (intro r hr; simp only [List.mem_cons, List.not_mem_nil, or_false] at hr; first | (subst hr; rfl) | (rcases hr with rfl | rfl <;> rfl) | (rcases hr with rfl | rfl | rfl <;> rfl) | (rcases hr with rfl | rfl | rfl | rfl <;> rfl))
          | (refine And.intro ?_ ?_ <;> simp only [List.length_map, List.length_append, List.length_cons, List.length_nil] <;> omega))
      · rw [if_neg (by simp [h0])]
        repeat' (
          (conv => whnf)
          first
          | refine seq_inl ?_
          | refine reg_inl ?_
          | refine And.intro (Obl.out (?_ : Obl _)) ?_
          | refine ifB_intro (fun h => ?_) (fun h => ?_)
          | refine Or.inl (call_intro (hS) (And.intro (And.intro rfl (And.intro rfl (And.intro rfl trivial))) trivial) ?_)
          | refine Or.inl (call_intro (hM) (And.intro (And.intro rfl (And.intro rfl (And.intro rfl (And.intro rfl (And.intro rfl (And.intro rfl (And.intro rfl trivial))))))) trivial) ?_)
          | refine Or.inl (call_intro (hC) (And.intro (And.intro rfl (And.intro rfl (And.intro rfl (And.intro rfl (And.intro rfl (And.intro rfl (And.intro rfl trivial))))))) trivial) ?_)
          | refine Exists.intro _ (And.intro rfl ?_)
          | ((with_reducible show _ = _); rfl))
        all_goals try (
          (with_reducible refine Obl.mk ?_)
          first
          | ((with_reducible show regOk _ _ = true); kernel_rfl)
          | ((with_reducible show eqTyOk _ _ = true); kernel_rfl)
          | ((with_reducible show regOkX _ _ _ _ = true); kernel_rfl)
          | ((with_reducible show condX _ _ _ _ _ _); (conv => whnf); rfl)
          | rfl
          | exact trivial
          | ((repeat' (first | exact trivial | refine And.intro ?_ ?_)); done)
          | decide
          | (intro r hr; simp only [List.mem_cons, List.not_mem_nil, or_false] at hr; first | (subst hr; rfl) | (rcases hr with rfl | rfl <;> rfl) | (rcases hr with rfl | rfl | rfl <;> rfl) | (rcases hr with rfl | rfl | rfl | rfl <;> rfl))
          | (refine And.intro ?_ ?_ <;> simp only [List.length_map, List.length_append, List.length_cons, List.length_nil] <;> omega))
        all_goals try (exfalso; exact h0 (by simpa using h))
theorem s_impl_StepMachine (s : TSpace) (m : TMachine) (hs : smallR 1048576 s.tr) (hms : smallR 1048576 m.tr) : Sim.Spec Try.prog 36 [.agg s.tr, .agg m.tr] (.r (.agg ((stepMach s m).tr.map resC))) := by
  have hS := s_impl_SpaceOk s hs
  have hM := s_impl_MachineOk m
  obtain ⟨k1, k2⟩ := mach_small hms
  have hC := s_impl_copyMachine m k1 (by omega)
  refine spec_of_W hΓ hmix Try.func36 rfl (by decide) rfl ?_
  unfold stepMach
  cases h1 : spaceOk s with
  | false =>
    rw [h1] at hS
    rw [if_neg (by simp)]
    repeat' (
      (conv => whnf)
      first
      | refine Or.inl ?_
      | refine And.intro (Obl.out (?_ : Obl _)) ?_
      | refine ifB_intro (fun h => ?_) (fun h => ?_)
      | refine call_intro (hS) (And.intro (And.intro rfl (And.intro rfl (And.intro rfl trivial))) trivial) ?_
      | refine call_intro (hM) (And.intro (And.intro rfl (And.intro rfl (And.intro rfl (And.intro rfl (And.intro rfl (And.intro rfl (And.intro rfl trivial))))))) trivial) ?_
      | refine call_intro (hC) (And.intro (And.intro rfl (And.intro rfl (And.intro rfl (And.intro rfl (And.intro rfl (And.intro rfl (And.intro rfl trivial))))))) trivial) ?_
      | refine Exists.intro _ (And.intro rfl ?_)
      | ((with_reducible show _ = _); rfl))
    all_goals try (
      (with_reducible refine Obl.mk ?_)
      first
      | ((with_reducible show regOk _ _ = true); kernel_rfl)
      | ((with_reducible show eqTyOk _ _ = true); kernel_rfl)
      | ((with_reducible show regOkX _ _ _ _ = true); kernel_rfl)
      | ((with_reducible show condX _ _ _ _ _ _); (conv => whnf); rfl)
      | rfl
      | exact trivial
      | ((repeat' (first | exact trivial | refine And.intro ?_ ?_)); done)
      | decide
      | (intro r hr; simp only [List.mem_cons, List.not_mem_nil, or_false] at hr; first | (subst hr; rfl) | (rcases hr with rfl | rfl <;> rfl) | (rcases hr with rfl | rfl | rfl <;> rfl) | (rcases hr with rfl | rfl | rfl | rfl <;> rfl))
      | (refine And.intro ?_ ?_ <;> simp only [List.length_map, List.length_append, List.length_cons, List.length_nil] <;> omega))
    all_goals try (exfalso; simp at h; done)
  | true =>
    rw [h1] at hS
    cases h2 : machineOk m with
    | false =>
      rw [h2] at hM
      rw [if_neg (by simp)]
      repeat' (
        (conv => whnf)
        first
        | refine Or.inl ?_
        | refine And.intro (Obl.out (?_ : Obl _)) ?_
        | refine ifB_intro (fun h => ?_) (fun h => ?_)
        | refine call_intro (hS) (And.intro (And.intro rfl (And.intro rfl (And.intro rfl trivial))) trivial) ?_
        | refine call_intro (hM) (And.intro (And.intro rfl (And.intro rfl (And.intro rfl (And.intro rfl (And.intro rfl (And.intro rfl (And.intro rfl trivial))))))) trivial) ?_
        | refine call_intro (hC) (And.intro (And.intro rfl (And.intro rfl (And.intro rfl (And.intro rfl (And.intro rfl (And.intro rfl (And.intro rfl trivial))))))) trivial) ?_
        | refine Exists.intro _ (And.intro rfl ?_)
        | ((with_reducible show _ = _); rfl))
      all_goals try (
        (with_reducible refine Obl.mk ?_)
        first
        | ((with_reducible show regOk _ _ = true); kernel_rfl)
        | ((with_reducible show eqTyOk _ _ = true); kernel_rfl)
        | ((with_reducible show regOkX _ _ _ _ = true); kernel_rfl)
        | ((with_reducible show condX _ _ _ _ _ _); (conv => whnf); rfl)
        | rfl
        | exact trivial
        | ((repeat' (first | exact trivial | refine And.intro ?_ ?_)); done)
        | decide
        | (intro r hr; simp only [List.mem_cons, List.not_mem_nil, or_false] at hr; first | (subst hr; rfl) | (rcases hr with rfl | rfl <;> rfl) | (rcases hr with rfl | rfl | rfl <;> rfl) | (rcases hr with rfl | rfl | rfl | rfl <;> rfl))
        | (refine And.intro ?_ ?_ <;> simp only [List.length_map, List.length_append, List.length_cons, List.length_nil] <;> omega))
      all_goals try (exfalso; simp at h; done)
    | true =>
      rw [h2] at hM
      obtain ⟨m1, m2, m3⟩ := machineOk_iffL.1 h2
      by_cases h0 : m.fState = 0
      · have hT := g_impl_stepT s m h1 m1 (by omega) h0 _ rfl
        have hlen := stepP_len (s := s) (m := m) m1
        have hout := stepP_out (s := s) (m := m)
        rw [if_pos ⟨rfl, rfl, h0⟩]
        cases hr : stepP s m with
        | none =>
          rw [hr] at hT
          have hB := s_impl_copyMachine (badM m) k1 (by have : (badM m).fOut = m.fOut := rfl; rw [this]; omega)
          repeat' (
            (conv => whnf)
            first
            | refine callG_intro (hT) ?_
            | refine seq_inl ?_
            | refine reg_inl ?_
            | refine And.intro (Obl.out (?_ : Obl _)) ?_
            | refine ifB_intro (fun h => ?_) (fun h => ?_)
            | refine Or.inl (call_intro (hS) (And.intro (And.intro rfl (And.intro rfl (And.intro rfl trivial))) trivial) ?_)
            | refine Or.inl (call_intro (hM) (And.intro (And.intro rfl (And.intro rfl (And.intro rfl (And.intro rfl (And.intro rfl (And.intro rfl (And.intro rfl trivial))))))) trivial) ?_)
            | refine Or.inl (call_intro (hB) (And.intro (And.intro rfl (And.intro rfl (And.intro rfl (And.intro rfl (And.intro rfl (And.intro rfl (And.intro rfl trivial))))))) trivial) ?_)
            | refine Exists.intro _ (And.intro rfl ?_)
            | ((with_reducible show _ = _); rfl))
          all_goals try (
            (with_reducible refine Obl.mk ?_)
            first
            | ((with_reducible show regOk _ _ = true); kernel_rfl)
            | ((with_reducible show eqTyOk _ _ = true); kernel_rfl)
            | ((with_reducible show regOkX _ _ _ _ = true); kernel_rfl)
            | ((with_reducible show condX _ _ _ _ _ _); (conv => whnf); rfl)
            | rfl
            | exact trivial
            | ((repeat' (first | exact trivial | refine And.intro ?_ ?_)); done)
            | decide
            | (intro r hr; simp only [List.mem_cons, List.not_mem_nil, or_false] at hr; first | (subst hr; rfl) | (rcases hr with rfl | rfl <;> rfl) | (rcases hr with rfl | rfl | rfl <;> rfl) | (rcases hr with rfl | rfl | rfl | rfl <;> rfl))
            | (refine And.intro ?_ ?_ <;> simp only [List.length_map, List.length_append, List.length_cons, List.length_nil] <;> omega))
        | some m' =>
          rw [hr] at hT hlen hout
          have hB := s_impl_copyMachine m' (by have := hlen m' rfl; omega) (by have := hout m' rfl; omega)
          repeat' (
            (conv => whnf)
            first
            | refine callG_intro (hT) ?_
            | refine seq_inl ?_
            | refine reg_inl ?_
            | refine And.intro (Obl.out (?_ : Obl _)) ?_
            | refine ifB_intro (fun h => ?_) (fun h => ?_)
            | refine Or.inl (call_intro (hS) (And.intro (And.intro rfl (And.intro rfl (And.intro rfl trivial))) trivial) ?_)
            | refine Or.inl (call_intro (hM) (And.intro (And.intro rfl (And.intro rfl (And.intro rfl (And.intro rfl (And.intro rfl (And.intro rfl (And.intro rfl trivial))))))) trivial) ?_)
            | refine Or.inl (call_intro (hB) (And.intro (And.intro rfl (And.intro rfl (And.intro rfl (And.intro rfl (And.intro rfl (And.intro rfl (And.intro rfl trivial))))))) trivial) ?_)
            | refine Exists.intro _ (And.intro rfl ?_)
            | ((with_reducible show _ = _); rfl))
          all_goals try (
            (with_reducible refine Obl.mk ?_)
            first
            | ((with_reducible show regOk _ _ = true); kernel_rfl)
            | ((with_reducible show eqTyOk _ _ = true); kernel_rfl)
            | ((with_reducible show regOkX _ _ _ _ = true); kernel_rfl)
            | ((with_reducible show condX _ _ _ _ _ _); (conv => whnf); rfl)
            | rfl
            | exact trivial
            | ((repeat' (first | exact trivial | refine And.intro ?_ ?_)); done)
            | decide
            | (intro r hr; simp only [List.mem_cons, List.not_mem_nil, or_false] at hr; first | (subst hr; rfl) | (rcases hr with rfl | rfl <;> rfl) | (rcases hr with rfl | rfl | rfl <;> rfl) | (rcases hr with rfl | rfl | rfl | rfl <;> rfl))
            | (refine And.intro ?_ ?_ <;> simp only [List.length_map, List.length_append, List.length_cons, List.length_nil] <;> omega))
      · rw [if_neg (by simp [h0])]
        have hT := g_impl_stepT_same s m h0
        repeat' (
          (conv => whnf)
          first
          | refine callG_intro (hT) ?_
          | refine seq_inl ?_
          | refine reg_inl ?_
          | refine And.intro (Obl.out (?_ : Obl _)) ?_
          | refine ifB_intro (fun h => ?_) (fun h => ?_)
          | refine Or.inl (call_intro (hS) (And.intro (And.intro rfl (And.intro rfl (And.intro rfl trivial))) trivial) ?_)
          | refine Or.inl (call_intro (hM) (And.intro (And.intro rfl (And.intro rfl (And.intro rfl (And.intro rfl (And.intro rfl (And.intro rfl (And.intro rfl trivial))))))) trivial) ?_)
          | refine Or.inl (call_intro (hC) (And.intro (And.intro rfl (And.intro rfl (And.intro rfl (And.intro rfl (And.intro rfl (And.intro rfl (And.intro rfl trivial))))))) trivial) ?_)
          | refine Exists.intro _ (And.intro rfl ?_)
          | ((with_reducible show _ = _); rfl))
        all_goals try (
          (with_reducible refine Obl.mk ?_)
          first
          | ((with_reducible show regOk _ _ = true); kernel_rfl)
          | ((with_reducible show eqTyOk _ _ = true); kernel_rfl)
          | ((with_reducible show regOkX _ _ _ _ = true); kernel_rfl)
          | ((with_reducible show condX _ _ _ _ _ _); (conv => whnf); rfl)
          | rfl
          | exact trivial
          | ((repeat' (first | exact trivial | refine And.intro ?_ ?_)); done)
          | decide
          | (intro r hr; simp only [List.mem_cons, List.not_mem_nil, or_false] at hr; first | (subst hr; rfl) | (rcases hr with rfl | rfl <;> rfl) | (rcases hr with rfl | rfl | rfl <;> rfl) | (rcases hr with rfl | rfl | rfl | rfl <;> rfl))
          | (refine And.intro ?_ ?_ <;> simp only [List.length_map, List.length_append, List.length_cons, List.length_nil] <;> omega))
theorem mach_sum {m : TMachine} {l : Int} (h : 0 ≤ szR m.tr l) : (m.fStack.length : Int) + m.fOut.length ≤ l := by
  rw [TMachine.tr] at h
  obtain ⟨h1, h⟩ := szR_cons h
  obtain ⟨h2, h⟩ := szR_cons h
  obtain ⟨h3, h⟩ := szR_cons h
  obtain ⟨h4, h⟩ := szR_cons h
  obtain ⟨h5, h⟩ := szR_cons h
  have e1 : szT (.int .i64 m.fPc) l ≤ l := by rw [szT]; omega
  have e2 : szT (.int .i64 m.fSp) (szT (.int .i64 m.fPc) l) ≤ szT (.int .i64 m.fPc) l := by rw [szT]; omega
  have e3 : szT (.int .i64 m.fFp) (szT (.int .i64 m.fSp) (szT (.int .i64 m.fPc) l)) ≤ szT (.int .i64 m.fSp) (szT (.int .i64 m.fPc) l) := by rw [szT]; omega
  have e4 := szT_less h4
  have e5 := szT_less h5
  simp only [List.length_map] at e4 e5
  omega
theorem stepMach_small {s : TSpace} {m : TMachine} {l : Int} (hs : smallR 1048576 m.tr) (hl : l ≤ 1048576) (h : 0 ≤ szR m.tr l) : smallR 1048576 (stepMach s m).tr := by
  have h1 := mach_sum h
  unfold stepMach
  split
  · rename_i hc
    obtain ⟨_, h2, _⟩ := hc
    have h3 := (machineOk_iffL.1 h2).1
    cases hr : stepP s m with
    | none => simp only [stepR, badM, TMachine.tr, smallR] at hs ⊢; exact ⟨trivial, trivial, trivial, hs.2.2.2.1, hs.2.2.2.2.1, trivial, trivial, trivial⟩
    | some m' =>
      have e1 := stepP_len h3 m' hr
      have e2 := stepP_out m' hr
      simp only [stepR, TMachine.tr, smallR]
      exact ⟨by simp [smallT], by simp [smallT], by simp [smallT], small_Ints (by omega), small_Ints (by omega), by simp [smallT], by simp [smallT], trivial⟩
  · exact hs
end Go.Proofs.Ytflolafbblohnaa
