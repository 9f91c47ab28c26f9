/- StepMachine of the reference, and of the program. -/
import Derived.Test.YtehniaekfijmiaaFnsZk
namespace Go.Proofs.Ytehniaekfijmiaa
open Go.Sim
set_option maxRecDepth 100000
set_option maxHeartbeats 8000000
theorem s_spec_l10Fetch (i0 i1 : TImage) (b0 b1 a : Int) (es : List Int) (hb0 : 0 ≤ b0 ∧ b0 ≤ 1000000) (hb1 : 0 ≤ b1 ∧ b1 ≤ 1000000) (l0 : i0.fCode.length ≤ 1000000) (l1 : i1.fCode.length ≤ 1000000) : Sim.Spec Try.prog 129 [.agg (TSpace.mk [i0, i1] [b0, b1] es).tr, tvI a] (rOp (fetchP ⟨[i0, i1], [b0, b1], es⟩ a)) := by
  have hL := s_spec_l10Locate i0 i1 b0 b1 a es hb0 hb1 (by omega) (by omega)
  refine spec_of_W hΓ hmix Try.func129 rfl (by decide) rfl ?_
  have hloc : locS ⟨[i0, i1], [b0, b1], es⟩ a = loc2 i0 i1 b0 b1 a := rfl
  rcases loc2_cases i0 i1 b0 b1 a with hx | ⟨i, off, hi, hx⟩
  · rw [hx] at hL
    have hf : fetchP ⟨[i0, i1], [b0, b1], es⟩ a = none := by rw [fetchP, hloc, hx]; rfl
    rw [hf]
    repeat' ((conv => whnf); first | refine Or.inl ?_ | refine And.intro (Obl.out (?_ : Obl _)) ?_ | refine ifB_intro (fun h => ?_) (fun h => ?_) | refine call_intro (hL) (And.intro (And.intro rfl (And.intro rfl (And.intro rfl trivial))) (And.intro rfl trivial)) ?_ | refine Exists.intro _ (And.intro rfl ?_) | ((with_reducible show _ = _); rfl))
    all_goals try ((with_reducible refine Obl.mk ?_); first | ((with_reducible show regOk _ _ = true); kernel_rfl) | ((with_reducible show eqTyOk _ _ = true); kernel_rfl) | rfl | exact trivial | ((repeat' (first | exact trivial | refine And.intro ?_ ?_)); done) | decide | ((repeat' (first | exact List.forall_mem_nil _ | refine List.forall_mem_cons.2 (And.intro rfl ?_))); done) | (refine And.intro ?_ ?_ <;> simp only [List.length_map, List.length_append, List.length_cons, List.length_nil] <;> omega))
    all_goals try (exfalso; simp at h; done)
  · have hoff := loc2_off (b0 := b0) (b1 := b1) (a := a) l0 l1
    rw [hx] at hL hoff
    dsimp only at hoff
    obtain ⟨im, hi1, hi2, hil⟩ := get2_imgs hi l0 l1
    have hD := s_spec_DecodeOp im.fCode off (by omega) (by omega)
    have hf : fetchP ⟨[i0, i1], [b0, b1], es⟩ a = decodeOp im.fCode off := by
      rw [fetchP, hloc, hx]
      dsimp only
      rw [if_neg (by omega), Int.toNat_natCast, hi1]
    rw [hf]
    repeat' ((conv => whnf); first | refine Or.inl ?_ | refine And.intro (Obl.out (?_ : Obl _)) ?_ | refine ifB_intro (fun h => ?_) (fun h => ?_) | refine call_intro (hL) (And.intro (And.intro rfl (And.intro rfl (And.intro rfl trivial))) (And.intro rfl trivial)) ?_ | refine ⟨i, im.tr, rfl, hi2, ?_⟩ | refine call_intro (hD) (And.intro rfl (And.intro rfl trivial)) ?_ | refine Exists.intro _ (And.intro rfl ?_) | ((with_reducible show _ = _); rfl))
    all_goals try ((with_reducible refine Obl.mk ?_); first | ((with_reducible show regOk _ _ = true); kernel_rfl) | ((with_reducible show eqTyOk _ _ = true); kernel_rfl) | rfl | exact trivial | ((repeat' (first | exact trivial | refine And.intro ?_ ?_)); done) | decide | ((repeat' (first | exact List.forall_mem_nil _ | refine List.forall_mem_cons.2 (And.intro rfl ?_))); done) | (refine And.intro ?_ ?_ <;> simp only [List.length_map, List.length_append, List.length_cons, List.length_nil] <;> omega))
    all_goals try (exfalso; have h' := of_decide_eq_true h; omega)
def stepR (m : TMachine) : Option TMachine → TMachine
  | none => badM m
  | some m' => m'
theorem qPut_ok {c : CS} {a v : Int} (h : c.ok) : (qPut c a v).ok := by
  unfold qPut CS.ok at *
  split
  · simpa [setAt] using h
  · exact h
theorem qPerf_ok {es : List Int} {c : CS} {x : TOp} (h : c.ok) : (qPerf es c x).ok := by
  unfold qPerf
  refine ite_q (CS.ok) (qPush_ok h) ?_
  refine ite_q (CS.ok) (qPush_ok (cAt_ok h)) ?_
  refine ite_q (CS.ok) (qPush_ok (cAt_ok h)) ?_
  refine ite_q (CS.ok) (qPut_ok (cPop_ok h)) ?_
  refine ite_q (CS.ok) (qPut_ok (cPop_ok h)) ?_
  refine ite_q (CS.ok) h ?_
  refine ite_q (CS.ok) (by unfold qZero; split <;> exact cPop_ok h) ?_
  refine ite_q (CS.ok) (by unfold qGoto; split; · exact qPush_ok h
                           · exact h) ?_
  refine ite_q (CS.ok) (qZeros_ok (qPush_ok h)) ?_
  refine ite_q (CS.ok) (qZeros_ok h) ?_
  refine ite_q (CS.ok) (by unfold qLeave; split; · exact qPush_ok (cDrop_ok (cPop_ok (cPop_ok (cPop_ok h))))
                           · exact cPop_ok h) ?_
  refine ite_q (CS.ok) (qPush_ok (cDrop_ok (cPop_ok (cDrop_ok (cPop_ok h))))) ?_
  refine ite_q (CS.ok) (cPop_ok h) ?_
  exact qPush_ok (cPop_ok (cPop_ok h))
theorem s_spec_l11Step (s : TSpace) (m : TMachine) (hok : spaceOk s = true) (hm : m.fStack.length = 1200) (ho : m.fOut.length ≤ 2000000) : Sim.Spec Try.prog 70 [.agg s.tr, .agg m.tr] (.r (.agg ((stepR m (stepQ s m)).tr.map resC))) := by
  obtain ⟨i0, i1, b0, b1, hsh, ⟨e1, e2⟩, ⟨g0, p0, p1⟩, ⟨g1, q0, q1⟩, _, _⟩ := spaceOk_inv hok
  have l0 := (imageOk_iff.1 g0).1
  have l1 := (imageOk_iff.1 g1).1
  have hF := s_spec_l10Fetch i0 i1 b0 b1 m.fPc s.fEntries (by omega) (by omega) l0 l1
  have hC := s_spec_l11Copy m (by omega) ho
  obtain ⟨im, bs, es⟩ := s
  dsimp only at hsh hF e2
  injection hsh with h1 h2
  subst h1
  subst h2
  refine spec_of_W hΓ hmix Try.func70 rfl (by decide) rfl ?_
  obtain ⟨r, hr⟩ : ∃ r, stepQ ⟨[i0, i1], [b0, b1], es⟩ m = r := ⟨_, rfl⟩
  rw [hr]
  cases hf : fetchP ⟨[i0, i1], [b0, b1], es⟩ m.fPc with
  | none =>
    rw [hf] at hF
    have : r = none := by rw [← hr, stepQ, hf]
    subst this
    repeat' ((conv => whnf); first | refine seq_inl ?_ | refine reg_inl ?_ | refine And.intro (Obl.out (?_ : Obl _)) ?_ | refine ifB_intro (fun h => ?_) (fun h => ?_) | refine Or.inl (call_intro (hC) (And.intro (And.intro rfl (And.intro rfl (And.intro rfl (And.intro rfl (And.intro rfl (And.intro rfl (And.intro rfl trivial))))))) trivial) ?_) | refine Or.inl (call_intro (hF) (And.intro (And.intro rfl (And.intro rfl (And.intro rfl trivial))) (And.intro rfl trivial)) ?_) | refine Exists.intro _ (And.intro rfl ?_) | ((with_reducible show _ = _); rfl))
    all_goals try ((with_reducible refine Obl.mk ?_); first | ((with_reducible show regOk _ _ = true); kernel_rfl) | ((with_reducible show eqTyOk _ _ = true); kernel_rfl) | rfl | exact trivial | ((repeat' (first | exact trivial | refine And.intro ?_ ?_)); done) | decide | ((repeat' (first | exact List.forall_mem_nil _ | refine List.forall_mem_cons.2 (And.intro rfl ?_))); done) | (refine And.intro ?_ ?_ <;> simp only [List.length_map, List.length_append, List.length_cons, List.length_nil] <;> omega))
    all_goals exact ⟨⟨rfl, flat_ints _⟩⟩
  | some xz =>
    obtain ⟨x, z⟩ := xz
    rw [hf] at hF
    obtain ⟨t, p, hd⟩ := fetchP_arg hf
    obtain ⟨c0, c1, _, z5⟩ := decodeOp_arg hd
    have hr2 : endM (qPerf es (adv ⟨m, false⟩ z) x) = r := by rw [← hr, stepQ, hf]
    by_cases h17 : x.fCode = 17
    · have hxx : x = ⟨17, x.fArg⟩ := by rw [← h17]
      have hP := g_cpu_out ⟨[i0, i1], [b0, b1], es⟩ ⟨m, false⟩ x.fArg z hm ho
      rw [← hxx] at hP
      have hcc : qPerf es (adv ⟨m, false⟩ z) x = qOut (adv ⟨m, false⟩ z) := by rw [hxx]; simp [qPerf]
      rw [hcc] at hr2
      have hco : (qOut (adv ⟨m, false⟩ z)).ok := cPop_ok (c := adv ⟨m, false⟩ z) hm
      generalize qOut (adv ⟨m, false⟩ z) = c at *
      have hW := g_cpu_word c c.m.fSp hco
      obtain ⟨cm, cb⟩ := c
      unfold cAt at hW
      dsimp only at hW
      cases cb with
      | true =>
        have : r = none := by rw [← hr2]; rfl
        subst this
        repeat' ((conv => whnf); first | refine callG_intro (hP) ?_ | refine seq_inl ?_ | refine reg_inl ?_ | refine And.intro (Obl.out (?_ : Obl _)) ?_ | refine ifB_intro (fun h => ?_) (fun h => ?_) | refine Or.inl (call_intro (hC) (And.intro (And.intro rfl (And.intro rfl (And.intro rfl (And.intro rfl (And.intro rfl (And.intro rfl (And.intro rfl trivial))))))) trivial) ?_) | refine Or.inl (call_intro (hF) (And.intro (And.intro rfl (And.intro rfl (And.intro rfl trivial))) (And.intro rfl trivial)) ?_) | refine Exists.intro _ (And.intro rfl ?_) | ((with_reducible show _ = _); rfl))
        all_goals try ((with_reducible refine Obl.mk ?_); first | ((with_reducible show regOk _ _ = true); kernel_rfl) | ((with_reducible show eqTyOk _ _ = true); kernel_rfl) | rfl | exact trivial | ((repeat' (first | exact trivial | refine And.intro ?_ ?_)); done) | decide | ((repeat' (first | exact List.forall_mem_nil _ | refine List.forall_mem_cons.2 (And.intro rfl ?_))); done) | (refine And.intro ?_ ?_ <;> simp only [List.length_map, List.length_append, List.length_cons, List.length_nil] <;> omega))
        all_goals exact ⟨⟨rfl, flat_ints _⟩⟩
      | false =>
        by_cases hpc : cm.fPc = 0
        · cases hin : inStk cm.fSp with
          | false =>
            rw [hin] at hW
            have : r = none := by rw [← hr2]; simp [endM, hpc, hin]
            subst this
            repeat' ((conv => whnf); first | refine callG_intro (hP) ?_ | refine callG_intro (hW) ?_ | refine seq_inl ?_ | refine reg_inl ?_ | refine And.intro (Obl.out (?_ : Obl _)) ?_ | refine ifB_intro (fun h => ?_) (fun h => ?_) | refine Or.inl (call_intro (hC) (And.intro (And.intro rfl (And.intro rfl (And.intro rfl (And.intro rfl (And.intro rfl (And.intro rfl (And.intro rfl trivial))))))) trivial) ?_) | refine Or.inl (call_intro (hF) (And.intro (And.intro rfl (And.intro rfl (And.intro rfl trivial))) (And.intro rfl trivial)) ?_) | refine Exists.intro _ (And.intro rfl ?_) | ((with_reducible show _ = _); rfl))
            all_goals try ((with_reducible refine Obl.mk ?_); first | ((with_reducible show regOk _ _ = true); kernel_rfl) | ((with_reducible show eqTyOk _ _ = true); kernel_rfl) | rfl | exact trivial | ((repeat' (first | exact trivial | refine And.intro ?_ ?_)); done) | decide | ((repeat' (first | exact List.forall_mem_nil _ | refine List.forall_mem_cons.2 (And.intro rfl ?_))); done) | (refine And.intro ?_ ?_ <;> simp only [List.length_map, List.length_append, List.length_cons, List.length_nil] <;> omega))
            all_goals try (exfalso; simp [hpc] at h; done)
            all_goals exact ⟨⟨rfl, flat_ints _⟩⟩
          | true =>
            rw [hin] at hW
            have : r = some { cm with fState := 1, fValue := qVal ⟨cm, false⟩ cm.fSp } := by rw [← hr2]; simp [endM, hpc, hin, qVal]
            subst this
            repeat' ((conv => whnf); first | refine callG_intro (hP) ?_ | refine callG_intro (hW) ?_ | refine seq_inl ?_ | refine reg_inl ?_ | refine And.intro (Obl.out (?_ : Obl _)) ?_ | refine ifB_intro (fun h => ?_) (fun h => ?_) | refine Or.inl (call_intro (hC) (And.intro (And.intro rfl (And.intro rfl (And.intro rfl (And.intro rfl (And.intro rfl (And.intro rfl (And.intro rfl trivial))))))) trivial) ?_) | refine Or.inl (call_intro (hF) (And.intro (And.intro rfl (And.intro rfl (And.intro rfl trivial))) (And.intro rfl trivial)) ?_) | refine Exists.intro _ (And.intro rfl ?_) | ((with_reducible show _ = _); rfl))
            all_goals try ((with_reducible refine Obl.mk ?_); first | ((with_reducible show regOk _ _ = true); kernel_rfl) | ((with_reducible show eqTyOk _ _ = true); kernel_rfl) | rfl | exact trivial | ((repeat' (first | exact trivial | refine And.intro ?_ ?_)); done) | decide | ((repeat' (first | exact List.forall_mem_nil _ | refine List.forall_mem_cons.2 (And.intro rfl ?_))); done) | (refine And.intro ?_ ?_ <;> simp only [List.length_map, List.length_append, List.length_cons, List.length_nil] <;> omega))
            all_goals try (exfalso; simp [hpc] at h; done)
            all_goals exact ⟨⟨rfl, flat_ints _⟩⟩
        · have : r = some cm := by rw [← hr2]; simp [endM, hpc]
          subst this
          repeat' ((conv => whnf); first | refine callG_intro (hP) ?_ | refine seq_inl ?_ | refine reg_inl ?_ | refine And.intro (Obl.out (?_ : Obl _)) ?_ | refine ifB_intro (fun h => ?_) (fun h => ?_) | refine Or.inl (call_intro (hC) (And.intro (And.intro rfl (And.intro rfl (And.intro rfl (And.intro rfl (And.intro rfl (And.intro rfl (And.intro rfl trivial))))))) trivial) ?_) | refine Or.inl (call_intro (hF) (And.intro (And.intro rfl (And.intro rfl (And.intro rfl trivial))) (And.intro rfl trivial)) ?_) | refine Exists.intro _ (And.intro rfl ?_) | ((with_reducible show _ = _); rfl))
          all_goals try ((with_reducible refine Obl.mk ?_); first | ((with_reducible show regOk _ _ = true); kernel_rfl) | ((with_reducible show eqTyOk _ _ = true); kernel_rfl) | rfl | exact trivial | ((repeat' (first | exact trivial | refine And.intro ?_ ?_)); done) | decide | ((repeat' (first | exact List.forall_mem_nil _ | refine List.forall_mem_cons.2 (And.intro rfl ?_))); done) | (refine And.intro ?_ ?_ <;> simp only [List.length_map, List.length_append, List.length_cons, List.length_nil] <;> omega))
          all_goals try (exfalso; simp [hpc] at h; done)
          all_goals exact ⟨⟨rfl, flat_ints _⟩⟩
    · have hP := g_cpu_perform ⟨[i0, i1], [b0, b1], es⟩ ⟨m, false⟩ x z hm h17 c0 c1 (by dsimp only; omega)
      have hco : (qPerf es (adv ⟨m, false⟩ z) x).ok := qPerf_ok hm
      dsimp only at hP
      generalize qPerf es (adv ⟨m, false⟩ z) x = c at *
      have hW := g_cpu_word c c.m.fSp hco
      obtain ⟨cm, cb⟩ := c
      unfold cAt at hW
      dsimp only at hW
      cases cb with
      | true =>
        have : r = none := by rw [← hr2]; rfl
        subst this
        repeat' ((conv => whnf); first | refine callG_intro (hP) ?_ | refine seq_inl ?_ | refine reg_inl ?_ | refine And.intro (Obl.out (?_ : Obl _)) ?_ | refine ifB_intro (fun h => ?_) (fun h => ?_) | refine Or.inl (call_intro (hC) (And.intro (And.intro rfl (And.intro rfl (And.intro rfl (And.intro rfl (And.intro rfl (And.intro rfl (And.intro rfl trivial))))))) trivial) ?_) | refine Or.inl (call_intro (hF) (And.intro (And.intro rfl (And.intro rfl (And.intro rfl trivial))) (And.intro rfl trivial)) ?_) | refine Exists.intro _ (And.intro rfl ?_) | ((with_reducible show _ = _); rfl))
        all_goals try ((with_reducible refine Obl.mk ?_); first | ((with_reducible show regOk _ _ = true); kernel_rfl) | ((with_reducible show eqTyOk _ _ = true); kernel_rfl) | rfl | exact trivial | ((repeat' (first | exact trivial | refine And.intro ?_ ?_)); done) | decide | ((repeat' (first | exact List.forall_mem_nil _ | refine List.forall_mem_cons.2 (And.intro rfl ?_))); done) | (refine And.intro ?_ ?_ <;> simp only [List.length_map, List.length_append, List.length_cons, List.length_nil] <;> omega))
        all_goals exact ⟨⟨rfl, flat_ints _⟩⟩
      | false =>
        by_cases hpc : cm.fPc = 0
        · cases hin : inStk cm.fSp with
          | false =>
            rw [hin] at hW
            have : r = none := by rw [← hr2]; simp [endM, hpc, hin]
            subst this
            repeat' ((conv => whnf); first | refine callG_intro (hP) ?_ | refine callG_intro (hW) ?_ | refine seq_inl ?_ | refine reg_inl ?_ | refine And.intro (Obl.out (?_ : Obl _)) ?_ | refine ifB_intro (fun h => ?_) (fun h => ?_) | refine Or.inl (call_intro (hC) (And.intro (And.intro rfl (And.intro rfl (And.intro rfl (And.intro rfl (And.intro rfl (And.intro rfl (And.intro rfl trivial))))))) trivial) ?_) | refine Or.inl (call_intro (hF) (And.intro (And.intro rfl (And.intro rfl (And.intro rfl trivial))) (And.intro rfl trivial)) ?_) | refine Exists.intro _ (And.intro rfl ?_) | ((with_reducible show _ = _); rfl))
            all_goals try ((with_reducible refine Obl.mk ?_); first | ((with_reducible show regOk _ _ = true); kernel_rfl) | ((with_reducible show eqTyOk _ _ = true); kernel_rfl) | rfl | exact trivial | ((repeat' (first | exact trivial | refine And.intro ?_ ?_)); done) | decide | ((repeat' (first | exact List.forall_mem_nil _ | refine List.forall_mem_cons.2 (And.intro rfl ?_))); done) | (refine And.intro ?_ ?_ <;> simp only [List.length_map, List.length_append, List.length_cons, List.length_nil] <;> omega))
            all_goals try (exfalso; simp [hpc] at h; done)
            all_goals exact ⟨⟨rfl, flat_ints _⟩⟩
          | true =>
            rw [hin] at hW
            have : r = some { cm with fState := 1, fValue := qVal ⟨cm, false⟩ cm.fSp } := by rw [← hr2]; simp [endM, hpc, hin, qVal]
            subst this
            repeat' ((conv => whnf); first | refine callG_intro (hP) ?_ | refine callG_intro (hW) ?_ | refine seq_inl ?_ | refine reg_inl ?_ | refine And.intro (Obl.out (?_ : Obl _)) ?_ | refine ifB_intro (fun h => ?_) (fun h => ?_) | refine Or.inl (call_intro (hC) (And.intro (And.intro rfl (And.intro rfl (And.intro rfl (And.intro rfl (And.intro rfl (And.intro rfl (And.intro rfl trivial))))))) trivial) ?_) | refine Or.inl (call_intro (hF) (And.intro (And.intro rfl (And.intro rfl (And.intro rfl trivial))) (And.intro rfl trivial)) ?_) | refine Exists.intro _ (And.intro rfl ?_) | ((with_reducible show _ = _); rfl))
            all_goals try ((with_reducible refine Obl.mk ?_); first | ((with_reducible show regOk _ _ = true); kernel_rfl) | ((with_reducible show eqTyOk _ _ = true); kernel_rfl) | rfl | exact trivial | ((repeat' (first | exact trivial | refine And.intro ?_ ?_)); done) | decide | ((repeat' (first | exact List.forall_mem_nil _ | refine List.forall_mem_cons.2 (And.intro rfl ?_))); done) | (refine And.intro ?_ ?_ <;> simp only [List.length_map, List.length_append, List.length_cons, List.length_nil] <;> omega))
            all_goals try (exfalso; simp [hpc] at h; done)
            all_goals exact ⟨⟨rfl, flat_ints _⟩⟩
        · have : r = some cm := by rw [← hr2]; simp [endM, hpc]
          subst this
          repeat' ((conv => whnf); first | refine callG_intro (hP) ?_ | refine seq_inl ?_ | refine reg_inl ?_ | refine And.intro (Obl.out (?_ : Obl _)) ?_ | refine ifB_intro (fun h => ?_) (fun h => ?_) | refine Or.inl (call_intro (hC) (And.intro (And.intro rfl (And.intro rfl (And.intro rfl (And.intro rfl (And.intro rfl (And.intro rfl (And.intro rfl trivial))))))) trivial) ?_) | refine Or.inl (call_intro (hF) (And.intro (And.intro rfl (And.intro rfl (And.intro rfl trivial))) (And.intro rfl trivial)) ?_) | refine Exists.intro _ (And.intro rfl ?_) | ((with_reducible show _ = _); rfl))
          all_goals try ((with_reducible refine Obl.mk ?_); first | ((with_reducible show regOk _ _ = true); kernel_rfl) | ((with_reducible show eqTyOk _ _ = true); kernel_rfl) | rfl | exact trivial | ((repeat' (first | exact trivial | refine And.intro ?_ ?_)); done) | decide | ((repeat' (first | exact List.forall_mem_nil _ | refine List.forall_mem_cons.2 (And.intro rfl ?_))); done) | (refine And.intro ?_ ?_ <;> simp only [List.length_map, List.length_append, List.length_cons, List.length_nil] <;> omega))
          all_goals try (exfalso; simp [hpc] at h; done)
          all_goals exact ⟨⟨rfl, flat_ints _⟩⟩
theorem endM_some {c : CS} {m' : TMachine} (h : endM c = some m') : m'.fStack = c.m.fStack ∧ m'.fOut = c.m.fOut ∧ m'.fSp = c.m.fSp ∧ m'.fFp = c.m.fFp ∧ m'.fPc = c.m.fPc ∧ c.bad = false := by
  unfold endM at h
  split at h
  · cases h
  · rename_i hb
    have hb' : c.bad = false := by simpa using hb
    split at h
    · split at h
      · injection h with h; subst h; exact ⟨rfl, rfl, rfl, rfl, rfl, hb'⟩
      · cases h
    · injection h with h; subst h; exact ⟨rfl, rfl, rfl, rfl, rfl, hb'⟩
theorem stepP_some {s : TSpace} {m m' : TMachine} (h : stepP s m = some m') : ∃ x, fetchP s m.fPc = some x ∧ endM (cPerf s.fEntries (adv ⟨m, false⟩ x.2) x.1) = some m' := by
  unfold stepP at h
  split at h
  · cases h
  · rename_i x hx; exact ⟨x, hx, h⟩
theorem stepP_len {s : TSpace} {m : TMachine} (hm : m.fStack.length = 1200) : ∀ m', stepP s m = some m' → m'.fStack.length = 1200 := by
  intro m' h
  obtain ⟨x, _, h2⟩ := stepP_some h
  rw [(endM_some h2).1]
  exact cPerf_ok (c := adv ⟨m, false⟩ x.2) hm
theorem stepP_out {s : TSpace} {m : TMachine} : ∀ m', stepP s m = some m' → m'.fOut.length ≤ m.fOut.length + 1 := by
  intro m' h
  obtain ⟨x, _, h2⟩ := stepP_some h
  rw [(endM_some h2).2.1]
  exact cPerf_out (c := adv ⟨m, false⟩ x.2)
theorem machineOk_iffL {m : TMachine} : machineOk m = true ↔ m.fStack.length = 1200 ∧ (0 ≤ m.fSp ∧ m.fSp ≤ 1200) ∧ 0 ≤ m.fState ∧ m.fState ≤ 2 := by
  rw [machineOk, Bool.and_eq_true, Bool.and_eq_true, within_iff, within_iff, beq_iff_eq]
  exact ⟨fun h => ⟨h.1.1, h.1.2, h.2⟩, fun h => ⟨⟨h.1, h.2.1⟩, h.2.2⟩⟩
theorem mach_small {m : TMachine} (h : smallR 1048576 m.tr) : m.fStack.length ≤ 2000000 ∧ m.fOut.length ≤ 1048576 := by
  simp only [TMachine.tr, smallR] at h
  have h1 := small_nat h.2.2.2.1
  have h2 := small_nat h.2.2.2.2.1
  omega
end Go.Proofs.Ytehniaekfijmiaa
