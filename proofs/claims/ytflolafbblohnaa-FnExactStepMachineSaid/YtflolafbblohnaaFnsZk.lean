/- StepMachine and RunMachine, in the program. -/
import Derived.Test.YtflolafbblohnaaFnsZj
import Derived.Test.YtflolafbblohnaaFnsZa
namespace Go.Proofs.Ytflolafbblohnaa
open Go.Sim
set_option maxRecDepth 100000
set_option maxHeartbeats 8000000
theorem ite_q {p : Prop} [Decidable p] (Q : CS → Prop) {a b : CS} (ha : Q a) (hb : Q b) : Q (if p then a else b) := by split <;> assumption
theorem cPerf_ok {es : List Int} {c : CS} {x : TOp} (h : c.ok) : (cPerf es c x).ok := by
  unfold cPerf
  refine ite_q (CS.ok) (by
    exact cPush_ok h) ?_
  refine ite_q (CS.ok) (by
    exact cLoad_ok h) ?_
  refine ite_q (CS.ok) (by
    exact cLoad_ok h) ?_
  refine ite_q (CS.ok) (by
    exact cStore_ok h) ?_
  refine ite_q (CS.ok) (by
    exact cStore_ok h) ?_
  refine ite_q (CS.ok) (by
    exact cPush_ok (cPop_ok (cPop_ok h))) ?_
  refine ite_q (CS.ok) (by
    exact h) ?_
  refine ite_q (CS.ok) (by
    unfold cZero; split
    · exact cPop_ok h
    · exact cPop_ok h) ?_
  refine ite_q (CS.ok) (by
    unfold cGoto; split
    · exact cPush_ok h
    · exact cPush_ok h) ?_
  refine ite_q (CS.ok) (by
    exact cZeros_ok (cPush_ok h)) ?_
  refine ite_q (CS.ok) (by
    exact cZeros_ok h) ?_
  refine ite_q (CS.ok) (by
    exact cPush_ok (cDrop_ok (cPop_ok (cPop_ok (cPop_ok h))))) ?_
  refine ite_q (CS.ok) (by
    exact cPush_ok (cDrop_ok (cPop_ok (cDrop_ok (cPop_ok h))))) ?_
  refine ite_q (CS.ok) (by
    exact cPop_ok h) ?_
  exact h
theorem cPush_out {c : CS} {v : Int} : (cPush c v).m.fOut = c.m.fOut := by unfold cPush; split <;> rfl
theorem cPop_out' {c : CS} : (cPop c).m.fOut = c.m.fOut := by unfold cPop; split <;> rfl
theorem cDrop_out : ∀ {n : Nat} {c : CS}, (cDrop n c).m.fOut = c.m.fOut
  | 0, _ => rfl
  | n + 1, c => by rw [cDrop, cDrop_out (n := n), cPop_out']
theorem cZeros_out : ∀ {n : Nat} {c : CS}, (cZeros n c).m.fOut = c.m.fOut
  | 0, _ => rfl
  | n + 1, c => by rw [cZeros, cZeros_out (n := n), cPush_out]
theorem cLoad_out {c : CS} {a : Int} : (cLoad c a).m.fOut = c.m.fOut := by
  unfold cLoad
  split
  · rfl
  · exact cPush_out
theorem cStore_out {c : CS} {a : Int} : (cStore c a).m.fOut = c.m.fOut := by
  unfold cStore
  split
  · exact cPop_out'
  · exact cPop_out'
theorem cPerf_out {es : List Int} {c : CS} {x : TOp} : (cPerf es c x).m.fOut.length ≤ c.m.fOut.length + 1 := by
  have key : ∀ l : List Int, l = c.m.fOut → l.length ≤ c.m.fOut.length + 1 := fun l h => by rw [h]; omega
  unfold cPerf
  refine ite_q (fun d => d.m.fOut.length ≤ c.m.fOut.length + 1) (by
    exact key _ cPush_out) ?_
  refine ite_q (fun d => d.m.fOut.length ≤ c.m.fOut.length + 1) (by
    exact key _ cLoad_out) ?_
  refine ite_q (fun d => d.m.fOut.length ≤ c.m.fOut.length + 1) (by
    exact key _ cLoad_out) ?_
  refine ite_q (fun d => d.m.fOut.length ≤ c.m.fOut.length + 1) (by
    exact key _ cStore_out) ?_
  refine ite_q (fun d => d.m.fOut.length ≤ c.m.fOut.length + 1) (by
    exact key _ cStore_out) ?_
  refine ite_q (fun d => d.m.fOut.length ≤ c.m.fOut.length + 1) (by
    exact key _ (by rw [cArith, cPush_out, cPop_out', cPop_out'])) ?_
  refine ite_q (fun d => d.m.fOut.length ≤ c.m.fOut.length + 1) (by
    exact key _ rfl) ?_
  refine ite_q (fun d => d.m.fOut.length ≤ c.m.fOut.length + 1) (by
    refine key _ ?_; unfold cZero; split
    · exact cPop_out'
    · exact cPop_out') ?_
  refine ite_q (fun d => d.m.fOut.length ≤ c.m.fOut.length + 1) (by
    refine key _ ?_; unfold cGoto; split
    · exact cPush_out
    · exact cPush_out) ?_
  refine ite_q (fun d => d.m.fOut.length ≤ c.m.fOut.length + 1) (by
    refine key _ ?_; rw [cEnter, cZeros_out]; exact cPush_out) ?_
  refine ite_q (fun d => d.m.fOut.length ≤ c.m.fOut.length + 1) (by
    exact key _ cZeros_out) ?_
  refine ite_q (fun d => d.m.fOut.length ≤ c.m.fOut.length + 1) (by
    refine key _ ?_
    rw [cLeave, cPush_out, cDrop_out]
    exact cPop_out'.trans (cPop_out'.trans cPop_out')) ?_
  refine ite_q (fun d => d.m.fOut.length ≤ c.m.fOut.length + 1) (by
    refine key _ ?_
    rw [cReturn, cPush_out, cDrop_out]
    exact cPop_out'.trans (cDrop_out.trans cPop_out')) ?_
  refine ite_q (fun d => d.m.fOut.length ≤ c.m.fOut.length + 1) (by
    show ((cPop c).m.fOut ++ [cTop c]).length ≤ _
    rw [List.length_append, cPop_out']
    simp) ?_
  omega
def fetchP (s : TSpace) (a : Int) : Option (TOp × Nat) := if (locS s a).1 < 0 then none else match s.fImages[(locS s a).1.toNat]? with
  | some im => decodeOp im.fCode (locS s a).2
  | none => none
def endM (c : CS) : Option TMachine := if c.bad = true then none else if c.m.fPc = 0 then (if inStk c.m.fSp = true then some { c.m with fState := 1, fValue := wordAt c.m c.m.fSp } else none) else some c.m
def stepP (s : TSpace) (m : TMachine) : Option TMachine := match fetchP s m.fPc with
  | none => none
  | some x => endM (cPerf s.fEntries (adv ⟨m, false⟩ x.2) x.1)
def stepQ (s : TSpace) (m : TMachine) : Option TMachine := match fetchP s m.fPc with
  | none => none
  | some x => endM (qPerf s.fEntries (adv ⟨m, false⟩ x.2) x.1)
theorem fetchP_arg {s : TSpace} {a : Int} {x : TOp × Nat} (h : fetchP s a = some x) : ∃ (t : List UInt8) (p : Int), decodeOp t p = some x := by
  unfold fetchP at h
  split at h
  · cases h
  · split at h
    · exact ⟨_, _, h⟩
    · cases h
theorem endM_rel {c d : CS} (h : Rel c d) : endM c = endM d := by
  obtain ⟨h1, h2⟩ := h
  cases hb : c.bad with
  | true => rw [endM, endM, if_pos hb, if_pos (h1 ▸ hb)]
  | false =>
    obtain ⟨h3, _⟩ := h2 hb
    obtain ⟨m, b⟩ := c
    obtain ⟨m', b'⟩ := d
    dsimp only at *
    subst h3; subst h1
    rfl
theorem step_eq {s : TSpace} {m : TMachine} (hsp : 0 ≤ m.fSp ∧ m.fSp ≤ 1200) (hfp : inI m.fFp) : stepP s m = stepQ s m := by
  unfold stepP stepQ
  cases h : fetchP s m.fPc with
  | none => rfl
  | some x =>
    obtain ⟨t, p, hd⟩ := fetchP_arg h
    obtain ⟨x, z⟩ := x
    obtain ⟨c0, c1, c2, _⟩ := decodeOp_arg hd
    exact endM_rel (rel_perf s.fEntries { m with fPc := wr (m.fPc + z) } x hsp hfp c0 c1 c2)
def badM (m : TMachine) : TMachine := { m with fState := 2 }
def mV (m : TMachine) (st out : Sim.Id) : AV := .r (.agg [.t (.int .i64 m.fPc), .t (.int .i64 m.fSp), .t (.int .i64 m.fFp), .own st, .own out, .t (.int .i64 m.fState), .t (.int .i64 m.fValue)])
theorem get2_imgs {i0 i1 : TImage} {i : Nat} (hi : i < 2) (h0 : i0.fCode.length ≤ 1000000) (h1 : i1.fCode.length ≤ 1000000) : ∃ im : TImage, [i0, i1][i]? = some im ∧ ([i0.tr, i1.tr] : List (List Tr))[i]? = some im.tr ∧ im.fCode.length ≤ 1000000 := by
  match i, hi with
  | 0, _ => exact ⟨i0, rfl, rfl, h0⟩
  | 1, _ => exact ⟨i1, rfl, rfl, h1⟩
theorem loc2_off {i0 i1 : TImage} {b0 b1 a : Int} (h0 : i0.fCode.length ≤ 1000000) (h1 : i1.fCode.length ≤ 1000000) : (loc2 i0 i1 b0 b1 a).2 ≤ 1000000 := by
  unfold loc2
  split
  · dsimp only; omega
  · split <;> dsimp only <;> omega
def stVT (m : TMachine) : Option TMachine → AV
  | none => .r (.agg ((badM m).tr.map .t))
  | some m' => mV m' (1, 0, 0) (1, 0, 1)
def stHT (m : TMachine) : Option TMachine → List (Sim.Id × AO)
  | none => []
  | some m' => [((1, 0, 0), .arr false 1 (m'.fStack.map intRow)), ((1, 0, 1), .arr false 1 (m'.fOut.map intRow))]
theorem g_impl_stepT_same (s : TSpace) (m : TMachine) (h0 : m.fState ≠ 0) : SpecG Try.prog 108 [.r (.agg (s.tr.map .t)), .r (.agg (m.tr.map .t))] [] (.r (.agg (m.tr.map .t))) [] := by
  refine specG_of_W hΓ hmix Try.func108 rfl (by decide) rfl rfl ?_
  repeat' (
    (conv => whnf)
    first
    | refine seq_inl ?_
    | refine reg_inl ?_
    | refine And.intro (Obl.out (?_ : Obl _)) ?_
    | refine ifB_intro (fun h => ?_) (fun h => ?_)
    | refine Exists.intro _ (And.intro rfl ?_)
    | ((with_reducible show _ = _); rfl))
  all_goals try (
    (with_reducible refine Obl.mk ?_)
    first
    | ((with_reducible show regOk _ _ = true); kernel_rfl)
    | ((with_reducible show eqTyOk _ _ = true); kernel_rfl)
    | ((with_reducible show regOkX _ _ _ _ = true); kernel_rfl)
    | ((with_reducible show condX _ _ _ _ _ _); (conv => whnf); rfl)
    | rfl
    | exact trivial
    | ((repeat' (first | exact trivial | refine And.intro ?_ ?_)); done)
    | decide
    | (intro r hr; simp only [List.mem_cons, List.not_mem_nil, or_false] at hr; first | (subst hr; rfl) | (rcases hr with rfl | rfl <;> rfl) | (rcases hr with rfl | rfl | rfl <;> rfl) | (rcases hr with rfl | rfl | rfl | rfl <;> rfl))
    | (refine And.intro ?_ ?_ <;> simp only [List.length_map, List.length_append, List.length_cons, List.length_nil] <;> omega))
  all_goals try (exfalso; exact h0 (by simpa using h))
theorem g_impl_stepT (s : TSpace) (m : TMachine) (hok : spaceOk s = true) (hm : m.fStack.length = 1200) (ho : m.fOut.length ≤ 2000000) (h0 : m.fState = 0) (r : Option TMachine) (hr : stepP s m = r) : SpecG Try.prog 108 [.r (.agg (s.tr.map .t)), .r (.agg (m.tr.map .t))] [] (stVT m r) (stHT m r) := by
  obtain ⟨i0, i1, b0, b1, hsh, ⟨e1, e2⟩, ⟨g0, p0, p1⟩, ⟨g1, q0, q1⟩, _, _⟩ := spaceOk_inv hok
  have l0 := (imageOk_iff.1 g0).1
  have l1 := (imageOk_iff.1 g1).1
  have hL := s_impl_locate i0 i1 b0 b1 m.fPc s.fEntries (by omega) (by omega) (by omega) (by omega)
  obtain ⟨im, bs, es⟩ := s
  dsimp only at hsh hL e2
  injection hsh with h1 h2
  subst h1
  subst h2
  refine specG_of_W hΓ hmix Try.func108 rfl (by decide) rfl rfl ?_
  have hloc : locS ⟨[i0, i1], [b0, b1], es⟩ m.fPc = loc2 i0 i1 b0 b1 m.fPc := rfl
  rcases loc2_cases i0 i1 b0 b1 m.fPc with hx | ⟨i, off, hi, hx⟩
  · rw [hx] at hL
    have : r = none := by rw [← hr, stepP, fetchP, hloc, hx]; rfl
    subst this
    repeat' (
      (conv => whnf)
      first
      | refine seq_inl ?_
      | refine reg_inl ?_
      | refine And.intro (Obl.out (?_ : Obl _)) ?_
      | refine ifB_intro (fun h => ?_) (fun h => ?_)
      | refine Or.inl (call_intro (hL) (And.intro (And.intro rfl (And.intro rfl (And.intro rfl trivial))) (And.intro rfl trivial)) ?_)
      | refine Exists.intro _ (And.intro rfl ?_)
      | ((with_reducible show _ = _); rfl))
    all_goals try (
      (with_reducible refine Obl.mk ?_)
      first
      | ((with_reducible show regOk _ _ = true); kernel_rfl)
      | ((with_reducible show eqTyOk _ _ = true); kernel_rfl)
      | ((with_reducible show regOkX _ _ _ _ = true); kernel_rfl)
      | ((with_reducible show condX _ _ _ _ _ _); (conv => whnf); rfl)
      | rfl
      | exact trivial
      | ((repeat' (first | exact trivial | refine And.intro ?_ ?_)); done)
      | decide
      | (intro r hr; simp only [List.mem_cons, List.not_mem_nil, or_false] at hr; first | (subst hr; rfl) | (rcases hr with rfl | rfl <;> rfl) | (rcases hr with rfl | rfl | rfl <;> rfl) | (rcases hr with rfl | rfl | rfl | rfl <;> rfl))
      | (refine And.intro ?_ ?_ <;> simp only [List.length_map, List.length_append, List.length_cons, List.length_nil] <;> omega))
    all_goals try (exfalso; simp [h0] at h; done)
  · have hoff := loc2_off (b0 := b0) (b1 := b1) (a := m.fPc) l0 l1
    rw [hx] at hL hoff
    dsimp only at hoff
    obtain ⟨im, hi1, hi2, hil⟩ := get2_imgs hi l0 l1
    have hD := s_impl_DecodeOp im.fCode off (by omega) (by omega)
    have hf : fetchP ⟨[i0, i1], [b0, b1], es⟩ m.fPc = decodeOp im.fCode off := by
      rw [fetchP, hloc, hx]
      dsimp only
      rw [if_neg (by omega), Int.toNat_natCast, hi1]
    cases hd : decodeOp im.fCode off with
    | none =>
      rw [hd] at hD hf
      have : r = none := by rw [← hr, stepP, hf]
      subst this
      repeat' (
        (conv => whnf)
        first
        | refine seq_inl ?_
        | refine reg_inl ?_
        | refine And.intro (Obl.out (?_ : Obl _)) ?_
        | refine ifB_intro (fun h => ?_) (fun h => ?_)
        | refine Or.inl (call_intro (hL) (And.intro (And.intro rfl (And.intro rfl (And.intro rfl trivial))) (And.intro rfl trivial)) ?_)
        | refine ⟨i, im.tr, rfl, hi2, ?_⟩
        | refine Or.inl (call_intro (hD) (And.intro rfl (And.intro rfl trivial)) ?_)
        | refine Exists.intro _ (And.intro rfl ?_)
        | ((with_reducible show _ = _); rfl))
      all_goals try (
        (with_reducible refine Obl.mk ?_)
        first
        | ((with_reducible show regOk _ _ = true); kernel_rfl)
        | ((with_reducible show eqTyOk _ _ = true); kernel_rfl)
        | ((with_reducible show regOkX _ _ _ _ = true); kernel_rfl)
        | ((with_reducible show condX _ _ _ _ _ _); (conv => whnf); rfl)
        | rfl
        | exact trivial
        | ((repeat' (first | exact trivial | refine And.intro ?_ ?_)); done)
        | decide
        | (intro r hr; simp only [List.mem_cons, List.not_mem_nil, or_false] at hr; first | (subst hr; rfl) | (rcases hr with rfl | rfl <;> rfl) | (rcases hr with rfl | rfl | rfl <;> rfl) | (rcases hr with rfl | rfl | rfl | rfl <;> rfl))
        | (refine And.intro ?_ ?_ <;> simp only [List.length_map, List.length_append, List.length_cons, List.length_nil] <;> omega))
      all_goals try (exfalso; simp [h0] at h; done)
      all_goals try (exfalso; have h' := of_decide_eq_true h; omega)
    | some xz =>
      obtain ⟨x, z⟩ := xz
      rw [hd] at hD hf
      obtain ⟨c0, c1, _, z5⟩ := decodeOp_arg hd
      have hC := s_impl_copyMachine m (by omega) ho
      have hr2 : endM (cPerf es (adv ⟨m, false⟩ z) x) = r := by rw [← hr, stepP, hf]
      by_cases h17 : x.fCode = 17
      · have hxx : x = ⟨17, x.fArg⟩ := by rw [← h17]
        have hP := g_core_out ⟨[i0, i1], [b0, b1], es⟩ (adv ⟨m, false⟩ z) x.fArg hm ho
        rw [← hxx] at hP
        have hcc : cPerf es (adv ⟨m, false⟩ z) x = cOut (adv ⟨m, false⟩ z) := by rw [hxx]; simp [cPerf]
        rw [hcc] at hr2
        have hco : (cOut (adv ⟨m, false⟩ z)).ok := cPop_ok (c := adv ⟨m, false⟩ z) hm
        generalize cOut (adv ⟨m, false⟩ z) = c at *
        have hA := g_core_at ⟨{ c.m with fState := 1 }, c.bad⟩ c.m.fSp
        obtain ⟨cm, cb⟩ := c
        unfold cAt at hA
        dsimp only at hA
        cases cb with
        | true =>
          have : r = none := by rw [← hr2]; rfl
          subst this
          repeat' (
            (conv => whnf)
            first
            | refine callG_intro (hP) ?_
            | refine seq_inl ?_
            | refine reg_inl ?_
            | refine And.intro (Obl.out (?_ : Obl _)) ?_
            | refine ifB_intro (fun h => ?_) (fun h => ?_)
            | refine Or.inl (call_intro (hL) (And.intro (And.intro rfl (And.intro rfl (And.intro rfl trivial))) (And.intro rfl trivial)) ?_)
            | refine ⟨i, im.tr, rfl, hi2, ?_⟩
            | refine Or.inl (call_intro (hD) (And.intro rfl (And.intro rfl trivial)) ?_)
            | refine Or.inl (call_intro (hC) (And.intro (And.intro rfl (And.intro rfl (And.intro rfl (And.intro rfl (And.intro rfl (And.intro rfl (And.intro rfl trivial))))))) trivial) ?_)
            | refine Exists.intro _ (And.intro rfl ?_)
            | ((with_reducible show _ = _); rfl))
          all_goals try (
            (with_reducible refine Obl.mk ?_)
            first
            | ((with_reducible show regOk _ _ = true); kernel_rfl)
            | ((with_reducible show eqTyOk _ _ = true); kernel_rfl)
            | ((with_reducible show regOkX _ _ _ _ = true); kernel_rfl)
            | ((with_reducible show condX _ _ _ _ _ _); (conv => whnf); rfl)
            | rfl
            | exact trivial
            | ((repeat' (first | exact trivial | refine And.intro ?_ ?_)); done)
            | decide
            | (intro r hr; simp only [List.mem_cons, List.not_mem_nil, or_false] at hr; first | (subst hr; rfl) | (rcases hr with rfl | rfl <;> rfl) | (rcases hr with rfl | rfl | rfl <;> rfl) | (rcases hr with rfl | rfl | rfl | rfl <;> rfl))
            | (refine And.intro ?_ ?_ <;> simp only [List.length_map, List.length_append, List.length_cons, List.length_nil] <;> omega))
          all_goals try (exfalso; simp [h0] at h; done)
          all_goals try (exfalso; have h' := of_decide_eq_true h; omega)
        | false =>
          by_cases hpc : cm.fPc = 0
          · cases hin : inStk cm.fSp with
            | false =>
              rw [hin] at hA
              have : r = none := by rw [← hr2]; simp [endM, hpc, hin]
              subst this
              repeat' (
                (conv => whnf)
                first
                | refine callG_intro (hP) ?_
                | refine callG_intro (hA) ?_
                | refine seq_inl ?_
                | refine reg_inl ?_
                | refine And.intro (Obl.out (?_ : Obl _)) ?_
                | refine ifB_intro (fun h => ?_) (fun h => ?_)
                | refine Or.inl (call_intro (hL) (And.intro (And.intro rfl (And.intro rfl (And.intro rfl trivial))) (And.intro rfl trivial)) ?_)
                | refine ⟨i, im.tr, rfl, hi2, ?_⟩
                | refine Or.inl (call_intro (hD) (And.intro rfl (And.intro rfl trivial)) ?_)
                | refine Or.inl (call_intro (hC) (And.intro (And.intro rfl (And.intro rfl (And.intro rfl (And.intro rfl (And.intro rfl (And.intro rfl (And.intro rfl trivial))))))) trivial) ?_)
                | refine Exists.intro _ (And.intro rfl ?_)
                | ((with_reducible show _ = _); rfl))
              all_goals try (
                (with_reducible refine Obl.mk ?_)
                first
                | ((with_reducible show regOk _ _ = true); kernel_rfl)
                | ((with_reducible show eqTyOk _ _ = true); kernel_rfl)
                | ((with_reducible show regOkX _ _ _ _ = true); kernel_rfl)
                | ((with_reducible show condX _ _ _ _ _ _); (conv => whnf); rfl)
                | rfl
                | exact trivial
                | ((repeat' (first | exact trivial | refine And.intro ?_ ?_)); done)
                | decide
                | (intro r hr; simp only [List.mem_cons, List.not_mem_nil, or_false] at hr; first | (subst hr; rfl) | (rcases hr with rfl | rfl <;> rfl) | (rcases hr with rfl | rfl | rfl <;> rfl) | (rcases hr with rfl | rfl | rfl | rfl <;> rfl))
                | (refine And.intro ?_ ?_ <;> simp only [List.length_map, List.length_append, List.length_cons, List.length_nil] <;> omega))
              all_goals try (exfalso; simp [h0] at h; done)
              all_goals try (exfalso; simp [hpc] at h; done)
              all_goals try (exfalso; have h' := of_decide_eq_true h; omega)
            | true =>
              rw [hin] at hA
              obtain ⟨j, v, hj, hv, hlt, _⟩ := stk_at hco hin
              have hlen : (cm.fStack.map intRow).length = cm.fStack.length := by simp
              have hin' : inStk (j : Int) = true := hj ▸ hin
              have : r = some { cm with fState := 1, fValue := v } := by rw [← hr2]; simp [endM, hpc, hin', wordAt, hj, hv]
              subst this
              repeat' (
                (conv => whnf)
                first
                | refine callG_intro (hP) ?_
                | refine callG_intro (hA) ?_
                | refine seq_inl ?_
                | refine reg_inl ?_
                | refine And.intro (Obl.out (?_ : Obl _)) ?_
                | refine ifB_intro (fun h => ?_) (fun h => ?_)
                | refine Or.inl (call_intro (hL) (And.intro (And.intro rfl (And.intro rfl (And.intro rfl trivial))) (And.intro rfl trivial)) ?_)
                | refine ⟨i, im.tr, rfl, hi2, ?_⟩
                | refine Or.inl (call_intro (hD) (And.intro rfl (And.intro rfl trivial)) ?_)
                | refine Or.inl (call_intro (hC) (And.intro (And.intro rfl (And.intro rfl (And.intro rfl (And.intro rfl (And.intro rfl (And.intro rfl (And.intro rfl trivial))))))) trivial) ?_)
                | refine Exists.intro _ (And.intro rfl ?_)
                | ((with_reducible show _ = _); rfl))
              all_goals try (
                (with_reducible refine Obl.mk ?_)
                first
                | ((with_reducible show regOk _ _ = true); kernel_rfl)
                | ((with_reducible show eqTyOk _ _ = true); kernel_rfl)
                | ((with_reducible show regOkX _ _ _ _ = true); kernel_rfl)
                | ((with_reducible show condX _ _ _ _ _ _); (conv => whnf); rfl)
                | rfl
                | exact trivial
                | ((repeat' (first | exact trivial | refine And.intro ?_ ?_)); done)
                | decide
                | (intro r hr; simp only [List.mem_cons, List.not_mem_nil, or_false] at hr; first | (subst hr; rfl) | (rcases hr with rfl | rfl <;> rfl) | (rcases hr with rfl | rfl | rfl <;> rfl) | (rcases hr with rfl | rfl | rfl | rfl <;> rfl))
                | (refine And.intro ?_ ?_ <;> simp only [List.length_map, List.length_append, List.length_cons, List.length_nil] <;> omega))
              all_goals try (exfalso; simp [h0] at h; done)
              all_goals try (exfalso; simp [hpc] at h; done)
              all_goals try (exfalso; have h' := of_decide_eq_true h; omega)
              conv => whnf
              refine ⟨j, hj, by rw [hlen]; exact hlt, ?_⟩
              repeat' (
                (conv => whnf)
                first
                | refine seq_inl ?_
                | refine reg_inl ?_
                | refine And.intro (Obl.out (?_ : Obl _)) ?_
                | refine ifB_intro (fun h => ?_) (fun h => ?_)
                | refine ⟨(intRow v), map_get hv, ?_⟩
                | refine Exists.intro _ (And.intro rfl ?_)
                | ((with_reducible show _ = _); rfl))
              all_goals try (
                (with_reducible refine Obl.mk ?_)
                first
                | ((with_reducible show regOk _ _ = true); kernel_rfl)
                | ((with_reducible show eqTyOk _ _ = true); kernel_rfl)
                | ((with_reducible show regOkX _ _ _ _ = true); kernel_rfl)
                | ((with_reducible show condX _ _ _ _ _ _); (conv => whnf); rfl)
                | rfl
                | exact trivial
                | ((repeat' (first | exact trivial | refine And.intro ?_ ?_)); done)
                | decide
                | (intro r hr; simp only [List.mem_cons, List.not_mem_nil, or_false] at hr; first | (subst hr; rfl) | (rcases hr with rfl | rfl <;> rfl) | (rcases hr with rfl | rfl | rfl <;> rfl) | (rcases hr with rfl | rfl | rfl | rfl <;> rfl))
                | (refine And.intro ?_ ?_ <;> simp only [List.length_map, List.length_append, List.length_cons, List.length_nil] <;> omega))
          · have : r = some cm := by rw [← hr2]; simp [endM, hpc]
            subst this
            repeat' (
              (conv => whnf)
              first
              | refine callG_intro (hP) ?_
              | refine seq_inl ?_
              | refine reg_inl ?_
              | refine And.intro (Obl.out (?_ : Obl _)) ?_
              | refine ifB_intro (fun h => ?_) (fun h => ?_)
              | refine Or.inl (call_intro (hL) (And.intro (And.intro rfl (And.intro rfl (And.intro rfl trivial))) (And.intro rfl trivial)) ?_)
              | refine ⟨i, im.tr, rfl, hi2, ?_⟩
              | refine Or.inl (call_intro (hD) (And.intro rfl (And.intro rfl trivial)) ?_)
              | refine Or.inl (call_intro (hC) (And.intro (And.intro rfl (And.intro rfl (And.intro rfl (And.intro rfl (And.intro rfl (And.intro rfl (And.intro rfl trivial))))))) trivial) ?_)
              | refine Exists.intro _ (And.intro rfl ?_)
              | ((with_reducible show _ = _); rfl))
            all_goals try (
              (with_reducible refine Obl.mk ?_)
              first
              | ((with_reducible show regOk _ _ = true); kernel_rfl)
              | ((with_reducible show eqTyOk _ _ = true); kernel_rfl)
              | ((with_reducible show regOkX _ _ _ _ = true); kernel_rfl)
              | ((with_reducible show condX _ _ _ _ _ _); (conv => whnf); rfl)
              | rfl
              | exact trivial
              | ((repeat' (first | exact trivial | refine And.intro ?_ ?_)); done)
              | decide
              | (intro r hr; simp only [List.mem_cons, List.not_mem_nil, or_false] at hr; first | (subst hr; rfl) | (rcases hr with rfl | rfl <;> rfl) | (rcases hr with rfl | rfl | rfl <;> rfl) | (rcases hr with rfl | rfl | rfl | rfl <;> rfl))
              | (refine And.intro ?_ ?_ <;> simp only [List.length_map, List.length_append, List.length_cons, List.length_nil] <;> omega))
            all_goals try (exfalso; simp [h0] at h; done)
            all_goals try (exfalso; simp [hpc] at h; done)
            all_goals try (exfalso; have h' := of_decide_eq_true h; omega)
      · have hP := g_core_perform ⟨[i0, i1], [b0, b1], es⟩ (adv ⟨m, false⟩ z) x hm h17 c1 (by dsimp only; omega)
        have hco : (cPerf es (adv ⟨m, false⟩ z) x).ok := cPerf_ok hm
        dsimp only at hP
        generalize cPerf es (adv ⟨m, false⟩ z) x = c at *
        have hA := g_core_at ⟨{ c.m with fState := 1 }, c.bad⟩ c.m.fSp
        obtain ⟨cm, cb⟩ := c
        unfold cAt at hA
        dsimp only at hA
        cases cb with
        | true =>
          have : r = none := by rw [← hr2]; rfl
          subst this
          repeat' (
            (conv => whnf)
            first
            | refine callG_intro (hP) ?_
            | refine seq_inl ?_
            | refine reg_inl ?_
            | refine And.intro (Obl.out (?_ : Obl _)) ?_
            | refine ifB_intro (fun h => ?_) (fun h => ?_)
            | refine Or.inl (call_intro (hL) (And.intro (And.intro rfl (And.intro rfl (And.intro rfl trivial))) (And.intro rfl trivial)) ?_)
            | refine ⟨i, im.tr, rfl, hi2, ?_⟩
            | refine Or.inl (call_intro (hD) (And.intro rfl (And.intro rfl trivial)) ?_)
            | refine Or.inl (call_intro (hC) (And.intro (And.intro rfl (And.intro rfl (And.intro rfl (And.intro rfl (And.intro rfl (And.intro rfl (And.intro rfl trivial))))))) trivial) ?_)
            | refine Exists.intro _ (And.intro rfl ?_)
            | ((with_reducible show _ = _); rfl))
          all_goals try (
            (with_reducible refine Obl.mk ?_)
            first
            | ((with_reducible show regOk _ _ = true); kernel_rfl)
            | ((with_reducible show eqTyOk _ _ = true); kernel_rfl)
            | ((with_reducible show regOkX _ _ _ _ = true); kernel_rfl)
            | ((with_reducible show condX _ _ _ _ _ _); (conv => whnf); rfl)
            | rfl
            | exact trivial
            | ((repeat' (first | exact trivial | refine And.intro ?_ ?_)); done)
            | decide
            | (intro r hr; simp only [List.mem_cons, List.not_mem_nil, or_false] at hr; first | (subst hr; rfl) | (rcases hr with rfl | rfl <;> rfl) | (rcases hr with rfl | rfl | rfl <;> rfl) | (rcases hr with rfl | rfl | rfl | rfl <;> rfl))
            | (refine And.intro ?_ ?_ <;> simp only [List.length_map, List.length_append, List.length_cons, List.length_nil] <;> omega))
          all_goals try (exfalso; simp [h0] at h; done)
          all_goals try (exfalso; have h' := of_decide_eq_true h; omega)
        | false =>
          by_cases hpc : cm.fPc = 0
          · cases hin : inStk cm.fSp with
            | false =>
              rw [hin] at hA
              have : r = none := by rw [← hr2]; simp [endM, hpc, hin]
              subst this
              repeat' (
                (conv => whnf)
                first
                | refine callG_intro (hP) ?_
                | refine callG_intro (hA) ?_
                | refine seq_inl ?_
                | refine reg_inl ?_
                | refine And.intro (Obl.out (?_ : Obl _)) ?_
                | refine ifB_intro (fun h => ?_) (fun h => ?_)
                | refine Or.inl (call_intro (hL) (And.intro (And.intro rfl (And.intro rfl (And.intro rfl trivial))) (And.intro rfl trivial)) ?_)
                | refine ⟨i, im.tr, rfl, hi2, ?_⟩
                | refine Or.inl (call_intro (hD) (And.intro rfl (And.intro rfl trivial)) ?_)
                | refine Or.inl (call_intro (hC) (And.intro (And.intro rfl (And.intro rfl (And.intro rfl (And.intro rfl (And.intro rfl (And.intro rfl (And.intro rfl trivial))))))) trivial) ?_)
                | refine Exists.intro _ (And.intro rfl ?_)
                | ((with_reducible show _ = _); rfl))
              all_goals try (
                (with_reducible refine Obl.mk ?_)
                first
                | ((with_reducible show regOk _ _ = true); kernel_rfl)
                | ((with_reducible show eqTyOk _ _ = true); kernel_rfl)
                | ((with_reducible show regOkX _ _ _ _ = true); kernel_rfl)
                | ((with_reducible show condX _ _ _ _ _ _); (conv => whnf); rfl)
                | rfl
                | exact trivial
                | ((repeat' (first | exact trivial | refine And.intro ?_ ?_)); done)
                | decide
                | (intro r hr; simp only [List.mem_cons, List.not_mem_nil, or_false] at hr; first | (subst hr; rfl) | (rcases hr with rfl | rfl <;> rfl) | (rcases hr with rfl | rfl | rfl <;> rfl) | (rcases hr with rfl | rfl | rfl | rfl <;> rfl))
                | (refine And.intro ?_ ?_ <;> simp only [List.length_map, List.length_append, List.length_cons, List.length_nil] <;> omega))
              all_goals try (exfalso; simp [h0] at h; done)
              all_goals try (exfalso; simp [hpc] at h; done)
              all_goals try (exfalso; have h' := of_decide_eq_true h; omega)
            | true =>
              rw [hin] at hA
              obtain ⟨j, v, hj, hv, hlt, _⟩ := stk_at hco hin
              have hlen : (cm.fStack.map intRow).length = cm.fStack.length := by simp
              have hin' : inStk (j : Int) = true := hj ▸ hin
              have : r = some { cm with fState := 1, fValue := v } := by rw [← hr2]; simp [endM, hpc, hin', wordAt, hj, hv]
              subst this
              repeat' (
                (conv => whnf)
                first
                | refine callG_intro (hP) ?_
                | refine callG_intro (hA) ?_
                | refine seq_inl ?_
                | refine reg_inl ?_
                | refine And.intro (Obl.out (?_ : Obl _)) ?_
                | refine ifB_intro (fun h => ?_) (fun h => ?_)
                | refine Or.inl (call_intro (hL) (And.intro (And.intro rfl (And.intro rfl (And.intro rfl trivial))) (And.intro rfl trivial)) ?_)
                | refine ⟨i, im.tr, rfl, hi2, ?_⟩
                | refine Or.inl (call_intro (hD) (And.intro rfl (And.intro rfl trivial)) ?_)
                | refine Or.inl (call_intro (hC) (And.intro (And.intro rfl (And.intro rfl (And.intro rfl (And.intro rfl (And.intro rfl (And.intro rfl (And.intro rfl trivial))))))) trivial) ?_)
                | refine Exists.intro _ (And.intro rfl ?_)
                | ((with_reducible show _ = _); rfl))
              all_goals try (
                (with_reducible refine Obl.mk ?_)
                first
                | ((with_reducible show regOk _ _ = true); kernel_rfl)
                | ((with_reducible show eqTyOk _ _ = true); kernel_rfl)
                | ((with_reducible show regOkX _ _ _ _ = true); kernel_rfl)
                | ((with_reducible show condX _ _ _ _ _ _); (conv => whnf); rfl)
                | rfl
                | exact trivial
                | ((repeat' (first | exact trivial | refine And.intro ?_ ?_)); done)
                | decide
                | (intro r hr; simp only [List.mem_cons, List.not_mem_nil, or_false] at hr; first | (subst hr; rfl) | (rcases hr with rfl | rfl <;> rfl) | (rcases hr with rfl | rfl | rfl <;> rfl) | (rcases hr with rfl | rfl | rfl | rfl <;> rfl))
                | (refine And.intro ?_ ?_ <;> simp only [List.length_map, List.length_append, List.length_cons, List.length_nil] <;> omega))
              all_goals try (exfalso; simp [h0] at h; done)
              all_goals try (exfalso; simp [hpc] at h; done)
              all_goals try (exfalso; have h' := of_decide_eq_true h; omega)
              conv => whnf
              refine ⟨j, hj, by rw [hlen]; exact hlt, ?_⟩
              repeat' (
                (conv => whnf)
                first
                | refine seq_inl ?_
                | refine reg_inl ?_
                | refine And.intro (Obl.out (?_ : Obl _)) ?_
                | refine ifB_intro (fun h => ?_) (fun h => ?_)
                | refine ⟨(intRow v), map_get hv, ?_⟩
                | refine Exists.intro _ (And.intro rfl ?_)
                | ((with_reducible show _ = _); rfl))
              all_goals try (
                (with_reducible refine Obl.mk ?_)
                first
                | ((with_reducible show regOk _ _ = true); kernel_rfl)
                | ((with_reducible show eqTyOk _ _ = true); kernel_rfl)
                | ((with_reducible show regOkX _ _ _ _ = true); kernel_rfl)
                | ((with_reducible show condX _ _ _ _ _ _); (conv => whnf); rfl)
                | rfl
                | exact trivial
                | ((repeat' (first | exact trivial | refine And.intro ?_ ?_)); done)
                | decide
                | (intro r hr; simp only [List.mem_cons, List.not_mem_nil, or_false] at hr; first | (subst hr; rfl) | (rcases hr with rfl | rfl <;> rfl) | (rcases hr with rfl | rfl | rfl <;> rfl) | (rcases hr with rfl | rfl | rfl | rfl <;> rfl))
                | (refine And.intro ?_ ?_ <;> simp only [List.length_map, List.length_append, List.length_cons, List.length_nil] <;> omega))
          · have : r = some cm := by rw [← hr2]; simp [endM, hpc]
            subst this
            repeat' (
              (conv => whnf)
              first
              | refine callG_intro (hP) ?_
              | refine seq_inl ?_
              | refine reg_inl ?_
              | refine And.intro (Obl.out (?_ : Obl _)) ?_
              | refine ifB_intro (fun h => ?_) (fun h => ?_)
              | refine Or.inl (call_intro (hL) (And.intro (And.intro rfl (And.intro rfl (And.intro rfl trivial))) (And.intro rfl trivial)) ?_)
              | refine ⟨i, im.tr, rfl, hi2, ?_⟩
              | refine Or.inl (call_intro (hD) (And.intro rfl (And.intro rfl trivial)) ?_)
              | refine Or.inl (call_intro (hC) (And.intro (And.intro rfl (And.intro rfl (And.intro rfl (And.intro rfl (And.intro rfl (And.intro rfl (And.intro rfl trivial))))))) trivial) ?_)
              | refine Exists.intro _ (And.intro rfl ?_)
              | ((with_reducible show _ = _); rfl))
            all_goals try (
              (with_reducible refine Obl.mk ?_)
              first
              | ((with_reducible show regOk _ _ = true); kernel_rfl)
              | ((with_reducible show eqTyOk _ _ = true); kernel_rfl)
              | ((with_reducible show regOkX _ _ _ _ = true); kernel_rfl)
              | ((with_reducible show condX _ _ _ _ _ _); (conv => whnf); rfl)
              | rfl
              | exact trivial
              | ((repeat' (first | exact trivial | refine And.intro ?_ ?_)); done)
              | decide
              | (intro r hr; simp only [List.mem_cons, List.not_mem_nil, or_false] at hr; first | (subst hr; rfl) | (rcases hr with rfl | rfl <;> rfl) | (rcases hr with rfl | rfl | rfl <;> rfl) | (rcases hr with rfl | rfl | rfl | rfl <;> rfl))
              | (refine And.intro ?_ ?_ <;> simp only [List.length_map, List.length_append, List.length_cons, List.length_nil] <;> omega))
            all_goals try (exfalso; simp [h0] at h; done)
            all_goals try (exfalso; simp [hpc] at h; done)
            all_goals try (exfalso; have h' := of_decide_eq_true h; omega)
end Go.Proofs.Ytflolafbblohnaa
