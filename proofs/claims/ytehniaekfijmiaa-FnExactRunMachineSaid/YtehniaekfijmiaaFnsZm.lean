/- RunMachine in both texts. -/
import Derived.Test.YtehniaekfijmiaaFnsZl
namespace Go.Proofs.Ytehniaekfijmiaa
open Go.Sim
set_option maxRecDepth 100000
set_option maxHeartbeats 8000000
def runM (s : TSpace) : Nat → TMachine → TMachine × Nat
  | 0, m => (m, 0)
  | k + 1, m => if m.fState = 0 then ((runM s k (stepR m (stepP s m))).1, (runM s k (stepR m (stepP s m))).2 + 1) else (m, 0)
def runMach (s : TSpace) (m : TMachine) (l : Int) : TMachine × Nat := if spaceOk s = true ∧ machineOk m = true ∧ within l 0 20000 = true then runM s l.toNat m else (m, 0)
structure MInv (m : TMachine) (n : Nat) : Prop where
  len : m.fStack.length = 1200
  sp : 0 ≤ m.fSp ∧ m.fSp ≤ 1200
  w : MW m
  out : m.fOut.length ≤ 1048576 + n
theorem argV_four {c : Int} {m : Nat} (h : opArg c = (4, true)) (hm : m < 4294967296) : inI (argV c m) := by
  unfold inI
  by_cases hb : 2 ^ (8 * 4 - 1) ≤ m
  · have e : argV c m = (m : Int) - 2 ^ (8 * 4) := argV_yes (n := 4) (by rw [h]; rfl) (by rw [h]) hb
    rw [e]
    omega
  · have e : argV c m = (m : Int) := argV_no (n := 4) (by rw [h]; rfl) (fun hh => hb hh.2)
    rw [e]
    omega
theorem decodeOp_argI {s : List UInt8} {p : Int} {x : TOp} {z : Nat} (h : decodeOp s p = some (x, z)) : inI x.fArg := by
  obtain ⟨h0, h1, h2, _⟩ := decodeOp_arg h
  by_cases c1 : 12 ≤ x.fCode ∧ x.fCode ≤ 16
  · have := h1 c1.1 c1.2; unfold inI; omega
  by_cases c2 : 1 ≤ x.fCode ∧ x.fCode ≤ 11
  · have := h2 c2.1 c2.2; unfold inI; omega
  have c3 : x.fCode = 0 ∨ x.fCode = 17 := by omega
  unfold decodeOp at h
  split at h
  · split at h
    · cases h
    · injection h with h
      injection h with h3 h4
      subst h3
      dsimp only at c3 ⊢
      rcases c3 with c3 | c3
      · rw [c3]
        have hl := argN_lt s (p.toNat + 1) 4
        exact argV_four (by decide) (by have : (256 : Nat) ^ 4 = 4294967296 := by decide
                                        show argN s (p.toNat + 1) 4 < 4294967296
                                        omega)
      · rw [c3]
        have hl := argN_lt s (p.toNat + 1) 0
        have hl : argN s (p.toNat + 1) 0 < 1 := hl
        have e2 : argV 17 (argN s (p.toNat + 1) 0) = ((argN s (p.toNat + 1) 0 : Nat) : Int) := argV_no (n := 0) (by decide) (fun hh => absurd hh.1 (by decide))
        show inI (argV 17 (argN s (p.toNat + 1) 0))
        rw [e2]
        unfold inI
        omega
  · cases h
theorem MInv.step {s : TSpace} {m : TMachine} {n : Nat} (h : MInv m n) (he : ∀ e ∈ s.fEntries, inI e) : MInv (stepR m (stepP s m)) (n + 1) := by
  obtain ⟨h1, h2, h3, h4⟩ := h
  cases hr : stepP s m with
  | none => exact ⟨h1, h2, h3, by show m.fOut.length ≤ _; omega⟩
  | some m' =>
    obtain ⟨x, hf, hx⟩ := stepP_some hr
    obtain ⟨t, p, hd⟩ := fetchP_arg hf
    obtain ⟨x, z⟩ := x
    obtain ⟨c0, c1, c2, _⟩ := decodeOp_arg hd
    have ha := decodeOp_argI hd
    obtain ⟨e1, e2, e3, e4, e5, e6⟩ := endM_some hx
    have hrel := rel_perf s.fEntries { m with fPc := wr (m.fPc + z) } x h2 h3.2.2 c0 c1 c2
    have hsp := (hrel.2 e6).2
    have hin : MW (cPerf s.fEntries (adv ⟨m, false⟩ z) x).m := cPerf_in (c := adv ⟨m, false⟩ z) ⟨h3.1, wr_in _, h3.2.2⟩ (by show inI m.fSp; unfold inI; omega) ha he
    refine ⟨stepP_len h1 m' hr, ?_, ?_, ?_⟩
    · show 0 ≤ m'.fSp ∧ m'.fSp ≤ 1200
      rw [e3]; exact hsp
    · show MW m'
      refine ⟨?_, ?_, ?_⟩
      · rw [e1]; exact hin.1
      · rw [e5]; exact hin.2.1
      · rw [e4]; exact hin.2.2
    · have := stepP_out m' hr
      show m'.fOut.length ≤ _
      omega
def stVO (m : TMachine) : Option TMachine → AV
  | none => mV (badM m) (0, 0, 0) (0, 0, 1)
  | some m' => mV m' (1, 0, 0) (1, 0, 1)
def stHO (m : TMachine) : Option TMachine → List (Sim.Id × AO)
  | none => [((0, 0, 0), .arr false 1 (m.fStack.map intRow)), ((0, 0, 1), .arr false 1 (m.fOut.map intRow))]
  | some m' => ([((0, 0, 0), .arr false 1 (m.fStack.map intRow)), ((0, 0, 1), .arr false 1 (m.fOut.map intRow))] ++ [((1, 0, 0), .arr false 1 (m'.fStack.map intRow)), ((1, 0, 1), .arr false 1 (m'.fOut.map intRow))])
theorem g_impl_stepO (s : TSpace) (m : TMachine) (hok : spaceOk s = true) (hm : m.fStack.length = 1200) (ho : m.fOut.length ≤ 2000000) (h0 : m.fState = 0) (r : Option TMachine) (hr : stepP s m = r) : SpecG Try.prog 77 [.r (.agg (s.tr.map .t)), mV m (0, 0, 0) (0, 0, 1)] [((0, 0, 0), .arr false 1 (m.fStack.map intRow)), ((0, 0, 1), .arr false 1 (m.fOut.map intRow))] (stVO m r) (stHO m r) := by
  obtain ⟨i0, i1, b0, b1, hsh, ⟨e1, e2⟩, ⟨g0, p0, p1⟩, ⟨g1, q0, q1⟩, _, _⟩ := spaceOk_inv hok
  have l0 := (imageOk_iff.1 g0).1
  have l1 := (imageOk_iff.1 g1).1
  have hL := s_impl_locate i0 i1 b0 b1 m.fPc s.fEntries (by omega) (by omega) (by omega) (by omega)
  obtain ⟨im, bs, es⟩ := s
  dsimp only at hsh hL e2
  injection hsh with h1 h2
  subst h1
  subst h2
  refine specG_of_W hΓ hmix Try.func77 rfl (by decide) rfl rfl ?_
  have hloc : locS ⟨[i0, i1], [b0, b1], es⟩ m.fPc = loc2 i0 i1 b0 b1 m.fPc := rfl
  rcases loc2_cases i0 i1 b0 b1 m.fPc with hx | ⟨i, off, hi, hx⟩
  · rw [hx] at hL
    have : r = none := by rw [← hr, stepP, fetchP, hloc, hx]; rfl
    subst this
    repeat' ((conv => whnf); first | refine seq_inl ?_ | refine reg_inl ?_ | refine And.intro (Obl.out (?_ : Obl _)) ?_ | refine ifB_intro (fun h => ?_) (fun h => ?_) | refine Or.inl (call_intro (hL) (And.intro (And.intro rfl (And.intro rfl (And.intro rfl trivial))) (And.intro rfl trivial)) ?_) | refine Exists.intro _ (And.intro rfl ?_) | ((with_reducible show _ = _); rfl))
    all_goals try ((with_reducible refine Obl.mk ?_); first | ((with_reducible show regOk _ _ = true); kernel_rfl) | ((with_reducible show eqTyOk _ _ = true); kernel_rfl) | rfl | exact trivial | ((repeat' (first | exact trivial | refine And.intro ?_ ?_)); done) | decide | ((repeat' (first | exact List.forall_mem_nil _ | refine List.forall_mem_cons.2 (And.intro rfl ?_))); done) | (refine And.intro ?_ ?_ <;> simp only [List.length_map, List.length_append, List.length_cons, List.length_nil] <;> omega))
    all_goals try (exfalso; simp [h0] at h; done)
  · have hoff := loc2_off (b0 := b0) (b1 := b1) (a := m.fPc) l0 l1
    rw [hx] at hL hoff
    dsimp only at hoff
    obtain ⟨im, hi1, hi2, hil⟩ := get2_imgs hi l0 l1
    have hD := s_impl_DecodeOp im.fCode off (by omega) (by omega)
    have hf : fetchP ⟨[i0, i1], [b0, b1], es⟩ m.fPc = decodeOp im.fCode off := by
      rw [fetchP, hloc, hx]
      dsimp only
      rw [if_neg (by omega), Int.toNat_natCast, hi1]
    cases hd : decodeOp im.fCode off with
    | none =>
      rw [hd] at hD hf
      have : r = none := by rw [← hr, stepP, hf]
      subst this
      repeat' ((conv => whnf); first | refine seq_inl ?_ | refine reg_inl ?_ | refine And.intro (Obl.out (?_ : Obl _)) ?_ | refine ifB_intro (fun h => ?_) (fun h => ?_) | refine Or.inl (call_intro (hL) (And.intro (And.intro rfl (And.intro rfl (And.intro rfl trivial))) (And.intro rfl trivial)) ?_) | refine ⟨i, im.tr, rfl, hi2, ?_⟩ | refine Or.inl (call_intro (hD) (And.intro rfl (And.intro rfl trivial)) ?_) | refine Exists.intro _ (And.intro rfl ?_) | ((with_reducible show _ = _); rfl))
      all_goals try ((with_reducible refine Obl.mk ?_); first | ((with_reducible show regOk _ _ = true); kernel_rfl) | ((with_reducible show eqTyOk _ _ = true); kernel_rfl) | rfl | exact trivial | ((repeat' (first | exact trivial | refine And.intro ?_ ?_)); done) | decide | ((repeat' (first | exact List.forall_mem_nil _ | refine List.forall_mem_cons.2 (And.intro rfl ?_))); done) | (refine And.intro ?_ ?_ <;> simp only [List.length_map, List.length_append, List.length_cons, List.length_nil] <;> omega))
      all_goals try (exfalso; simp [h0] at h; done)
      all_goals try (exfalso; have h' := of_decide_eq_true h; omega)
    | some xz =>
      obtain ⟨x, z⟩ := xz
      rw [hd] at hD hf
      obtain ⟨c0, c1, _, z5⟩ := decodeOp_arg hd
      have hC := s_impl_copyMachine m (by omega) ho
      have hr2 : endM (cPerf es (adv ⟨m, false⟩ z) x) = r := by rw [← hr, stepP, hf]
      by_cases h17 : x.fCode = 17
      · have hxx : x = ⟨17, x.fArg⟩ := by rw [← h17]
        have hP := g_core_out ⟨[i0, i1], [b0, b1], es⟩ (adv ⟨m, false⟩ z) x.fArg hm ho
        rw [← hxx] at hP
        have hcc : cPerf es (adv ⟨m, false⟩ z) x = cOut (adv ⟨m, false⟩ z) := by rw [hxx]; simp [cPerf]
        rw [hcc] at hr2
        have hco : (cOut (adv ⟨m, false⟩ z)).ok := cPop_ok (c := adv ⟨m, false⟩ z) hm
        generalize cOut (adv ⟨m, false⟩ z) = c at *
        have hA := g_core_at ⟨{ c.m with fState := 1 }, c.bad⟩ c.m.fSp
        obtain ⟨cm, cb⟩ := c
        unfold cAt at hA
        dsimp only at hA
        cases cb with
        | true =>
          have : r = none := by rw [← hr2]; rfl
          subst this
          repeat' ((conv => whnf); first | refine callG_intro (hP) ?_ | refine seq_inl ?_ | refine reg_inl ?_ | refine And.intro (Obl.out (?_ : Obl _)) ?_ | refine ifB_intro (fun h => ?_) (fun h => ?_) | refine Or.inl (call_intro (hL) (And.intro (And.intro rfl (And.intro rfl (And.intro rfl trivial))) (And.intro rfl trivial)) ?_) | refine ⟨i, im.tr, rfl, hi2, ?_⟩ | refine Or.inl (call_intro (hD) (And.intro rfl (And.intro rfl trivial)) ?_) | refine Or.inl (call_intro (hC) (And.intro (And.intro rfl (And.intro rfl (And.intro rfl (And.intro rfl (And.intro rfl (And.intro rfl (And.intro rfl trivial))))))) trivial) ?_) | refine Exists.intro _ (And.intro rfl ?_) | ((with_reducible show _ = _); rfl))
          all_goals try ((with_reducible refine Obl.mk ?_); first | ((with_reducible show regOk _ _ = true); kernel_rfl) | ((with_reducible show eqTyOk _ _ = true); kernel_rfl) | rfl | exact trivial | ((repeat' (first | exact trivial | refine And.intro ?_ ?_)); done) | decide | ((repeat' (first | exact List.forall_mem_nil _ | refine List.forall_mem_cons.2 (And.intro rfl ?_))); done) | (refine And.intro ?_ ?_ <;> simp only [List.length_map, List.length_append, List.length_cons, List.length_nil] <;> omega))
          all_goals try (exfalso; simp [h0] at h; done)
          all_goals try (exfalso; have h' := of_decide_eq_true h; omega)
        | false =>
          by_cases hpc : cm.fPc = 0
          · cases hin : inStk cm.fSp with
            | false =>
              rw [hin] at hA
              have : r = none := by rw [← hr2]; simp [endM, hpc, hin]
              subst this
              repeat' ((conv => whnf); first | refine callG_intro (hP) ?_ | refine callG_intro (hA) ?_ | refine seq_inl ?_ | refine reg_inl ?_ | refine And.intro (Obl.out (?_ : Obl _)) ?_ | refine ifB_intro (fun h => ?_) (fun h => ?_) | refine Or.inl (call_intro (hL) (And.intro (And.intro rfl (And.intro rfl (And.intro rfl trivial))) (And.intro rfl trivial)) ?_) | refine ⟨i, im.tr, rfl, hi2, ?_⟩ | refine Or.inl (call_intro (hD) (And.intro rfl (And.intro rfl trivial)) ?_) | refine Or.inl (call_intro (hC) (And.intro (And.intro rfl (And.intro rfl (And.intro rfl (And.intro rfl (And.intro rfl (And.intro rfl (And.intro rfl trivial))))))) trivial) ?_) | refine Exists.intro _ (And.intro rfl ?_) | ((with_reducible show _ = _); rfl))
              all_goals try ((with_reducible refine Obl.mk ?_); first | ((with_reducible show regOk _ _ = true); kernel_rfl) | ((with_reducible show eqTyOk _ _ = true); kernel_rfl) | rfl | exact trivial | ((repeat' (first | exact trivial | refine And.intro ?_ ?_)); done) | decide | ((repeat' (first | exact List.forall_mem_nil _ | refine List.forall_mem_cons.2 (And.intro rfl ?_))); done) | (refine And.intro ?_ ?_ <;> simp only [List.length_map, List.length_append, List.length_cons, List.length_nil] <;> omega))
              all_goals try (exfalso; simp [h0] at h; done)
              all_goals try (exfalso; simp [hpc] at h; done)
              all_goals try (exfalso; have h' := of_decide_eq_true h; omega)
            | true =>
              rw [hin] at hA
              obtain ⟨j, v, hj, hv, hlt, _⟩ := stk_at hco hin
              have hlen : (cm.fStack.map intRow).length = cm.fStack.length := by simp
              have hin' : inStk (j : Int) = true := hj ▸ hin
              have : r = some { cm with fState := 1, fValue := v } := by rw [← hr2]; simp [endM, hpc, hin', wordAt, hj, hv]
              subst this
              repeat' ((conv => whnf); first | refine callG_intro (hP) ?_ | refine callG_intro (hA) ?_ | refine seq_inl ?_ | refine reg_inl ?_ | refine And.intro (Obl.out (?_ : Obl _)) ?_ | refine ifB_intro (fun h => ?_) (fun h => ?_) | refine Or.inl (call_intro (hL) (And.intro (And.intro rfl (And.intro rfl (And.intro rfl trivial))) (And.intro rfl trivial)) ?_) | refine ⟨i, im.tr, rfl, hi2, ?_⟩ | refine Or.inl (call_intro (hD) (And.intro rfl (And.intro rfl trivial)) ?_) | refine Or.inl (call_intro (hC) (And.intro (And.intro rfl (And.intro rfl (And.intro rfl (And.intro rfl (And.intro rfl (And.intro rfl (And.intro rfl trivial))))))) trivial) ?_) | refine Exists.intro _ (And.intro rfl ?_) | ((with_reducible show _ = _); rfl))
              all_goals try ((with_reducible refine Obl.mk ?_); first | ((with_reducible show regOk _ _ = true); kernel_rfl) | ((with_reducible show eqTyOk _ _ = true); kernel_rfl) | rfl | exact trivial | ((repeat' (first | exact trivial | refine And.intro ?_ ?_)); done) | decide | ((repeat' (first | exact List.forall_mem_nil _ | refine List.forall_mem_cons.2 (And.intro rfl ?_))); done) | (refine And.intro ?_ ?_ <;> simp only [List.length_map, List.length_append, List.length_cons, List.length_nil] <;> omega))
              all_goals try (exfalso; simp [h0] at h; done)
              all_goals try (exfalso; simp [hpc] at h; done)
              all_goals try (exfalso; have h' := of_decide_eq_true h; omega)
              conv => whnf
              refine ⟨j, hj, by rw [hlen]; exact hlt, ?_⟩
              repeat' ((conv => whnf); first | refine seq_inl ?_ | refine reg_inl ?_ | refine And.intro (Obl.out (?_ : Obl _)) ?_ | refine ifB_intro (fun h => ?_) (fun h => ?_) | refine ⟨(intRow v), map_get hv, ?_⟩ | refine Exists.intro _ (And.intro rfl ?_) | ((with_reducible show _ = _); rfl))
              all_goals try ((with_reducible refine Obl.mk ?_); first | ((with_reducible show regOk _ _ = true); kernel_rfl) | ((with_reducible show eqTyOk _ _ = true); kernel_rfl) | rfl | exact trivial | ((repeat' (first | exact trivial | refine And.intro ?_ ?_)); done) | decide | ((repeat' (first | exact List.forall_mem_nil _ | refine List.forall_mem_cons.2 (And.intro rfl ?_))); done) | (refine And.intro ?_ ?_ <;> simp only [List.length_map, List.length_append, List.length_cons, List.length_nil] <;> omega))
          · have : r = some cm := by rw [← hr2]; simp [endM, hpc]
            subst this
            repeat' ((conv => whnf); first | refine callG_intro (hP) ?_ | refine seq_inl ?_ | refine reg_inl ?_ | refine And.intro (Obl.out (?_ : Obl _)) ?_ | refine ifB_intro (fun h => ?_) (fun h => ?_) | refine Or.inl (call_intro (hL) (And.intro (And.intro rfl (And.intro rfl (And.intro rfl trivial))) (And.intro rfl trivial)) ?_) | refine ⟨i, im.tr, rfl, hi2, ?_⟩ | refine Or.inl (call_intro (hD) (And.intro rfl (And.intro rfl trivial)) ?_) | refine Or.inl (call_intro (hC) (And.intro (And.intro rfl (And.intro rfl (And.intro rfl (And.intro rfl (And.intro rfl (And.intro rfl (And.intro rfl trivial))))))) trivial) ?_) | refine Exists.intro _ (And.intro rfl ?_) | ((with_reducible show _ = _); rfl))
            all_goals try ((with_reducible refine Obl.mk ?_); first | ((with_reducible show regOk _ _ = true); kernel_rfl) | ((with_reducible show eqTyOk _ _ = true); kernel_rfl) | rfl | exact trivial | ((repeat' (first | exact trivial | refine And.intro ?_ ?_)); done) | decide | ((repeat' (first | exact List.forall_mem_nil _ | refine List.forall_mem_cons.2 (And.intro rfl ?_))); done) | (refine And.intro ?_ ?_ <;> simp only [List.length_map, List.length_append, List.length_cons, List.length_nil] <;> omega))
            all_goals try (exfalso; simp [h0] at h; done)
            all_goals try (exfalso; simp [hpc] at h; done)
            all_goals try (exfalso; have h' := of_decide_eq_true h; omega)
      · have hP := g_core_perform ⟨[i0, i1], [b0, b1], es⟩ (adv ⟨m, false⟩ z) x hm h17 c1 (by dsimp only; omega)
        have hco : (cPerf es (adv ⟨m, false⟩ z) x).ok := cPerf_ok hm
        dsimp only at hP
        generalize cPerf es (adv ⟨m, false⟩ z) x = c at *
        have hA := g_core_at ⟨{ c.m with fState := 1 }, c.bad⟩ c.m.fSp
        obtain ⟨cm, cb⟩ := c
        unfold cAt at hA
        dsimp only at hA
        cases cb with
        | true =>
          have : r = none := by rw [← hr2]; rfl
          subst this
          repeat' ((conv => whnf); first | refine callG_intro (hP) ?_ | refine seq_inl ?_ | refine reg_inl ?_ | refine And.intro (Obl.out (?_ : Obl _)) ?_ | refine ifB_intro (fun h => ?_) (fun h => ?_) | refine Or.inl (call_intro (hL) (And.intro (And.intro rfl (And.intro rfl (And.intro rfl trivial))) (And.intro rfl trivial)) ?_) | refine ⟨i, im.tr, rfl, hi2, ?_⟩ | refine Or.inl (call_intro (hD) (And.intro rfl (And.intro rfl trivial)) ?_) | refine Or.inl (call_intro (hC) (And.intro (And.intro rfl (And.intro rfl (And.intro rfl (And.intro rfl (And.intro rfl (And.intro rfl (And.intro rfl trivial))))))) trivial) ?_) | refine Exists.intro _ (And.intro rfl ?_) | ((with_reducible show _ = _); rfl))
          all_goals try ((with_reducible refine Obl.mk ?_); first | ((with_reducible show regOk _ _ = true); kernel_rfl) | ((with_reducible show eqTyOk _ _ = true); kernel_rfl) | rfl | exact trivial | ((repeat' (first | exact trivial | refine And.intro ?_ ?_)); done) | decide | ((repeat' (first | exact List.forall_mem_nil _ | refine List.forall_mem_cons.2 (And.intro rfl ?_))); done) | (refine And.intro ?_ ?_ <;> simp only [List.length_map, List.length_append, List.length_cons, List.length_nil] <;> omega))
          all_goals try (exfalso; simp [h0] at h; done)
          all_goals try (exfalso; have h' := of_decide_eq_true h; omega)
        | false =>
          by_cases hpc : cm.fPc = 0
          · cases hin : inStk cm.fSp with
            | false =>
              rw [hin] at hA
              have : r = none := by rw [← hr2]; simp [endM, hpc, hin]
              subst this
              repeat' ((conv => whnf); first | refine callG_intro (hP) ?_ | refine callG_intro (hA) ?_ | refine seq_inl ?_ | refine reg_inl ?_ | refine And.intro (Obl.out (?_ : Obl _)) ?_ | refine ifB_intro (fun h => ?_) (fun h => ?_) | refine Or.inl (call_intro (hL) (And.intro (And.intro rfl (And.intro rfl (And.intro rfl trivial))) (And.intro rfl trivial)) ?_) | refine ⟨i, im.tr, rfl, hi2, ?_⟩ | refine Or.inl (call_intro (hD) (And.intro rfl (And.intro rfl trivial)) ?_) | refine Or.inl (call_intro (hC) (And.intro (And.intro rfl (And.intro rfl (And.intro rfl (And.intro rfl (And.intro rfl (And.intro rfl (And.intro rfl trivial))))))) trivial) ?_) | refine Exists.intro _ (And.intro rfl ?_) | ((with_reducible show _ = _); rfl))
              all_goals try ((with_reducible refine Obl.mk ?_); first | ((with_reducible show regOk _ _ = true); kernel_rfl) | ((with_reducible show eqTyOk _ _ = true); kernel_rfl) | rfl | exact trivial | ((repeat' (first | exact trivial | refine And.intro ?_ ?_)); done) | decide | ((repeat' (first | exact List.forall_mem_nil _ | refine List.forall_mem_cons.2 (And.intro rfl ?_))); done) | (refine And.intro ?_ ?_ <;> simp only [List.length_map, List.length_append, List.length_cons, List.length_nil] <;> omega))
              all_goals try (exfalso; simp [h0] at h; done)
              all_goals try (exfalso; simp [hpc] at h; done)
              all_goals try (exfalso; have h' := of_decide_eq_true h; omega)
            | true =>
              rw [hin] at hA
              obtain ⟨j, v, hj, hv, hlt, _⟩ := stk_at hco hin
              have hlen : (cm.fStack.map intRow).length = cm.fStack.length := by simp
              have hin' : inStk (j : Int) = true := hj ▸ hin
              have : r = some { cm with fState := 1, fValue := v } := by rw [← hr2]; simp [endM, hpc, hin', wordAt, hj, hv]
              subst this
              repeat' ((conv => whnf); first | refine callG_intro (hP) ?_ | refine callG_intro (hA) ?_ | refine seq_inl ?_ | refine reg_inl ?_ | refine And.intro (Obl.out (?_ : Obl _)) ?_ | refine ifB_intro (fun h => ?_) (fun h => ?_) | refine Or.inl (call_intro (hL) (And.intro (And.intro rfl (And.intro rfl (And.intro rfl trivial))) (And.intro rfl trivial)) ?_) | refine ⟨i, im.tr, rfl, hi2, ?_⟩ | refine Or.inl (call_intro (hD) (And.intro rfl (And.intro rfl trivial)) ?_) | refine Or.inl (call_intro (hC) (And.intro (And.intro rfl (And.intro rfl (And.intro rfl (And.intro rfl (And.intro rfl (And.intro rfl (And.intro rfl trivial))))))) trivial) ?_) | refine Exists.intro _ (And.intro rfl ?_) | ((with_reducible show _ = _); rfl))
              all_goals try ((with_reducible refine Obl.mk ?_); first | ((with_reducible show regOk _ _ = true); kernel_rfl) | ((with_reducible show eqTyOk _ _ = true); kernel_rfl) | rfl | exact trivial | ((repeat' (first | exact trivial | refine And.intro ?_ ?_)); done) | decide | ((repeat' (first | exact List.forall_mem_nil _ | refine List.forall_mem_cons.2 (And.intro rfl ?_))); done) | (refine And.intro ?_ ?_ <;> simp only [List.length_map, List.length_append, List.length_cons, List.length_nil] <;> omega))
              all_goals try (exfalso; simp [h0] at h; done)
              all_goals try (exfalso; simp [hpc] at h; done)
              all_goals try (exfalso; have h' := of_decide_eq_true h; omega)
              conv => whnf
              refine ⟨j, hj, by rw [hlen]; exact hlt, ?_⟩
              repeat' ((conv => whnf); first | refine seq_inl ?_ | refine reg_inl ?_ | refine And.intro (Obl.out (?_ : Obl _)) ?_ | refine ifB_intro (fun h => ?_) (fun h => ?_) | refine ⟨(intRow v), map_get hv, ?_⟩ | refine Exists.intro _ (And.intro rfl ?_) | ((with_reducible show _ = _); rfl))
              all_goals try ((with_reducible refine Obl.mk ?_); first | ((with_reducible show regOk _ _ = true); kernel_rfl) | ((with_reducible show eqTyOk _ _ = true); kernel_rfl) | rfl | exact trivial | ((repeat' (first | exact trivial | refine And.intro ?_ ?_)); done) | decide | ((repeat' (first | exact List.forall_mem_nil _ | refine List.forall_mem_cons.2 (And.intro rfl ?_))); done) | (refine And.intro ?_ ?_ <;> simp only [List.length_map, List.length_append, List.length_cons, List.length_nil] <;> omega))
          · have : r = some cm := by rw [← hr2]; simp [endM, hpc]
            subst this
            repeat' ((conv => whnf); first | refine callG_intro (hP) ?_ | refine seq_inl ?_ | refine reg_inl ?_ | refine And.intro (Obl.out (?_ : Obl _)) ?_ | refine ifB_intro (fun h => ?_) (fun h => ?_) | refine Or.inl (call_intro (hL) (And.intro (And.intro rfl (And.intro rfl (And.intro rfl trivial))) (And.intro rfl trivial)) ?_) | refine ⟨i, im.tr, rfl, hi2, ?_⟩ | refine Or.inl (call_intro (hD) (And.intro rfl (And.intro rfl trivial)) ?_) | refine Or.inl (call_intro (hC) (And.intro (And.intro rfl (And.intro rfl (And.intro rfl (And.intro rfl (And.intro rfl (And.intro rfl (And.intro rfl trivial))))))) trivial) ?_) | refine Exists.intro _ (And.intro rfl ?_) | ((with_reducible show _ = _); rfl))
            all_goals try ((with_reducible refine Obl.mk ?_); first | ((with_reducible show regOk _ _ = true); kernel_rfl) | ((with_reducible show eqTyOk _ _ = true); kernel_rfl) | rfl | exact trivial | ((repeat' (first | exact trivial | refine And.intro ?_ ?_)); done) | decide | ((repeat' (first | exact List.forall_mem_nil _ | refine List.forall_mem_cons.2 (And.intro rfl ?_))); done) | (refine And.intro ?_ ?_ <;> simp only [List.length_map, List.length_append, List.length_cons, List.length_nil] <;> omega))
            all_goals try (exfalso; simp [h0] at h; done)
            all_goals try (exfalso; simp [hpc] at h; done)
            all_goals try (exfalso; have h' := of_decide_eq_true h; omega)
theorem runM_stop {s : TSpace} {k : Nat} {m : TMachine} (h : m.fState ≠ 0 ∨ k = 0) : runM s k m = (m, 0) := by
  cases k with
  | zero => rfl
  | succ k => rw [runM, if_neg (by rcases h with h | h; · exact h
                                   · cases h)]
theorem runM_go {s : TSpace} {k : Nat} {m : TMachine} (h : m.fState = 0) : runM s (k + 1) m = ((runM s k (stepR m (stepP s m))).1, (runM s k (stepR m (stepP s m))).2 + 1) := by rw [runM, if_pos h]
abbrev zBox : AO := .box [.t (.int .i64 0), .t (.int .i64 0), .t (.int .i64 0), .nils 0, .nils 0, .t (.int .i64 0), .t (.int .i64 0)]
abbrev sBox (s : TSpace) : AO := .box (s.tr.map .t)
theorem s_impl_RunMachine (s : TSpace) (m : TMachine) (l : Int) (hs : smallR 1048576 s.tr) (hms : smallR 1048576 m.tr) (hw : m.wf) (hsw : s.wf) : Sim.Spec Try.prog 16 [.agg s.tr, .agg m.tr, tvI l] (.tup [.agg ((runMach s m l).1.tr.map resC), .c (.t (.int .i64 ((runMach s m l).2 : Int)))]) := by
  have hS := s_impl_SpaceOk s hs
  have hM := s_impl_MachineOk m
  have hB := s_impl_between l 0 20000
  obtain ⟨k1, k2⟩ := mach_small hms
  have hC := s_impl_copyMachine m k1 (by omega)
  refine spec_of_W hΓ hmix Try.func16 rfl (by decide) rfl ?_
  unfold runMach
  cases a1 : spaceOk s with
  | false =>
    rw [a1] at hS
    rw [if_neg (by simp)]
    repeat' ((conv => whnf); first | refine seq_inl ?_ | refine reg_inl ?_ | refine And.intro (Obl.out (?_ : Obl _)) ?_ | refine ifB_intro (fun h => ?_) (fun h => ?_) | refine Or.inl (call_intro (hC) (And.intro (And.intro rfl (And.intro rfl (And.intro rfl (And.intro rfl (And.intro rfl (And.intro rfl (And.intro rfl trivial))))))) trivial) ?_) | refine Or.inl (call_intro (hS) (And.intro (And.intro rfl (And.intro rfl (And.intro rfl trivial))) trivial) ?_) | refine Or.inl (call_intro (hM) (And.intro (And.intro rfl (And.intro rfl (And.intro rfl (And.intro rfl (And.intro rfl (And.intro rfl (And.intro rfl trivial))))))) trivial) ?_) | refine Or.inl (call_intro (hB) (And.intro rfl (And.intro rfl (And.intro rfl trivial))) ?_) | refine Exists.intro _ (And.intro rfl ?_) | ((with_reducible show _ = _); rfl))
    all_goals try ((with_reducible refine Obl.mk ?_); first | ((with_reducible show regOk _ _ = true); kernel_rfl) | ((with_reducible show eqTyOk _ _ = true); kernel_rfl) | rfl | exact trivial | ((repeat' (first | exact trivial | refine And.intro ?_ ?_)); done) | decide | ((repeat' (first | exact List.forall_mem_nil _ | refine List.forall_mem_cons.2 (And.intro rfl ?_))); done) | (refine And.intro ?_ ?_ <;> simp only [List.length_map, List.length_append, List.length_cons, List.length_nil] <;> omega))
    all_goals try (exfalso; simp at h; done)
    all_goals exact ⟨⟨rfl, flat_ints _⟩⟩
  | true =>
    rw [a1] at hS
    cases a2 : machineOk m with
    | false =>
      rw [a2] at hM
      rw [if_neg (by simp)]
      repeat' ((conv => whnf); first | refine seq_inl ?_ | refine reg_inl ?_ | refine And.intro (Obl.out (?_ : Obl _)) ?_ | refine ifB_intro (fun h => ?_) (fun h => ?_) | refine Or.inl (call_intro (hC) (And.intro (And.intro rfl (And.intro rfl (And.intro rfl (And.intro rfl (And.intro rfl (And.intro rfl (And.intro rfl trivial))))))) trivial) ?_) | refine Or.inl (call_intro (hS) (And.intro (And.intro rfl (And.intro rfl (And.intro rfl trivial))) trivial) ?_) | refine Or.inl (call_intro (hM) (And.intro (And.intro rfl (And.intro rfl (And.intro rfl (And.intro rfl (And.intro rfl (And.intro rfl (And.intro rfl trivial))))))) trivial) ?_) | refine Or.inl (call_intro (hB) (And.intro rfl (And.intro rfl (And.intro rfl trivial))) ?_) | refine Exists.intro _ (And.intro rfl ?_) | ((with_reducible show _ = _); rfl))
      all_goals try ((with_reducible refine Obl.mk ?_); first | ((with_reducible show regOk _ _ = true); kernel_rfl) | ((with_reducible show eqTyOk _ _ = true); kernel_rfl) | rfl | exact trivial | ((repeat' (first | exact trivial | refine And.intro ?_ ?_)); done) | decide | ((repeat' (first | exact List.forall_mem_nil _ | refine List.forall_mem_cons.2 (And.intro rfl ?_))); done) | (refine And.intro ?_ ?_ <;> simp only [List.length_map, List.length_append, List.length_cons, List.length_nil] <;> omega))
      all_goals try (exfalso; simp at h; done)
      all_goals exact ⟨⟨rfl, flat_ints _⟩⟩
    | true =>
      rw [a2] at hM
      cases a3 : within l 0 20000 with
      | false =>
        rw [a3] at hB
        rw [if_neg (by simp)]
        repeat' ((conv => whnf); first | refine seq_inl ?_ | refine reg_inl ?_ | refine And.intro (Obl.out (?_ : Obl _)) ?_ | refine ifB_intro (fun h => ?_) (fun h => ?_) | refine Or.inl (call_intro (hC) (And.intro (And.intro rfl (And.intro rfl (And.intro rfl (And.intro rfl (And.intro rfl (And.intro rfl (And.intro rfl trivial))))))) trivial) ?_) | refine Or.inl (call_intro (hS) (And.intro (And.intro rfl (And.intro rfl (And.intro rfl trivial))) trivial) ?_) | refine Or.inl (call_intro (hM) (And.intro (And.intro rfl (And.intro rfl (And.intro rfl (And.intro rfl (And.intro rfl (And.intro rfl (And.intro rfl trivial))))))) trivial) ?_) | refine Or.inl (call_intro (hB) (And.intro rfl (And.intro rfl (And.intro rfl trivial))) ?_) | refine Exists.intro _ (And.intro rfl ?_) | ((with_reducible show _ = _); rfl))
        all_goals try ((with_reducible refine Obl.mk ?_); first | ((with_reducible show regOk _ _ = true); kernel_rfl) | ((with_reducible show eqTyOk _ _ = true); kernel_rfl) | rfl | exact trivial | ((repeat' (first | exact trivial | refine And.intro ?_ ?_)); done) | decide | ((repeat' (first | exact List.forall_mem_nil _ | refine List.forall_mem_cons.2 (And.intro rfl ?_))); done) | (refine And.intro ?_ ?_ <;> simp only [List.length_map, List.length_append, List.length_cons, List.length_nil] <;> omega))
        all_goals try (exfalso; simp at h; done)
        all_goals exact ⟨⟨rfl, flat_ints _⟩⟩
      | true =>
        rw [a3] at hB
        rw [if_pos ⟨rfl, rfl, rfl⟩]
        have hl := within_iff.1 a3
        obtain ⟨L, rfl⟩ := Int.eq_ofNat_of_zero_le hl.1
        obtain ⟨m1, m2, m3⟩ := machineOk_iffL.1 a2
        have hinv : MInv m 0 := ⟨m1, m2, ⟨hw.2.2.2.1.2, hw.1, hw.2.2.1⟩, by omega⟩
        have hen : ∀ e ∈ s.fEntries, inI e := hsw.2.2.2
        rw [Int.toNat_natCast]
        obtain ⟨R, hR⟩ : ∃ R, runM s L m = R := ⟨_, rfl⟩
        rw [hR]
        repeat' ((conv => whnf); first | refine seq_inl ?_ | refine reg_inl ?_ | refine And.intro (Obl.out (?_ : Obl _)) ?_ | refine ifB_intro (fun h => ?_) (fun h => ?_) | refine Or.inl (call_intro (hC) (And.intro (And.intro rfl (And.intro rfl (And.intro rfl (And.intro rfl (And.intro rfl (And.intro rfl (And.intro rfl trivial))))))) trivial) ?_) | refine Or.inl (call_intro (hS) (And.intro (And.intro rfl (And.intro rfl (And.intro rfl trivial))) trivial) ?_) | refine Or.inl (call_intro (hM) (And.intro (And.intro rfl (And.intro rfl (And.intro rfl (And.intro rfl (And.intro rfl (And.intro rfl (And.intro rfl trivial))))))) trivial) ?_) | refine Or.inl (call_intro (hB) (And.intro rfl (And.intro rfl (And.intro rfl trivial))) ?_) | refine Exists.intro _ (And.intro rfl ?_) | ((with_reducible show _ = _); rfl))
        all_goals try ((with_reducible refine Obl.mk ?_); first | ((with_reducible show regOk _ _ = true); kernel_rfl) | ((with_reducible show eqTyOk _ _ = true); kernel_rfl) | rfl | exact trivial | ((repeat' (first | exact trivial | refine And.intro ?_ ?_)); done) | decide | ((repeat' (first | exact List.forall_mem_nil _ | refine List.forall_mem_cons.2 (And.intro rfl ?_))); done) | (refine And.intro ?_ ?_ <;> simp only [List.length_map, List.length_append, List.length_cons, List.length_nil] <;> omega))
        all_goals try (exfalso; simp at h; done)
        conv => whnf
        refine ⟨{ q : Nat × TMachine // q.1 ≤ L ∧ MInv q.2 q.1 ∧ (runM s (L - q.1) q.2).1 = R.1 ∧ (runM s (L - q.1) q.2).2 + q.1 = R.2 }, fun q => ⟨[(2, tI .i64 (L : Int)), (3, .r (.c (.ptr (3, 0, 0) 0))), (6, .r (.c (.ptr (6, 0, 0) 0))), (7, tI .i64 0), (8, .r (.c (.ptr (8, 0, 0) 0))), (9, tI .i64 (q.1.1 : Int))],
          [((3, 0, 0), some (sBox s)), ((6, 0, 0), some zBox), ((8, 0, 0), some (mBox q.1.2 (11, 0, 3) (11, 0, 4))), ((11, 0, 3), some (.arr false 1 (q.1.2.fStack.map intRow))), ((11, 0, 4), some (.arr false 1 (q.1.2.fOut.map intRow)))], [3, 6, 8, 11]⟩, fun q => L - q.1.1, ⟨(0, m), by omega, hinv, by simp [hR], by simp [hR]⟩, ?_, ?_⟩
        · skip
          repeat' ((conv => whnf); first | refine seq_inl ?_ | refine reg_inl ?_ | refine And.intro (Obl.out (?_ : Obl _)) ?_ | refine ifB_intro (fun h => ?_) (fun h => ?_) | refine Exists.intro _ (And.intro rfl ?_) | ((with_reducible show _ = _); rfl))
          all_goals try ((with_reducible refine Obl.mk ?_); first | ((with_reducible show regOk _ _ = true); kernel_rfl) | ((with_reducible show eqTyOk _ _ = true); kernel_rfl) | rfl | exact trivial | ((repeat' (first | exact trivial | refine And.intro ?_ ?_)); done) | decide | ((repeat' (first | exact List.forall_mem_nil _ | refine List.forall_mem_cons.2 (And.intro rfl ?_))); done) | (refine And.intro ?_ ?_ <;> simp only [List.length_map, List.length_append, List.length_cons, List.length_nil] <;> omega))
        intro ⟨⟨n, d⟩, q1, q2, q3, q4⟩
        dsimp only at q1 q2 q3 q4 ⊢
        by_cases hgo : d.fState = 0 ∧ n < L
        · obtain ⟨g1, g2⟩ := hgo
          obtain ⟨j, hj⟩ : ∃ j, L - n = j + 1 := ⟨L - n - 1, by omega⟩
          rw [hj, runM_go g1] at q3 q4
          dsimp only at q3 q4
          have hnx := q2.step hen
          have hT := g_impl_stepO s d a1 q2.len (by have := q2.out; omega) g1 _ rfl
          cases hr : stepP s d with
          | none =>
            rw [hr] at hT hnx q3 q4
            repeat' ((conv => whnf); first | refine callG_intro (hT) ?_ | refine seq_inl ?_ | refine reg_inl ?_ | refine And.intro (Obl.out (?_ : Obl _)) ?_ | refine ifB_intro (fun h => ?_) (fun h => ?_) | refine Exists.intro _ (And.intro rfl ?_) | ((with_reducible show _ = _); rfl))
            all_goals try ((with_reducible refine Obl.mk ?_); first | ((with_reducible show regOk _ _ = true); kernel_rfl) | ((with_reducible show eqTyOk _ _ = true); kernel_rfl) | rfl | exact trivial | ((repeat' (first | exact trivial | refine And.intro ?_ ?_)); done) | decide | ((repeat' (first | exact List.forall_mem_nil _ | refine List.forall_mem_cons.2 (And.intro rfl ?_))); done) | (refine And.intro ?_ ?_ <;> simp only [List.length_map, List.length_append, List.length_cons, List.length_nil] <;> omega))
            all_goals try (exfalso; simp [g1] at h; done)
            all_goals try (exfalso; have h' := of_decide_eq_false h; omega)
            conv => whnf
            refine ⟨⟨(n + 1, badM d), by dsimp only; omega, hnx, by rw [show L - (n + 1) = j by omega]; exact q3, by rw [show L - (n + 1) = j by omega]; dsimp only [stepR] at q4 ⊢; omega⟩, ?_, by dsimp only; omega⟩
            repeat' ((conv => whnf); first | refine seq_inl ?_ | refine reg_inl ?_ | refine And.intro (Obl.out (?_ : Obl _)) ?_ | refine ifB_intro (fun h => ?_) (fun h => ?_) | refine Exists.intro _ (And.intro rfl ?_) | ((with_reducible show _ = _); rfl))
            all_goals try ((with_reducible refine Obl.mk ?_); first | ((with_reducible show regOk _ _ = true); kernel_rfl) | ((with_reducible show eqTyOk _ _ = true); kernel_rfl) | rfl | exact trivial | ((repeat' (first | exact trivial | refine And.intro ?_ ?_)); done) | decide | ((repeat' (first | exact List.forall_mem_nil _ | refine List.forall_mem_cons.2 (And.intro rfl ?_))); done) | (refine And.intro ?_ ?_ <;> simp only [List.length_map, List.length_append, List.length_cons, List.length_nil] <;> omega))
            all_goals try (refine ⟨congrArg (Tr.int _) ?_⟩; dsimp only; rw [IntWalk.i64_in _ (by omega)]; omega)
          | some d' =>
            rw [hr] at hT hnx q3 q4
            repeat' ((conv => whnf); first | refine callG_intro (hT) ?_ | refine seq_inl ?_ | refine reg_inl ?_ | refine And.intro (Obl.out (?_ : Obl _)) ?_ | refine ifB_intro (fun h => ?_) (fun h => ?_) | refine Exists.intro _ (And.intro rfl ?_) | ((with_reducible show _ = _); rfl))
            all_goals try ((with_reducible refine Obl.mk ?_); first | ((with_reducible show regOk _ _ = true); kernel_rfl) | ((with_reducible show eqTyOk _ _ = true); kernel_rfl) | rfl | exact trivial | ((repeat' (first | exact trivial | refine And.intro ?_ ?_)); done) | decide | ((repeat' (first | exact List.forall_mem_nil _ | refine List.forall_mem_cons.2 (And.intro rfl ?_))); done) | (refine And.intro ?_ ?_ <;> simp only [List.length_map, List.length_append, List.length_cons, List.length_nil] <;> omega))
            all_goals try (exfalso; simp [g1] at h; done)
            all_goals try (exfalso; have h' := of_decide_eq_false h; omega)
            conv => whnf
            refine ⟨⟨(n + 1, d'), by dsimp only; omega, hnx, by rw [show L - (n + 1) = j by omega]; exact q3, by rw [show L - (n + 1) = j by omega]; dsimp only [stepR] at q4 ⊢; omega⟩, ?_, by dsimp only; omega⟩
            repeat' ((conv => whnf); first | refine seq_inl ?_ | refine reg_inl ?_ | refine And.intro (Obl.out (?_ : Obl _)) ?_ | refine ifB_intro (fun h => ?_) (fun h => ?_) | refine Exists.intro _ (And.intro rfl ?_) | ((with_reducible show _ = _); rfl))
            all_goals try ((with_reducible refine Obl.mk ?_); first | ((with_reducible show regOk _ _ = true); kernel_rfl) | ((with_reducible show eqTyOk _ _ = true); kernel_rfl) | rfl | exact trivial | ((repeat' (first | exact trivial | refine And.intro ?_ ?_)); done) | decide | ((repeat' (first | exact List.forall_mem_nil _ | refine List.forall_mem_cons.2 (And.intro rfl ?_))); done) | (refine And.intro ?_ ?_ <;> simp only [List.length_map, List.length_append, List.length_cons, List.length_nil] <;> omega))
            all_goals try (refine ⟨congrArg (Tr.int _) ?_⟩; dsimp only; rw [IntWalk.i64_in _ (by omega)]; omega)
        · have hst : runM s (L - n) d = (d, 0) := runM_stop (by by_cases h0 : d.fState = 0; · exact .inr (by have := fun h => hgo ⟨h0, h⟩; omega)
                                                                · exact .inl h0)
          rw [hst] at q3 q4
          dsimp only at q3 q4
          have hD := s_impl_copyMachine d (by have := q2.len; omega) (by have := q2.out; omega)
          obtain ⟨R1, R2⟩ := R
          dsimp only at q3 q4
          subst q3; subst q4
          repeat' ((conv => whnf); first | refine seq_inl ?_ | refine reg_inl ?_ | refine And.intro (Obl.out (?_ : Obl _)) ?_ | refine ifB_intro (fun h => ?_) (fun h => ?_) | refine Or.inl (call_intro (hD) (And.intro (And.intro rfl (And.intro rfl (And.intro rfl (And.intro rfl (And.intro rfl (And.intro rfl (And.intro rfl trivial))))))) trivial) ?_) | refine Exists.intro _ (And.intro rfl ?_) | ((with_reducible show _ = _); rfl))
          all_goals try ((with_reducible refine Obl.mk ?_); first | ((with_reducible show regOk _ _ = true); kernel_rfl) | ((with_reducible show eqTyOk _ _ = true); kernel_rfl) | rfl | exact trivial | ((repeat' (first | exact trivial | refine And.intro ?_ ?_)); done) | decide | ((repeat' (first | exact List.forall_mem_nil _ | refine List.forall_mem_cons.2 (And.intro rfl ?_))); done) | (refine And.intro ?_ ?_ <;> simp only [List.length_map, List.length_append, List.length_cons, List.length_nil] <;> omega))
          all_goals try (exfalso; apply hgo; refine ⟨by simpa using ‹(d.fState == 0) = true›, ?_⟩; have h' := of_decide_eq_true ‹decide ((n : Int) < (L : Int)) = true›; omega)
          all_goals exact ⟨congrArg (Tr.int _) (by dsimp only; omega)⟩
theorem s_spec_RunMachine (s : TSpace) (m : TMachine) (l : Int) (hs : smallR 1048576 s.tr) (hms : smallR 1048576 m.tr) (hw : m.wf) (hsw : s.wf) : Sim.Spec Try.prog 13 [.agg s.tr, .agg m.tr, tvI l] (.tup [.agg ((runMach s m l).1.tr.map resC), .c (.t (.int .i64 ((runMach s m l).2 : Int)))]) := by
  have hS := s_spec_SpaceOk s hs
  have hM := s_spec_MachineOk m
  have hB := s_spec_l01In l 0 20000
  obtain ⟨k1, k2⟩ := mach_small hms
  have hC := s_spec_l11Copy m k1 (by omega)
  refine spec_of_W hΓ hmix Try.func13 rfl (by decide) rfl ?_
  unfold runMach
  cases a1 : spaceOk s with
  | false =>
    rw [a1] at hS
    rw [if_neg (by simp)]
    repeat' ((conv => whnf); first | refine seq_inl ?_ | refine reg_inl ?_ | refine And.intro (Obl.out (?_ : Obl _)) ?_ | refine ifB_intro (fun h => ?_) (fun h => ?_) | refine Or.inl (call_intro (hC) (And.intro (And.intro rfl (And.intro rfl (And.intro rfl (And.intro rfl (And.intro rfl (And.intro rfl (And.intro rfl trivial))))))) trivial) ?_) | refine Or.inl (call_intro (hS) (And.intro (And.intro rfl (And.intro rfl (And.intro rfl trivial))) trivial) ?_) | refine Or.inl (call_intro (hM) (And.intro (And.intro rfl (And.intro rfl (And.intro rfl (And.intro rfl (And.intro rfl (And.intro rfl (And.intro rfl trivial))))))) trivial) ?_) | refine Or.inl (call_intro (hB) (And.intro rfl (And.intro rfl (And.intro rfl trivial))) ?_) | refine Exists.intro _ (And.intro rfl ?_) | ((with_reducible show _ = _); rfl))
    all_goals try ((with_reducible refine Obl.mk ?_); first | ((with_reducible show regOk _ _ = true); kernel_rfl) | ((with_reducible show eqTyOk _ _ = true); kernel_rfl) | rfl | exact trivial | ((repeat' (first | exact trivial | refine And.intro ?_ ?_)); done) | decide | ((repeat' (first | exact List.forall_mem_nil _ | refine List.forall_mem_cons.2 (And.intro rfl ?_))); done) | (refine And.intro ?_ ?_ <;> simp only [List.length_map, List.length_append, List.length_cons, List.length_nil] <;> omega))
    all_goals try (exfalso; simp at h; done)
    all_goals exact ⟨⟨rfl, flat_ints _⟩⟩
  | true =>
    rw [a1] at hS
    cases a2 : machineOk m with
    | false =>
      rw [a2] at hM
      rw [if_neg (by simp)]
      repeat' ((conv => whnf); first | refine seq_inl ?_ | refine reg_inl ?_ | refine And.intro (Obl.out (?_ : Obl _)) ?_ | refine ifB_intro (fun h => ?_) (fun h => ?_) | refine Or.inl (call_intro (hC) (And.intro (And.intro rfl (And.intro rfl (And.intro rfl (And.intro rfl (And.intro rfl (And.intro rfl (And.intro rfl trivial))))))) trivial) ?_) | refine Or.inl (call_intro (hS) (And.intro (And.intro rfl (And.intro rfl (And.intro rfl trivial))) trivial) ?_) | refine Or.inl (call_intro (hM) (And.intro (And.intro rfl (And.intro rfl (And.intro rfl (And.intro rfl (And.intro rfl (And.intro rfl (And.intro rfl trivial))))))) trivial) ?_) | refine Or.inl (call_intro (hB) (And.intro rfl (And.intro rfl (And.intro rfl trivial))) ?_) | refine Exists.intro _ (And.intro rfl ?_) | ((with_reducible show _ = _); rfl))
      all_goals try ((with_reducible refine Obl.mk ?_); first | ((with_reducible show regOk _ _ = true); kernel_rfl) | ((with_reducible show eqTyOk _ _ = true); kernel_rfl) | rfl | exact trivial | ((repeat' (first | exact trivial | refine And.intro ?_ ?_)); done) | decide | ((repeat' (first | exact List.forall_mem_nil _ | refine List.forall_mem_cons.2 (And.intro rfl ?_))); done) | (refine And.intro ?_ ?_ <;> simp only [List.length_map, List.length_append, List.length_cons, List.length_nil] <;> omega))
      all_goals try (exfalso; simp at h; done)
      all_goals exact ⟨⟨rfl, flat_ints _⟩⟩
    | true =>
      rw [a2] at hM
      cases a3 : within l 0 20000 with
      | false =>
        rw [a3] at hB
        rw [if_neg (by simp)]
        repeat' ((conv => whnf); first | refine seq_inl ?_ | refine reg_inl ?_ | refine And.intro (Obl.out (?_ : Obl _)) ?_ | refine ifB_intro (fun h => ?_) (fun h => ?_) | refine Or.inl (call_intro (hC) (And.intro (And.intro rfl (And.intro rfl (And.intro rfl (And.intro rfl (And.intro rfl (And.intro rfl (And.intro rfl trivial))))))) trivial) ?_) | refine Or.inl (call_intro (hS) (And.intro (And.intro rfl (And.intro rfl (And.intro rfl trivial))) trivial) ?_) | refine Or.inl (call_intro (hM) (And.intro (And.intro rfl (And.intro rfl (And.intro rfl (And.intro rfl (And.intro rfl (And.intro rfl (And.intro rfl trivial))))))) trivial) ?_) | refine Or.inl (call_intro (hB) (And.intro rfl (And.intro rfl (And.intro rfl trivial))) ?_) | refine Exists.intro _ (And.intro rfl ?_) | ((with_reducible show _ = _); rfl))
        all_goals try ((with_reducible refine Obl.mk ?_); first | ((with_reducible show regOk _ _ = true); kernel_rfl) | ((with_reducible show eqTyOk _ _ = true); kernel_rfl) | rfl | exact trivial | ((repeat' (first | exact trivial | refine And.intro ?_ ?_)); done) | decide | ((repeat' (first | exact List.forall_mem_nil _ | refine List.forall_mem_cons.2 (And.intro rfl ?_))); done) | (refine And.intro ?_ ?_ <;> simp only [List.length_map, List.length_append, List.length_cons, List.length_nil] <;> omega))
        all_goals try (exfalso; simp at h; done)
        all_goals exact ⟨⟨rfl, flat_ints _⟩⟩
      | true =>
        rw [a3] at hB
        rw [if_pos ⟨rfl, rfl, rfl⟩]
        have hl := within_iff.1 a3
        obtain ⟨L, rfl⟩ := Int.eq_ofNat_of_zero_le hl.1
        obtain ⟨m1, m2, m3⟩ := machineOk_iffL.1 a2
        have hinv : MInv m 0 := ⟨m1, m2, ⟨hw.2.2.2.1.2, hw.1, hw.2.2.1⟩, by omega⟩
        have hen : ∀ e ∈ s.fEntries, inI e := hsw.2.2.2
        rw [Int.toNat_natCast]
        obtain ⟨R, hR⟩ : ∃ R, runM s L m = R := ⟨_, rfl⟩
        rw [hR]
        repeat' ((conv => whnf); first | refine seq_inl ?_ | refine reg_inl ?_ | refine And.intro (Obl.out (?_ : Obl _)) ?_ | refine ifB_intro (fun h => ?_) (fun h => ?_) | refine Or.inl (call_intro (hC) (And.intro (And.intro rfl (And.intro rfl (And.intro rfl (And.intro rfl (And.intro rfl (And.intro rfl (And.intro rfl trivial))))))) trivial) ?_) | refine Or.inl (call_intro (hS) (And.intro (And.intro rfl (And.intro rfl (And.intro rfl trivial))) trivial) ?_) | refine Or.inl (call_intro (hM) (And.intro (And.intro rfl (And.intro rfl (And.intro rfl (And.intro rfl (And.intro rfl (And.intro rfl (And.intro rfl trivial))))))) trivial) ?_) | refine Or.inl (call_intro (hB) (And.intro rfl (And.intro rfl (And.intro rfl trivial))) ?_) | refine Exists.intro _ (And.intro rfl ?_) | ((with_reducible show _ = _); rfl))
        all_goals try ((with_reducible refine Obl.mk ?_); first | ((with_reducible show regOk _ _ = true); kernel_rfl) | ((with_reducible show eqTyOk _ _ = true); kernel_rfl) | rfl | exact trivial | ((repeat' (first | exact trivial | refine And.intro ?_ ?_)); done) | decide | ((repeat' (first | exact List.forall_mem_nil _ | refine List.forall_mem_cons.2 (And.intro rfl ?_))); done) | (refine And.intro ?_ ?_ <;> simp only [List.length_map, List.length_append, List.length_cons, List.length_nil] <;> omega))
        all_goals try (exfalso; simp at h; done)
        conv => whnf
        refine ⟨{ q : Nat × TMachine // q.1 ≤ L ∧ MInv q.2 q.1 ∧ (runM s (L - q.1) q.2).1 = R.1 ∧ (runM s (L - q.1) q.2).2 + q.1 = R.2 }, fun q => ⟨[(2, tI .i64 (L : Int)), (3, .r (.c (.ptr (3, 0, 0) 0))), (6, .r (.c (.ptr (6, 0, 0) 0))), (7, tI .i64 0), (8, .r (.c (.ptr (8, 0, 0) 0))), (9, tI .i64 (q.1.1 : Int))],
          [((3, 0, 0), some (sBox s)), ((6, 0, 0), some zBox), ((8, 0, 0), some (mBox q.1.2 (11, 0, 3) (11, 0, 4))), ((11, 0, 3), some (.arr false 1 (q.1.2.fStack.map intRow))), ((11, 0, 4), some (.arr false 1 (q.1.2.fOut.map intRow)))], [3, 6, 8, 11]⟩, fun q => L - q.1.1, ⟨(0, m), by omega, hinv, by simp [hR], by simp [hR]⟩, ?_, ?_⟩
        · skip
          repeat' ((conv => whnf); first | refine seq_inl ?_ | refine reg_inl ?_ | refine And.intro (Obl.out (?_ : Obl _)) ?_ | refine ifB_intro (fun h => ?_) (fun h => ?_) | refine Exists.intro _ (And.intro rfl ?_) | ((with_reducible show _ = _); rfl))
          all_goals try ((with_reducible refine Obl.mk ?_); first | ((with_reducible show regOk _ _ = true); kernel_rfl) | ((with_reducible show eqTyOk _ _ = true); kernel_rfl) | rfl | exact trivial | ((repeat' (first | exact trivial | refine And.intro ?_ ?_)); done) | decide | ((repeat' (first | exact List.forall_mem_nil _ | refine List.forall_mem_cons.2 (And.intro rfl ?_))); done) | (refine And.intro ?_ ?_ <;> simp only [List.length_map, List.length_append, List.length_cons, List.length_nil] <;> omega))
        intro ⟨⟨n, d⟩, q1, q2, q3, q4⟩
        dsimp only at q1 q2 q3 q4 ⊢
        by_cases hgo : d.fState = 0 ∧ n < L
        · obtain ⟨g1, g2⟩ := hgo
          obtain ⟨j, hj⟩ : ∃ j, L - n = j + 1 := ⟨L - n - 1, by omega⟩
          rw [hj, runM_go g1] at q3 q4
          dsimp only at q3 q4
          have hnx := q2.step hen
          have hT := s_spec_l11Step s d a1 q2.len (by have := q2.out; omega)
          rw [← step_eq q2.sp q2.w.2.2] at hT
          generalize stepR d (stepP s d) = d' at *
          repeat' ((conv => whnf); first | refine seq_inl ?_ | refine reg_inl ?_ | refine And.intro (Obl.out (?_ : Obl _)) ?_ | refine ifB_intro (fun h => ?_) (fun h => ?_) | refine Or.inl (call_intro (hT) (And.intro (And.intro rfl (And.intro rfl (And.intro rfl trivial))) (And.intro (And.intro rfl (And.intro rfl (And.intro rfl (And.intro rfl (And.intro rfl (And.intro rfl (And.intro rfl trivial))))))) trivial)) ?_) | refine Exists.intro _ (And.intro rfl ?_) | ((with_reducible show _ = _); rfl))
          all_goals try ((with_reducible refine Obl.mk ?_); first | ((with_reducible show regOk _ _ = true); kernel_rfl) | ((with_reducible show eqTyOk _ _ = true); kernel_rfl) | rfl | exact trivial | ((repeat' (first | exact trivial | refine And.intro ?_ ?_)); done) | decide | ((repeat' (first | exact List.forall_mem_nil _ | refine List.forall_mem_cons.2 (And.intro rfl ?_))); done) | (refine And.intro ?_ ?_ <;> simp only [List.length_map, List.length_append, List.length_cons, List.length_nil] <;> omega))
          all_goals try (exfalso; simp [g1] at h; done)
          all_goals try (exfalso; have h' := of_decide_eq_false h; omega)
          conv => whnf
          refine ⟨⟨(n + 1, d'), by dsimp only; omega, hnx, by rw [show L - (n + 1) = j by omega]; exact q3, by rw [show L - (n + 1) = j by omega]; dsimp only at q4 ⊢; omega⟩, ?_, by dsimp only; omega⟩
          repeat' ((conv => whnf); first | refine seq_inl ?_ | refine reg_inl ?_ | refine And.intro (Obl.out (?_ : Obl _)) ?_ | refine ifB_intro (fun h => ?_) (fun h => ?_) | refine Exists.intro _ (And.intro rfl ?_) | ((with_reducible show _ = _); rfl))
          all_goals try ((with_reducible refine Obl.mk ?_); first | ((with_reducible show regOk _ _ = true); kernel_rfl) | ((with_reducible show eqTyOk _ _ = true); kernel_rfl) | rfl | exact trivial | ((repeat' (first | exact trivial | refine And.intro ?_ ?_)); done) | decide | ((repeat' (first | exact List.forall_mem_nil _ | refine List.forall_mem_cons.2 (And.intro rfl ?_))); done) | (refine And.intro ?_ ?_ <;> simp only [List.length_map, List.length_append, List.length_cons, List.length_nil] <;> omega))
          all_goals try (refine ⟨congrArg (Tr.int _) ?_⟩; dsimp only; rw [IntWalk.i64_in _ (by omega)]; omega)
        · have hst : runM s (L - n) d = (d, 0) := runM_stop (by by_cases h0 : d.fState = 0; · exact .inr (by have := fun h => hgo ⟨h0, h⟩; omega)
                                                                · exact .inl h0)
          rw [hst] at q3 q4
          dsimp only at q3 q4
          obtain ⟨R1, R2⟩ := R
          dsimp only at q3 q4
          subst q3; subst q4
          repeat' ((conv => whnf); first | refine seq_inl ?_ | refine reg_inl ?_ | refine And.intro (Obl.out (?_ : Obl _)) ?_ | refine ifB_intro (fun h => ?_) (fun h => ?_) | refine Exists.intro _ (And.intro rfl ?_) | ((with_reducible show _ = _); rfl))
          all_goals try ((with_reducible refine Obl.mk ?_); first | ((with_reducible show regOk _ _ = true); kernel_rfl) | ((with_reducible show eqTyOk _ _ = true); kernel_rfl) | rfl | exact trivial | ((repeat' (first | exact trivial | refine And.intro ?_ ?_)); done) | decide | ((repeat' (first | exact List.forall_mem_nil _ | refine List.forall_mem_cons.2 (And.intro rfl ?_))); done) | (refine And.intro ?_ ?_ <;> simp only [List.length_map, List.length_append, List.length_cons, List.length_nil] <;> omega))
          all_goals try (exfalso; apply hgo; refine ⟨by simpa using ‹(d.fState == 0) = true›, ?_⟩; have h' := of_decide_eq_true ‹decide ((n : Int) < (L : Int)) = true›; omega)
          all_goals first
            | exact ⟨congrArg (Tr.int _) (by dsimp only; omega)⟩
            | exact ⟨⟨rfl, flat_ints _⟩⟩
theorem stepR_len {s : TSpace} {m : TMachine} (hm : m.fStack.length = 1200) : (stepR m (stepP s m)).fStack.length = 1200 := by
  cases h : stepP s m with
  | none => exact hm
  | some m' => exact stepP_len hm m' h
theorem stepR_out {s : TSpace} {m : TMachine} : (stepR m (stepP s m)).fOut.length ≤ m.fOut.length + 1 := by
  cases h : stepP s m with
  | none => show m.fOut.length ≤ _; omega
  | some m' => exact stepP_out m' h
theorem runM_size {s : TSpace} : ∀ (k : Nat) (m : TMachine), m.fStack.length = 1200 → (runM s k m).1.fStack.length = 1200 ∧ (runM s k m).1.fOut.length ≤ m.fOut.length + k
  | 0, m, h => ⟨h, by simp [runM]⟩
  | k + 1, m, h => by
    by_cases h0 : m.fState = 0
    · rw [runM_go h0]
      have h1 := runM_size (s := s) k (stepR m (stepP s m)) (stepR_len h)
      have h2 := stepR_out (s := s) (m := m)
      exact ⟨h1.1, by dsimp only; omega⟩
    · rw [runM_stop (.inl h0)]
      exact ⟨h, by dsimp only; omega⟩
theorem small_Ints2 {l : List Int} (hl : l.length ≤ 2097152) : smallT 2097152 (.lst 1 (l.map intRow)) := by
  rw [smallT]
  refine ⟨by simp; omega, ?_⟩
  clear hl
  induction l with
  | nil => simp [smallRs]
  | cons x l ih => rw [List.map_cons, smallRs]; exact ⟨by simp [intRow, smallR, smallT], ih⟩
theorem mach_small2 {m : TMachine} (h1 : m.fStack.length ≤ 2097152) (h2 : m.fOut.length ≤ 2097152) : smallR 2097152 m.tr := by
  simp only [TMachine.tr, smallR]
  exact ⟨by simp [smallT], by simp [smallT], by simp [smallT], small_Ints2 h1, small_Ints2 h2, by simp [smallT], by simp [smallT], trivial⟩
theorem runMach_small {s : TSpace} {m : TMachine} {l : Int} (hs : smallR 1048576 m.tr) : smallR 2097152 (runMach s m l).1.tr := by
  simp only [TMachine.tr, smallR] at hs
  have k1 := small_nat hs.2.2.2.1
  have k2 := small_nat hs.2.2.2.2.1
  unfold runMach
  split
  · rename_i hc
    obtain ⟨_, h2, h3⟩ := hc
    have hl := within_iff.1 h3
    have := runM_size (s := s) l.toNat m (machineOk_iffL.1 h2).1
    exact mach_small2 (by omega) (by omega)
  · exact mach_small2 (by dsimp only; omega) (by dsimp only; omega)
end Go.Proofs.Ytehniaekfijmiaa
