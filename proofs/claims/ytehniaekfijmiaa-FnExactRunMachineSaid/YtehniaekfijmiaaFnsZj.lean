/- The machine of the reference: its words and instructions. -/
import Derived.Test.YtehniaekfijmiaaFnsZi
namespace Go.Proofs.Ytehniaekfijmiaa
open Go.Sim
set_option maxRecDepth 100000
set_option maxHeartbeats 4000000
abbrev cpuB (m : TMachine) (bad : Bool) (st out : Sim.Id) : AO := .box [.t (.int .i64 m.fPc), .t (.int .i64 m.fSp), .t (.int .i64 m.fFp), .own st, .own out, .t (.int .i64 m.fState), .t (.int .i64 m.fValue), .t (.bool bad)]
abbrev cpuH (c : CS) : List (Sim.Id × AO) := [((0, 0, 0), cpuB c.m c.bad (0, 0, 1) (0, 0, 2)), ((0, 0, 1), .arr false 1 (c.m.fStack.map intRow)), ((0, 0, 2), .arr false 1 (c.m.fOut.map intRow))]
abbrev cpuO (c : CS) : List (Sim.Id × AO) := [((0, 0, 0), cpuB c.m c.bad (0, 0, 1) (1, 0, 0)), ((0, 0, 1), .arr false 1 (c.m.fStack.map intRow)), ((1, 0, 0), .arr false 1 (c.m.fOut.map intRow))]
theorem s_spec_l11Near (a n : Int) : Sim.Spec Try.prog 189 [tvI a, tvI n] (rI (qNear a n)) := by
  refine spec_of_W hΓ hmix Try.func189 rfl (by decide) rfl ?_
  have hb := s_spec_l01In a (-100000) 100000
  unfold qNear
  cases hin : within a (-100000) 100000
  all_goals
    rw [hin] at hb
    repeat' ((conv => whnf); first | refine Or.inl ?_ | refine And.intro (Obl.out (?_ : Obl _)) ?_ | refine ifB_intro (fun h => ?_) (fun h => ?_) | refine call_intro (hb) (And.intro rfl (And.intro rfl (And.intro rfl trivial))) ?_ | refine Exists.intro _ (And.intro rfl ?_) | ((with_reducible show _ = _); rfl))
    all_goals try ((with_reducible refine Obl.mk ?_); first | ((with_reducible show regOk _ _ = true); kernel_rfl) | ((with_reducible show eqTyOk _ _ = true); kernel_rfl) | rfl | exact trivial | ((repeat' (first | exact trivial | refine And.intro ?_ ?_)); done) | decide | ((repeat' (first | exact List.forall_mem_nil _ | refine List.forall_mem_cons.2 (And.intro rfl ?_))); done) | (refine And.intro ?_ ?_ <;> simp only [List.length_map, List.length_append, List.length_cons, List.length_nil] <;> omega))
    all_goals try (exfalso; simp at h; done)
theorem g_cpu_push (c : CS) (v : Int) (hc : c.ok) : SpecG Try.prog 188 [coreP, tI .i64 v] (cpuH c) (.tup []) (cpuH (qPush c v)) := by
  refine specG_of_W hΓ hmix Try.func188 rfl (by decide) rfl rfl ?_
  obtain ⟨m, bad⟩ := c
  unfold CS.ok at hc
  unfold qPush
  dsimp only at hc ⊢
  by_cases hs : m.fSp < 1 ∨ 1200 < m.fSp
  · rw [if_pos hs]
    repeat' ((conv => whnf); first | refine seq_inl ?_ | refine reg_inl ?_ | refine And.intro (Obl.out (?_ : Obl _)) ?_ | refine ifB_intro (fun h => ?_) (fun h => ?_) | refine Exists.intro _ (And.intro rfl ?_) | ((with_reducible show _ = _); rfl))
    all_goals try ((with_reducible refine Obl.mk ?_); first | ((with_reducible show regOk _ _ = true); kernel_rfl) | ((with_reducible show eqTyOk _ _ = true); kernel_rfl) | rfl | exact trivial | ((repeat' (first | exact trivial | refine And.intro ?_ ?_)); done) | decide | ((repeat' (first | exact List.forall_mem_nil _ | refine List.forall_mem_cons.2 (And.intro rfl ?_))); done) | (refine And.intro ?_ ?_ <;> simp only [List.length_map, List.length_append, List.length_cons, List.length_nil] <;> omega))
    all_goals try (exfalso; simp_all; omega)
  · rw [if_neg hs]
    have hw : wr (m.fSp - 1) = m.fSp - 1 := IntWalk.i64_in _ (by omega)
    obtain ⟨j, x, hj, hx, hlt, _⟩ := stk_at (a := m.fSp - 1) hc (inStk_iff.2 (by omega))
    have hlen : (m.fStack.map intRow).length = m.fStack.length := by simp
    repeat' ((conv => whnf); first | refine seq_inl ?_ | refine reg_inl ?_ | refine And.intro (Obl.out (?_ : Obl _)) ?_ | refine ifB_intro (fun h => ?_) (fun h => ?_) | refine Exists.intro _ (And.intro rfl ?_) | ((with_reducible show _ = _); rfl))
    all_goals try ((with_reducible refine Obl.mk ?_); first | ((with_reducible show regOk _ _ = true); kernel_rfl) | ((with_reducible show eqTyOk _ _ = true); kernel_rfl) | rfl | exact trivial | ((repeat' (first | exact trivial | refine And.intro ?_ ?_)); done) | decide | ((repeat' (first | exact List.forall_mem_nil _ | refine List.forall_mem_cons.2 (And.intro rfl ?_))); done) | (refine And.intro ?_ ?_ <;> simp only [List.length_map, List.length_append, List.length_cons, List.length_nil] <;> omega))
    all_goals try (exfalso; simp_all; omega)
    conv => whnf
    refine ⟨j, by rw [← hj]; exact hw, by rw [hlen]; exact hlt, ?_⟩
    repeat' ((conv => whnf); first | refine seq_inl ?_ | refine reg_inl ?_ | refine And.intro (Obl.out (?_ : Obl _)) ?_ | refine ifB_intro (fun h => ?_) (fun h => ?_) | refine ⟨(intRow x), map_get hx, ?_⟩ | refine Exists.intro _ (And.intro rfl ?_) | ((with_reducible show _ = _); rfl))
    all_goals try ((with_reducible refine Obl.mk ?_); first | ((with_reducible show regOk _ _ = true); kernel_rfl) | ((with_reducible show eqTyOk _ _ = true); kernel_rfl) | rfl | exact trivial | ((repeat' (first | exact trivial | refine And.intro ?_ ?_)); done) | decide | ((repeat' (first | exact List.forall_mem_nil _ | refine List.forall_mem_cons.2 (And.intro rfl ?_))); done) | (refine And.intro ?_ ?_ <;> simp only [List.length_map, List.length_append, List.length_cons, List.length_nil] <;> omega))
    all_goals first
      | exact ⟨congrArg (Tr.int _) hw⟩
      | (refine ⟨?_⟩; rw [← show (m.fSp - 1).toNat = j by rw [hj]; rfl]; exact map_set')
theorem g_cpu_word (c : CS) (a : Int) (hc : c.ok) : SpecG Try.prog 131 [coreP, tI .i64 a] (cpuH c) (tI .i64 (qVal c a)) (cpuH (cAt c a)) := by
  refine specG_of_W hΓ hmix Try.func131 rfl (by decide) rfl rfl ?_
  obtain ⟨m, bad⟩ := c
  unfold CS.ok at hc
  have hb := s_spec_l01In a 0 1199
  unfold cAt qVal
  dsimp only at hc ⊢
  cases hi : inStk a with
  | false =>
    rw [show within a 0 1199 = false from hi] at hb
    rw [if_neg (by simp)]
    repeat' ((conv => whnf); first | refine Or.inl ?_ | refine And.intro (Obl.out (?_ : Obl _)) ?_ | refine ifB_intro (fun h => ?_) (fun h => ?_) | refine call_intro (hb) (And.intro rfl (And.intro rfl (And.intro rfl trivial))) ?_ | refine Exists.intro _ (And.intro rfl ?_) | ((with_reducible show _ = _); rfl))
    all_goals try ((with_reducible refine Obl.mk ?_); first | ((with_reducible show regOk _ _ = true); kernel_rfl) | ((with_reducible show eqTyOk _ _ = true); kernel_rfl) | rfl | exact trivial | ((repeat' (first | exact trivial | refine And.intro ?_ ?_)); done) | decide | ((repeat' (first | exact List.forall_mem_nil _ | refine List.forall_mem_cons.2 (And.intro rfl ?_))); done) | (refine And.intro ?_ ?_ <;> simp only [List.length_map, List.length_append, List.length_cons, List.length_nil] <;> omega))
    all_goals try (exfalso; simp at h; done)
    all_goals try (refine ⟨congrArg Tr.bool ?_⟩; simp)
  | true =>
    rw [show within a 0 1199 = true from hi] at hb
    rw [if_pos rfl]
    obtain ⟨j, x, hj, hx, hlt, _⟩ := stk_at hc hi
    have hlen : (m.fStack.map intRow).length = m.fStack.length := by simp
    rw [show wordAt m a = x by simp [wordAt, hj, hx]]
    repeat' ((conv => whnf); first | refine Or.inl ?_ | refine And.intro (Obl.out (?_ : Obl _)) ?_ | refine ifB_intro (fun h => ?_) (fun h => ?_) | refine call_intro (hb) (And.intro rfl (And.intro rfl (And.intro rfl trivial))) ?_ | refine Exists.intro _ (And.intro rfl ?_) | ((with_reducible show _ = _); rfl))
    all_goals try ((with_reducible refine Obl.mk ?_); first | ((with_reducible show regOk _ _ = true); kernel_rfl) | ((with_reducible show eqTyOk _ _ = true); kernel_rfl) | rfl | exact trivial | ((repeat' (first | exact trivial | refine And.intro ?_ ?_)); done) | decide | ((repeat' (first | exact List.forall_mem_nil _ | refine List.forall_mem_cons.2 (And.intro rfl ?_))); done) | (refine And.intro ?_ ?_ <;> simp only [List.length_map, List.length_append, List.length_cons, List.length_nil] <;> omega))
    all_goals try (exfalso; simp at h; done)
    conv => whnf
    refine ⟨j, hj, by rw [hlen]; exact hlt, ?_⟩
    repeat' ((conv => whnf); first | refine Or.inl ?_ | refine And.intro (Obl.out (?_ : Obl _)) ?_ | refine ifB_intro (fun h => ?_) (fun h => ?_) | refine ⟨(intRow x), map_get hx, ?_⟩ | refine Exists.intro _ (And.intro rfl ?_) | ((with_reducible show _ = _); rfl))
    all_goals try ((with_reducible refine Obl.mk ?_); first | ((with_reducible show regOk _ _ = true); kernel_rfl) | ((with_reducible show eqTyOk _ _ = true); kernel_rfl) | rfl | exact trivial | ((repeat' (first | exact trivial | refine And.intro ?_ ?_)); done) | decide | ((repeat' (first | exact List.forall_mem_nil _ | refine List.forall_mem_cons.2 (And.intro rfl ?_))); done) | (refine And.intro ?_ ?_ <;> simp only [List.length_map, List.length_append, List.length_cons, List.length_nil] <;> omega))
    all_goals try (refine ⟨congrArg Tr.bool ?_⟩; simp)
theorem g_cpu_pop (c : CS) (hc : c.ok) : SpecG Try.prog 191 [coreP] (cpuH c) (tI .i64 (qTop c)) (cpuH (cPop c)) := by
  refine specG_of_W hΓ hmix Try.func191 rfl (by decide) rfl rfl ?_
  have hP := g_cpu_word c c.m.fSp hc
  obtain ⟨m, bad⟩ := c
  unfold qTop cPop cAt at *
  dsimp only at hP ⊢
  cases hB : (bad || !inStk m.fSp) with
  | true =>
    rw [hB] at hP
    repeat' ((conv => whnf); first | refine callG_intro (hP) ?_ | refine seq_inl ?_ | refine reg_inl ?_ | refine And.intro (Obl.out (?_ : Obl _)) ?_ | refine ifB_intro (fun h => ?_) (fun h => ?_) | refine Exists.intro _ (And.intro rfl ?_) | ((with_reducible show _ = _); rfl))
    all_goals try ((with_reducible refine Obl.mk ?_); first | ((with_reducible show regOk _ _ = true); kernel_rfl) | ((with_reducible show eqTyOk _ _ = true); kernel_rfl) | rfl | exact trivial | ((repeat' (first | exact trivial | refine And.intro ?_ ?_)); done) | decide | ((repeat' (first | exact List.forall_mem_nil _ | refine List.forall_mem_cons.2 (And.intro rfl ?_))); done) | (refine And.intro ?_ ?_ <;> simp only [List.length_map, List.length_append, List.length_cons, List.length_nil] <;> omega))
    all_goals try (exfalso; simp at h; done)
  | false =>
    rw [hB] at hP
    obtain ⟨_, hin⟩ := or_false2 hB
    have := inStk_iff.1 hin
    have hw : IntKind.i64.wrap (m.fSp + 1) = m.fSp + 1 := IntWalk.i64_in _ (by omega)
    repeat' ((conv => whnf); first | refine callG_intro (hP) ?_ | refine seq_inl ?_ | refine reg_inl ?_ | refine And.intro (Obl.out (?_ : Obl _)) ?_ | refine ifB_intro (fun h => ?_) (fun h => ?_) | refine Exists.intro _ (And.intro rfl ?_) | ((with_reducible show _ = _); rfl))
    all_goals try ((with_reducible refine Obl.mk ?_); first | ((with_reducible show regOk _ _ = true); kernel_rfl) | ((with_reducible show eqTyOk _ _ = true); kernel_rfl) | rfl | exact trivial | ((repeat' (first | exact trivial | refine And.intro ?_ ?_)); done) | decide | ((repeat' (first | exact List.forall_mem_nil _ | refine List.forall_mem_cons.2 (And.intro rfl ?_))); done) | (refine And.intro ?_ ?_ <;> simp only [List.length_map, List.length_append, List.length_cons, List.length_nil] <;> omega))
    all_goals try (exfalso; simp at h; done)
    all_goals exact ⟨congrArg (Tr.int _) hw⟩
theorem g_cpu_put (c : CS) (a v : Int) (hc : c.ok) : SpecG Try.prog 190 [coreP, tI .i64 a, tI .i64 v] (cpuH c) (.tup []) (cpuH (qPut c a v)) := by
  refine specG_of_W hΓ hmix Try.func190 rfl (by decide) rfl rfl ?_
  obtain ⟨m, bad⟩ := c
  unfold CS.ok at hc
  have hb := s_spec_l01In a 0 1199
  unfold qPut
  dsimp only at hc ⊢
  cases hi : inStk a with
  | false =>
    rw [show within a 0 1199 = false from hi] at hb
    rw [if_neg (by simp)]
    repeat' ((conv => whnf); first | refine Or.inl ?_ | refine And.intro (Obl.out (?_ : Obl _)) ?_ | refine ifB_intro (fun h => ?_) (fun h => ?_) | refine call_intro (hb) (And.intro rfl (And.intro rfl (And.intro rfl trivial))) ?_ | refine Exists.intro _ (And.intro rfl ?_) | ((with_reducible show _ = _); rfl))
    all_goals try ((with_reducible refine Obl.mk ?_); first | ((with_reducible show regOk _ _ = true); kernel_rfl) | ((with_reducible show eqTyOk _ _ = true); kernel_rfl) | rfl | exact trivial | ((repeat' (first | exact trivial | refine And.intro ?_ ?_)); done) | decide | ((repeat' (first | exact List.forall_mem_nil _ | refine List.forall_mem_cons.2 (And.intro rfl ?_))); done) | (refine And.intro ?_ ?_ <;> simp only [List.length_map, List.length_append, List.length_cons, List.length_nil] <;> omega))
    all_goals try (exfalso; simp at h; done)
  | true =>
    rw [show within a 0 1199 = true from hi] at hb
    rw [if_pos rfl]
    obtain ⟨j, x, hj, hx, hlt, _⟩ := stk_at hc hi
    have hlen : (m.fStack.map intRow).length = m.fStack.length := by simp
    repeat' ((conv => whnf); first | refine Or.inl ?_ | refine And.intro (Obl.out (?_ : Obl _)) ?_ | refine ifB_intro (fun h => ?_) (fun h => ?_) | refine call_intro (hb) (And.intro rfl (And.intro rfl (And.intro rfl trivial))) ?_ | refine Exists.intro _ (And.intro rfl ?_) | ((with_reducible show _ = _); rfl))
    all_goals try ((with_reducible refine Obl.mk ?_); first | ((with_reducible show regOk _ _ = true); kernel_rfl) | ((with_reducible show eqTyOk _ _ = true); kernel_rfl) | rfl | exact trivial | ((repeat' (first | exact trivial | refine And.intro ?_ ?_)); done) | decide | ((repeat' (first | exact List.forall_mem_nil _ | refine List.forall_mem_cons.2 (And.intro rfl ?_))); done) | (refine And.intro ?_ ?_ <;> simp only [List.length_map, List.length_append, List.length_cons, List.length_nil] <;> omega))
    all_goals try (exfalso; simp at h; done)
    conv => whnf
    refine ⟨j, hj, by rw [hlen]; exact hlt, ?_⟩
    repeat' ((conv => whnf); first | refine Or.inl ?_ | refine And.intro (Obl.out (?_ : Obl _)) ?_ | refine ifB_intro (fun h => ?_) (fun h => ?_) | refine ⟨(intRow x), map_get hx, ?_⟩ | refine Exists.intro _ (And.intro rfl ?_) | ((with_reducible show _ = _); rfl))
    all_goals try ((with_reducible refine Obl.mk ?_); first | ((with_reducible show regOk _ _ = true); kernel_rfl) | ((with_reducible show eqTyOk _ _ = true); kernel_rfl) | rfl | exact trivial | ((repeat' (first | exact trivial | refine And.intro ?_ ?_)); done) | decide | ((repeat' (first | exact List.forall_mem_nil _ | refine List.forall_mem_cons.2 (And.intro rfl ?_))); done) | (refine And.intro ?_ ?_ <;> simp only [List.length_map, List.length_append, List.length_cons, List.length_nil] <;> omega))
    all_goals try (refine ⟨?_⟩; rw [← show a.toNat = j by rw [hj]; rfl]; exact map_set')
theorem qPush_ok {c : CS} {v : Int} (h : c.ok) : (qPush c v).ok := by
  unfold qPush CS.ok at *
  split
  · exact h
  · simpa [setAt] using h
theorem qZeros_ok : ∀ {n : Nat} {c : CS}, c.ok → (qZeros n c).ok
  | 0, _, h => h
  | n + 1, c, h => qZeros_ok (n := n) (qPush_ok h)
theorem cAt_ok {c : CS} {a : Int} (h : c.ok) : (cAt c a).ok := h
theorem g_cpu_drop (c : CS) (n : Nat) (hc : c.ok) (hn : n ≤ 65536) : SpecG Try.prog 193 [coreP, tI .i64 (n : Int)] (cpuH c) (.tup []) (cpuH (cDrop n c)) := by
  refine specG_of_W hΓ hmix Try.func193 rfl (by decide) rfl rfl ?_
  obtain ⟨R, hR⟩ : ∃ R, cDrop n c = R := ⟨_, rfl⟩
  rw [hR]
  repeat' ((conv => whnf); first | refine seq_inl ?_ | refine reg_inl ?_ | refine And.intro (Obl.out (?_ : Obl _)) ?_ | refine ifB_intro (fun h => ?_) (fun h => ?_) | refine Exists.intro _ (And.intro rfl ?_) | ((with_reducible show _ = _); rfl))
  all_goals try ((with_reducible refine Obl.mk ?_); first | ((with_reducible show regOk _ _ = true); kernel_rfl) | ((with_reducible show eqTyOk _ _ = true); kernel_rfl) | rfl | exact trivial | ((repeat' (first | exact trivial | refine And.intro ?_ ?_)); done) | decide | ((repeat' (first | exact List.forall_mem_nil _ | refine List.forall_mem_cons.2 (And.intro rfl ?_))); done) | (refine And.intro ?_ ?_ <;> simp only [List.length_map, List.length_append, List.length_cons, List.length_nil] <;> omega))
  conv => whnf
  refine ⟨{ q : Nat × CS // q.1 ≤ n ∧ q.2.ok ∧ cDrop (n - q.1) q.2 = R }, fun q => ⟨[(0, coreP), (1, tI .i64 (n : Int)), (4, tI .i64 (q.1.1 : Int))], (cpuH q.1.2).map fun p => (p.1, some p.2), [0]⟩, fun q => n - q.1.1, ⟨(0, c), by omega, hc, hR⟩, ?_, ?_⟩
  · skip
    repeat' ((conv => whnf); first | refine seq_inl ?_ | refine reg_inl ?_ | refine And.intro (Obl.out (?_ : Obl _)) ?_ | refine ifB_intro (fun h => ?_) (fun h => ?_) | refine Exists.intro _ (And.intro rfl ?_) | ((with_reducible show _ = _); rfl))
    all_goals try ((with_reducible refine Obl.mk ?_); first | ((with_reducible show regOk _ _ = true); kernel_rfl) | ((with_reducible show eqTyOk _ _ = true); kernel_rfl) | rfl | exact trivial | ((repeat' (first | exact trivial | refine And.intro ?_ ?_)); done) | decide | ((repeat' (first | exact List.forall_mem_nil _ | refine List.forall_mem_cons.2 (And.intro rfl ?_))); done) | (refine And.intro ?_ ?_ <;> simp only [List.length_map, List.length_append, List.length_cons, List.length_nil] <;> omega))
  intro ⟨⟨k, d⟩, hk, hd, hr⟩
  dsimp only at hk hd hr ⊢
  by_cases hlt : k < n
  · obtain ⟨j, hj⟩ : ∃ j, n - k = j + 1 := ⟨n - k - 1, by omega⟩
    rw [hj, cDrop] at hr
    have hP := g_cpu_pop d hd
    repeat' ((conv => whnf); first | refine callG_intro (hP) ?_ | refine seq_inl ?_ | refine reg_inl ?_ | refine And.intro (Obl.out (?_ : Obl _)) ?_ | refine ifB_intro (fun h => ?_) (fun h => ?_) | refine Exists.intro _ (And.intro rfl ?_) | ((with_reducible show _ = _); rfl))
    all_goals try ((with_reducible refine Obl.mk ?_); first | ((with_reducible show regOk _ _ = true); kernel_rfl) | ((with_reducible show eqTyOk _ _ = true); kernel_rfl) | rfl | exact trivial | ((repeat' (first | exact trivial | refine And.intro ?_ ?_)); done) | decide | ((repeat' (first | exact List.forall_mem_nil _ | refine List.forall_mem_cons.2 (And.intro rfl ?_))); done) | (refine And.intro ?_ ?_ <;> simp only [List.length_map, List.length_append, List.length_cons, List.length_nil] <;> omega))
    all_goals try (exfalso; have h' := of_decide_eq_false h; omega)
    conv => whnf
    refine ⟨⟨(k + 1, cPop d), by dsimp only; omega, cPop_ok hd, by rw [show n - (k + 1) = j by omega]; exact hr⟩, ?_, by dsimp only; omega⟩
    repeat' ((conv => whnf); first | refine seq_inl ?_ | refine reg_inl ?_ | refine And.intro (Obl.out (?_ : Obl _)) ?_ | refine ifB_intro (fun h => ?_) (fun h => ?_) | refine Exists.intro _ (And.intro rfl ?_) | ((with_reducible show _ = _); rfl))
    all_goals try ((with_reducible refine Obl.mk ?_); first | ((with_reducible show regOk _ _ = true); kernel_rfl) | ((with_reducible show eqTyOk _ _ = true); kernel_rfl) | rfl | exact trivial | ((repeat' (first | exact trivial | refine And.intro ?_ ?_)); done) | decide | ((repeat' (first | exact List.forall_mem_nil _ | refine List.forall_mem_cons.2 (And.intro rfl ?_))); done) | (refine And.intro ?_ ?_ <;> simp only [List.length_map, List.length_append, List.length_cons, List.length_nil] <;> omega))
    all_goals try (refine ⟨congrArg (Tr.int _) ?_⟩; dsimp only; rw [IntWalk.i64_in _ (by omega)]; omega)
  · rw [show n - k = 0 by omega, cDrop] at hr
    subst hr
    repeat' ((conv => whnf); first | refine seq_inl ?_ | refine reg_inl ?_ | refine And.intro (Obl.out (?_ : Obl _)) ?_ | refine ifB_intro (fun h => ?_) (fun h => ?_) | refine Exists.intro _ (And.intro rfl ?_) | ((with_reducible show _ = _); rfl))
    all_goals try ((with_reducible refine Obl.mk ?_); first | ((with_reducible show regOk _ _ = true); kernel_rfl) | ((with_reducible show eqTyOk _ _ = true); kernel_rfl) | rfl | exact trivial | ((repeat' (first | exact trivial | refine And.intro ?_ ?_)); done) | decide | ((repeat' (first | exact List.forall_mem_nil _ | refine List.forall_mem_cons.2 (And.intro rfl ?_))); done) | (refine And.intro ?_ ?_ <;> simp only [List.length_map, List.length_append, List.length_cons, List.length_nil] <;> omega))
    all_goals try (exfalso; have h' := of_decide_eq_true h; omega)
theorem g_cpu_zeros (c : CS) (n : Nat) (hc : c.ok) (hn : n ≤ 65536) : SpecG Try.prog 192 [coreP, tI .i64 (n : Int)] (cpuH c) (.tup []) (cpuH (qZeros n c)) := by
  refine specG_of_W hΓ hmix Try.func192 rfl (by decide) rfl rfl ?_
  obtain ⟨R, hR⟩ : ∃ R, qZeros n c = R := ⟨_, rfl⟩
  rw [hR]
  repeat' ((conv => whnf); first | refine seq_inl ?_ | refine reg_inl ?_ | refine And.intro (Obl.out (?_ : Obl _)) ?_ | refine ifB_intro (fun h => ?_) (fun h => ?_) | refine Exists.intro _ (And.intro rfl ?_) | ((with_reducible show _ = _); rfl))
  all_goals try ((with_reducible refine Obl.mk ?_); first | ((with_reducible show regOk _ _ = true); kernel_rfl) | ((with_reducible show eqTyOk _ _ = true); kernel_rfl) | rfl | exact trivial | ((repeat' (first | exact trivial | refine And.intro ?_ ?_)); done) | decide | ((repeat' (first | exact List.forall_mem_nil _ | refine List.forall_mem_cons.2 (And.intro rfl ?_))); done) | (refine And.intro ?_ ?_ <;> simp only [List.length_map, List.length_append, List.length_cons, List.length_nil] <;> omega))
  conv => whnf
  refine ⟨{ q : Nat × CS // q.1 ≤ n ∧ q.2.ok ∧ qZeros (n - q.1) q.2 = R }, fun q => ⟨[(0, coreP), (1, tI .i64 (n : Int)), (4, tI .i64 (q.1.1 : Int))], (cpuH q.1.2).map fun p => (p.1, some p.2), [0]⟩, fun q => n - q.1.1, ⟨(0, c), by omega, hc, hR⟩, ?_, ?_⟩
  · skip
    repeat' ((conv => whnf); first | refine seq_inl ?_ | refine reg_inl ?_ | refine And.intro (Obl.out (?_ : Obl _)) ?_ | refine ifB_intro (fun h => ?_) (fun h => ?_) | refine Exists.intro _ (And.intro rfl ?_) | ((with_reducible show _ = _); rfl))
    all_goals try ((with_reducible refine Obl.mk ?_); first | ((with_reducible show regOk _ _ = true); kernel_rfl) | ((with_reducible show eqTyOk _ _ = true); kernel_rfl) | rfl | exact trivial | ((repeat' (first | exact trivial | refine And.intro ?_ ?_)); done) | decide | ((repeat' (first | exact List.forall_mem_nil _ | refine List.forall_mem_cons.2 (And.intro rfl ?_))); done) | (refine And.intro ?_ ?_ <;> simp only [List.length_map, List.length_append, List.length_cons, List.length_nil] <;> omega))
  intro ⟨⟨k, d⟩, hk, hd, hr⟩
  dsimp only at hk hd hr ⊢
  by_cases hlt : k < n
  · obtain ⟨j, hj⟩ : ∃ j, n - k = j + 1 := ⟨n - k - 1, by omega⟩
    rw [hj, qZeros] at hr
    have hP := g_cpu_push d 0 hd
    repeat' ((conv => whnf); first | refine callG_intro (hP) ?_ | refine seq_inl ?_ | refine reg_inl ?_ | refine And.intro (Obl.out (?_ : Obl _)) ?_ | refine ifB_intro (fun h => ?_) (fun h => ?_) | refine Exists.intro _ (And.intro rfl ?_) | ((with_reducible show _ = _); rfl))
    all_goals try ((with_reducible refine Obl.mk ?_); first | ((with_reducible show regOk _ _ = true); kernel_rfl) | ((with_reducible show eqTyOk _ _ = true); kernel_rfl) | rfl | exact trivial | ((repeat' (first | exact trivial | refine And.intro ?_ ?_)); done) | decide | ((repeat' (first | exact List.forall_mem_nil _ | refine List.forall_mem_cons.2 (And.intro rfl ?_))); done) | (refine And.intro ?_ ?_ <;> simp only [List.length_map, List.length_append, List.length_cons, List.length_nil] <;> omega))
    all_goals try (exfalso; have h' := of_decide_eq_false h; omega)
    conv => whnf
    refine ⟨⟨(k + 1, qPush d 0), by dsimp only; omega, qPush_ok hd, by rw [show n - (k + 1) = j by omega]; exact hr⟩, ?_, by dsimp only; omega⟩
    repeat' ((conv => whnf); first | refine seq_inl ?_ | refine reg_inl ?_ | refine And.intro (Obl.out (?_ : Obl _)) ?_ | refine ifB_intro (fun h => ?_) (fun h => ?_) | refine Exists.intro _ (And.intro rfl ?_) | ((with_reducible show _ = _); rfl))
    all_goals try ((with_reducible refine Obl.mk ?_); first | ((with_reducible show regOk _ _ = true); kernel_rfl) | ((with_reducible show eqTyOk _ _ = true); kernel_rfl) | rfl | exact trivial | ((repeat' (first | exact trivial | refine And.intro ?_ ?_)); done) | decide | ((repeat' (first | exact List.forall_mem_nil _ | refine List.forall_mem_cons.2 (And.intro rfl ?_))); done) | (refine And.intro ?_ ?_ <;> simp only [List.length_map, List.length_append, List.length_cons, List.length_nil] <;> omega))
    all_goals try (refine ⟨congrArg (Tr.int _) ?_⟩; dsimp only; rw [IntWalk.i64_in _ (by omega)]; omega)
  · rw [show n - k = 0 by omega, qZeros] at hr
    subst hr
    repeat' ((conv => whnf); first | refine seq_inl ?_ | refine reg_inl ?_ | refine And.intro (Obl.out (?_ : Obl _)) ?_ | refine ifB_intro (fun h => ?_) (fun h => ?_) | refine Exists.intro _ (And.intro rfl ?_) | ((with_reducible show _ = _); rfl))
    all_goals try ((with_reducible refine Obl.mk ?_); first | ((with_reducible show regOk _ _ = true); kernel_rfl) | ((with_reducible show eqTyOk _ _ = true); kernel_rfl) | rfl | exact trivial | ((repeat' (first | exact trivial | refine And.intro ?_ ?_)); done) | decide | ((repeat' (first | exact List.forall_mem_nil _ | refine List.forall_mem_cons.2 (And.intro rfl ?_))); done) | (refine And.intro ?_ ?_ <;> simp only [List.length_map, List.length_append, List.length_cons, List.length_nil] <;> omega))
    all_goals try (exfalso; have h' := of_decide_eq_true h; omega)
theorem eff_int {v v' : Int} {R : List Sim.Id} (h : v = v') : (⟨tI .i64 v, [], none, R⟩ : Eff) = ⟨tI .i64 v', [], none, R⟩ := by rw [h]
def adv (c : CS) (z : Int) : CS := ⟨{ c.m with fPc := wr (c.m.fPc + z) }, c.bad⟩
theorem g_cpu_perform (s : TSpace) (c : CS) (x : TOp) (z : Int) (hc : c.ok) (hx : x.fCode ≠ 17) (h0 : 0 ≤ x.fCode ∧ x.fCode ≤ 17) (ha : 12 ≤ x.fCode → x.fCode ≤ 16 → 0 ≤ x.fArg ∧ x.fArg ≤ 65536) (he : s.fEntries.length ≤ 1048576) : SpecG Try.prog 130 [.r (.agg (s.tr.map .t)), coreP, opV x, tI .i64 z] (cpuH c) (.tup []) (cpuH (qPerf s.fEntries (adv c z) x)) := by
  obtain ⟨k, a⟩ := x
  dsimp only at hx ha h0
  refine specG_of_W hΓ hmix Try.func130 rfl (by decide) rfl rfl ?_
  obtain ⟨d, hd⟩ : ∃ d, adv c z = d := ⟨_, rfl⟩
  have hdo : d.ok := by rw [← hd]; exact hc
  by_cases e0 : k = 0
  · subst e0
    have hP := g_cpu_push (adv c z) a hc
    repeat' ((conv => whnf); first | refine callG_intro (hP) ?_ | refine seq_inl ?_ | refine reg_inl ?_ | refine And.intro (Obl.out (?_ : Obl _)) ?_ | refine ifB_intro (fun h => ?_) (fun h => ?_) | refine Exists.intro _ (And.intro rfl ?_) | ((with_reducible show _ = _); rfl))
    all_goals try ((with_reducible refine Obl.mk ?_); first | ((with_reducible show regOk _ _ = true); kernel_rfl) | ((with_reducible show eqTyOk _ _ = true); kernel_rfl) | rfl | exact trivial | ((repeat' (first | exact trivial | refine And.intro ?_ ?_)); done) | decide | ((repeat' (first | exact List.forall_mem_nil _ | refine List.forall_mem_cons.2 (And.intro rfl ?_))); done) | (refine And.intro ?_ ?_ <;> simp only [List.length_map, List.length_append, List.length_cons, List.length_nil] <;> omega))
  by_cases e1 : k = 1
  · subst e1
    have hN := s_spec_l11Near c.m.fFp a
    have hQ := g_cpu_word (adv c z) (qNear c.m.fFp a) hc
    have hP := g_cpu_push (cAt (adv c z) (qNear c.m.fFp a)) (qVal (adv c z) (qNear c.m.fFp a)) hc
    repeat' ((conv => whnf); first | refine callG_intro (hQ) ?_ | refine callG_intro (hP) ?_ | refine seq_inl ?_ | refine reg_inl ?_ | refine And.intro (Obl.out (?_ : Obl _)) ?_ | refine ifB_intro (fun h => ?_) (fun h => ?_) | refine Or.inl (call_intro (hN) (And.intro rfl (And.intro rfl trivial)) ?_) | refine Exists.intro _ (And.intro rfl ?_) | ((with_reducible show _ = _); rfl))
    all_goals try ((with_reducible refine Obl.mk ?_); first | ((with_reducible show regOk _ _ = true); kernel_rfl) | ((with_reducible show eqTyOk _ _ = true); kernel_rfl) | rfl | exact trivial | ((repeat' (first | exact trivial | refine And.intro ?_ ?_)); done) | decide | ((repeat' (first | exact List.forall_mem_nil _ | refine List.forall_mem_cons.2 (And.intro rfl ?_))); done) | (refine And.intro ?_ ?_ <;> simp only [List.length_map, List.length_append, List.length_cons, List.length_nil] <;> omega))
  by_cases e3 : k = 3
  · subst e3
    have hQ := g_cpu_word (adv c z) (wr (c.m.fSp + a)) hc
    have hP := g_cpu_push (cAt (adv c z) (wr (c.m.fSp + a))) (qVal (adv c z) (wr (c.m.fSp + a))) hc
    repeat' ((conv => whnf); first | refine callG_intro (hQ) ?_ | refine callG_intro (hP) ?_ | refine seq_inl ?_ | refine reg_inl ?_ | refine And.intro (Obl.out (?_ : Obl _)) ?_ | refine ifB_intro (fun h => ?_) (fun h => ?_) | refine Exists.intro _ (And.intro rfl ?_) | ((with_reducible show _ = _); rfl))
    all_goals try ((with_reducible refine Obl.mk ?_); first | ((with_reducible show regOk _ _ = true); kernel_rfl) | ((with_reducible show eqTyOk _ _ = true); kernel_rfl) | rfl | exact trivial | ((repeat' (first | exact trivial | refine And.intro ?_ ?_)); done) | decide | ((repeat' (first | exact List.forall_mem_nil _ | refine List.forall_mem_cons.2 (And.intro rfl ?_))); done) | (refine And.intro ?_ ?_ <;> simp only [List.length_map, List.length_append, List.length_cons, List.length_nil] <;> omega))
  by_cases e2 : k = 2
  · subst e2
    have hN := s_spec_l11Near c.m.fFp a
    have hQ := g_cpu_pop (adv c z) hc
    have hP := g_cpu_put (cPop (adv c z)) (qNear c.m.fFp a) (qTop (adv c z)) (cPop_ok hc)
    have hf : (cPop (adv c z)).m.fFp = c.m.fFp := by unfold cPop; split <;> rfl
    repeat' ((conv => whnf); first | refine callG_intro (hQ) ?_ | refine callG_intro (hP) ?_ | refine seq_inl ?_ | refine reg_inr 5 10 ?_ | refine And.intro (Obl.out (?_ : Obl _)) ?_ | refine ifB_intro (fun h => ?_) (fun h => ?_) | refine Or.inl (call_intro (hN) (And.intro rfl (And.intro rfl trivial)) ?_) | refine Exists.intro _ (And.intro rfl ?_) | ((with_reducible show _ = _); rfl))
    all_goals try ((with_reducible refine Obl.mk ?_); first | ((with_reducible show regOk _ _ = true); kernel_rfl) | ((with_reducible show eqTyOk _ _ = true); kernel_rfl) | ((with_reducible show regOkX _ _ _ _ = true); kernel_rfl) | ((with_reducible show condX _ _ _ _ _ _); (conv => whnf); rfl) | rfl | exact trivial | ((repeat' (first | exact trivial | refine And.intro ?_ ?_)); done) | decide | ((repeat' (first | exact List.forall_mem_nil _ | refine List.forall_mem_cons.2 (And.intro rfl ?_))); done) | (refine And.intro ?_ ?_ <;> simp only [List.length_map, List.length_append, List.length_cons, List.length_nil] <;> omega))
    all_goals (refine ⟨?_⟩; (conv => whnf); exact eff_int hf)
  by_cases e4 : k = 4
  · subst e4
    have hQ := g_cpu_pop (adv c z) hc
    have hP := g_cpu_put (cPop (adv c z)) (wr (c.m.fSp + a)) (qTop (adv c z)) (cPop_ok hc)
    repeat' ((conv => whnf); first | refine callG_intro (hQ) ?_ | refine callG_intro (hP) ?_ | refine seq_inl ?_ | refine reg_inl ?_ | refine And.intro (Obl.out (?_ : Obl _)) ?_ | refine ifB_intro (fun h => ?_) (fun h => ?_) | refine Exists.intro _ (And.intro rfl ?_) | ((with_reducible show _ = _); rfl))
    all_goals try ((with_reducible refine Obl.mk ?_); first | ((with_reducible show regOk _ _ = true); kernel_rfl) | ((with_reducible show eqTyOk _ _ = true); kernel_rfl) | rfl | exact trivial | ((repeat' (first | exact trivial | refine And.intro ?_ ?_)); done) | decide | ((repeat' (first | exact List.forall_mem_nil _ | refine List.forall_mem_cons.2 (And.intro rfl ?_))); done) | (refine And.intro ?_ ?_ <;> simp only [List.length_map, List.length_append, List.length_cons, List.length_nil] <;> omega))
  by_cases e10 : k = 10
  · subst e10
    repeat' ((conv => whnf); first | refine seq_inl ?_ | refine reg_inl ?_ | refine And.intro (Obl.out (?_ : Obl _)) ?_ | refine ifB_intro (fun h => ?_) (fun h => ?_) | refine Exists.intro _ (And.intro rfl ?_) | ((with_reducible show _ = _); rfl))
    all_goals try ((with_reducible refine Obl.mk ?_); first | ((with_reducible show regOk _ _ = true); kernel_rfl) | ((with_reducible show eqTyOk _ _ = true); kernel_rfl) | rfl | exact trivial | ((repeat' (first | exact trivial | refine And.intro ?_ ?_)); done) | decide | ((repeat' (first | exact List.forall_mem_nil _ | refine List.forall_mem_cons.2 (And.intro rfl ?_))); done) | (refine And.intro ?_ ?_ <;> simp only [List.length_map, List.length_append, List.length_cons, List.length_nil] <;> omega))
  by_cases e11 : k = 11
  · subst e11
    have hP := g_cpu_pop (adv c z) hc
    by_cases hz : qTop (adv c z) = 0
    · rw [show qPerf s.fEntries (adv c z) ⟨11, a⟩ = cJump (cPop (adv c z)) a by simp [qPerf, qZero, hz]]
      repeat' ((conv => whnf); first | refine callG_intro (hP) ?_ | refine seq_inl ?_ | refine reg_inl ?_ | refine And.intro (Obl.out (?_ : Obl _)) ?_ | refine ifB_intro (fun h => ?_) (fun h => ?_) | refine Exists.intro _ (And.intro rfl ?_) | ((with_reducible show _ = _); rfl))
      all_goals try ((with_reducible refine Obl.mk ?_); first | ((with_reducible show regOk _ _ = true); kernel_rfl) | ((with_reducible show eqTyOk _ _ = true); kernel_rfl) | rfl | exact trivial | ((repeat' (first | exact trivial | refine And.intro ?_ ?_)); done) | decide | ((repeat' (first | exact List.forall_mem_nil _ | refine List.forall_mem_cons.2 (And.intro rfl ?_))); done) | (refine And.intro ?_ ?_ <;> simp only [List.length_map, List.length_append, List.length_cons, List.length_nil] <;> omega))
      all_goals try (exfalso; rw [hz] at h; simp at h; done)
    · rw [show qPerf s.fEntries (adv c z) ⟨11, a⟩ = cPop (adv c z) by simp [qPerf, qZero, hz]]
      repeat' ((conv => whnf); first | refine callG_intro (hP) ?_ | refine seq_inl ?_ | refine reg_inl ?_ | refine And.intro (Obl.out (?_ : Obl _)) ?_ | refine ifB_intro (fun h => ?_) (fun h => ?_) | refine Exists.intro _ (And.intro rfl ?_) | ((with_reducible show _ = _); rfl))
      all_goals try ((with_reducible refine Obl.mk ?_); first | ((with_reducible show regOk _ _ = true); kernel_rfl) | ((with_reducible show eqTyOk _ _ = true); kernel_rfl) | rfl | exact trivial | ((repeat' (first | exact trivial | refine And.intro ?_ ?_)); done) | decide | ((repeat' (first | exact List.forall_mem_nil _ | refine List.forall_mem_cons.2 (And.intro rfl ?_))); done) | (refine And.intro ?_ ?_ <;> simp only [List.length_map, List.length_append, List.length_cons, List.length_nil] <;> omega))
      all_goals try (exfalso; exact hz (by simpa using h))
  by_cases e12 : k = 12
  · subst e12
    obtain ⟨a0, a1⟩ := ha (by omega) (by omega)
    obtain ⟨n, rfl⟩ := Int.eq_ofNat_of_zero_le a0
    have hP := g_cpu_push (adv c z) (adv c z).m.fPc hc
    have hel : (s.fEntries.map intRow).length = s.fEntries.length := by simp
    by_cases hn : n < s.fEntries.length
    · obtain ⟨e, hee⟩ := get_of_lt hn
      rw [show qPerf s.fEntries (adv c z) ⟨12, (n : Int)⟩ = ⟨{ (qPush (adv c z) (adv c z).m.fPc).m with fPc := e }, (qPush (adv c z) (adv c z).m.fPc).bad⟩ by simp [qPerf, qGoto, hee]]
      repeat' ((conv => whnf); first | refine callG_intro (hP) ?_ | refine seq_inl ?_ | refine reg_inl ?_ | refine And.intro (Obl.out (?_ : Obl _)) ?_ | refine ifB_intro (fun h => ?_) (fun h => ?_) | refine ⟨n, (intRow e), rfl, map_get hee, ?_⟩ | refine Exists.intro _ (And.intro rfl ?_) | ((with_reducible show _ = _); rfl))
      all_goals try ((with_reducible refine Obl.mk ?_); first | ((with_reducible show regOk _ _ = true); kernel_rfl) | ((with_reducible show eqTyOk _ _ = true); kernel_rfl) | rfl | exact trivial | ((repeat' (first | exact trivial | refine And.intro ?_ ?_)); done) | decide | ((repeat' (first | exact List.forall_mem_nil _ | refine List.forall_mem_cons.2 (And.intro rfl ?_))); done) | (refine And.intro ?_ ?_ <;> simp only [List.length_map, List.length_append, List.length_cons, List.length_nil] <;> omega))
      all_goals try (exfalso; have h' := of_decide_eq_true h; rw [hel] at h'; dsimp only at h'; omega)
    · have hnone : s.fEntries[n]? = none := List.getElem?_eq_none (by omega)
      rw [show qPerf s.fEntries (adv c z) ⟨12, (n : Int)⟩ = ⟨(adv c z).m, true⟩ by simp [qPerf, qGoto, hnone]]
      repeat' ((conv => whnf); first | refine callG_intro (hP) ?_ | refine seq_inl ?_ | refine reg_inl ?_ | refine And.intro (Obl.out (?_ : Obl _)) ?_ | refine ifB_intro (fun h => ?_) (fun h => ?_) | refine Exists.intro _ (And.intro rfl ?_) | ((with_reducible show _ = _); rfl))
      all_goals try ((with_reducible refine Obl.mk ?_); first | ((with_reducible show regOk _ _ = true); kernel_rfl) | ((with_reducible show eqTyOk _ _ = true); kernel_rfl) | rfl | exact trivial | ((repeat' (first | exact trivial | refine And.intro ?_ ?_)); done) | decide | ((repeat' (first | exact List.forall_mem_nil _ | refine List.forall_mem_cons.2 (And.intro rfl ?_))); done) | (refine And.intro ?_ ?_ <;> simp only [List.length_map, List.length_append, List.length_cons, List.length_nil] <;> omega))
      all_goals try (exfalso; have h' := of_decide_eq_false h; rw [hel] at h'; dsimp only at h'; omega)
  by_cases e13 : k = 13
  · subst e13
    obtain ⟨a0, a1⟩ := ha (by omega) (by omega)
    obtain ⟨n, rfl⟩ := Int.eq_ofNat_of_zero_le a0
    have hP := g_cpu_push (adv c z) c.m.fFp hc
    have hZ := g_cpu_zeros ⟨{ (qPush (adv c z) c.m.fFp).m with fFp := (qPush (adv c z) c.m.fFp).m.fSp }, (qPush (adv c z) c.m.fFp).bad⟩ n (qPush_ok (c := adv c z) hc) (by omega)
    repeat' ((conv => whnf); first | refine callG_intro (hP) ?_ | refine callG_intro (hZ) ?_ | refine seq_inl ?_ | refine reg_inl ?_ | refine And.intro (Obl.out (?_ : Obl _)) ?_ | refine ifB_intro (fun h => ?_) (fun h => ?_) | refine Exists.intro _ (And.intro rfl ?_) | ((with_reducible show _ = _); rfl))
    all_goals try ((with_reducible refine Obl.mk ?_); first | ((with_reducible show regOk _ _ = true); kernel_rfl) | ((with_reducible show eqTyOk _ _ = true); kernel_rfl) | rfl | exact trivial | ((repeat' (first | exact trivial | refine And.intro ?_ ?_)); done) | decide | ((repeat' (first | exact List.forall_mem_nil _ | refine List.forall_mem_cons.2 (And.intro rfl ?_))); done) | (refine And.intro ?_ ?_ <;> simp only [List.length_map, List.length_append, List.length_cons, List.length_nil] <;> omega))
  by_cases e15 : k = 15
  · subst e15
    obtain ⟨a0, a1⟩ := ha (by omega) (by omega)
    obtain ⟨n, rfl⟩ := Int.eq_ofNat_of_zero_le a0
    have hZ := g_cpu_zeros (adv c z) n hc (by omega)
    repeat' ((conv => whnf); first | refine callG_intro (hZ) ?_ | refine seq_inl ?_ | refine reg_inl ?_ | refine And.intro (Obl.out (?_ : Obl _)) ?_ | refine ifB_intro (fun h => ?_) (fun h => ?_) | refine Exists.intro _ (And.intro rfl ?_) | ((with_reducible show _ = _); rfl))
    all_goals try ((with_reducible refine Obl.mk ?_); first | ((with_reducible show regOk _ _ = true); kernel_rfl) | ((with_reducible show eqTyOk _ _ = true); kernel_rfl) | rfl | exact trivial | ((repeat' (first | exact trivial | refine And.intro ?_ ?_)); done) | decide | ((repeat' (first | exact List.forall_mem_nil _ | refine List.forall_mem_cons.2 (And.intro rfl ?_))); done) | (refine And.intro ?_ ?_ <;> simp only [List.length_map, List.length_append, List.length_cons, List.length_nil] <;> omega))
  by_cases e14 : k = 14
  · subst e14
    obtain ⟨a0, a1⟩ := ha (by omega) (by omega)
    obtain ⟨n, rfl⟩ := Int.eq_ofNat_of_zero_le a0
    have hP1 := g_cpu_pop (adv c z) hc
    have hb := s_spec_l01In (cPop (adv c z)).m.fFp 0 1200
    cases hw : within (cPop (adv c z)).m.fFp 0 1200 with
    | false =>
      rw [hw] at hb
      rw [show qPerf s.fEntries (adv c z) ⟨14, (n : Int)⟩ = ⟨(cPop (adv c z)).m, true⟩ by simp [qPerf, qLeave, hw]]
      repeat' ((conv => whnf); first | refine callG_intro (hP1) ?_ | refine seq_inl ?_ | refine reg_inl ?_ | refine And.intro (Obl.out (?_ : Obl _)) ?_ | refine ifB_intro (fun h => ?_) (fun h => ?_) | refine Or.inl (call_intro (hb) (And.intro rfl (And.intro rfl (And.intro rfl trivial))) ?_) | refine Exists.intro _ (And.intro rfl ?_) | ((with_reducible show _ = _); rfl))
      all_goals try ((with_reducible refine Obl.mk ?_); first | ((with_reducible show regOk _ _ = true); kernel_rfl) | ((with_reducible show eqTyOk _ _ = true); kernel_rfl) | rfl | exact trivial | ((repeat' (first | exact trivial | refine And.intro ?_ ?_)); done) | decide | ((repeat' (first | exact List.forall_mem_nil _ | refine List.forall_mem_cons.2 (And.intro rfl ?_))); done) | (refine And.intro ?_ ?_ <;> simp only [List.length_map, List.length_append, List.length_cons, List.length_nil] <;> omega))
      all_goals try (exfalso; simp at h; done)
    | true =>
      rw [hw] at hb
      rw [show qPerf s.fEntries (adv c z) ⟨14, (n : Int)⟩ = qPush (cDrop n (qPc (qFp (cCut (cPop (adv c z)))))) (qTop (adv c z)) by simp [qPerf, qLeave, hw]]
      have o1 : (cCut (cPop (adv c z))).ok := cPop_ok (c := adv c z) hc
      have o2 : (qFp (cCut (cPop (adv c z)))).ok := cPop_ok o1
      have o3 : (qPc (qFp (cCut (cPop (adv c z))))).ok := cPop_ok o2
      have hP2 := g_cpu_pop (cCut (cPop (adv c z))) o1
      have hP3 := g_cpu_pop (qFp (cCut (cPop (adv c z)))) o2
      have hD := g_cpu_drop (qPc (qFp (cCut (cPop (adv c z))))) n o3 (by omega)
      have hP4 := g_cpu_push (cDrop n (qPc (qFp (cCut (cPop (adv c z)))))) (qTop (adv c z)) (cDrop_ok o3)
      repeat' ((conv => whnf); first | refine seq_inl ?_ | refine reg_inl ?_ | refine And.intro (Obl.out (?_ : Obl _)) ?_ | refine ifB_intro (fun h => ?_) (fun h => ?_) | refine Exists.intro _ (And.intro rfl ?_) | ((with_reducible show _ = _); rfl))
      all_goals try ((with_reducible refine Obl.mk ?_); first | ((with_reducible show regOk _ _ = true); kernel_rfl) | ((with_reducible show eqTyOk _ _ = true); kernel_rfl) | rfl | exact trivial | ((repeat' (first | exact trivial | refine And.intro ?_ ?_)); done) | decide | ((repeat' (first | exact List.forall_mem_nil _ | refine List.forall_mem_cons.2 (And.intro rfl ?_))); done) | (refine And.intro ?_ ?_ <;> simp only [List.length_map, List.length_append, List.length_cons, List.length_nil] <;> omega))
      refine callG_intro (hP1) ?_
      repeat' ((conv => whnf); first | refine seq_inl ?_ | refine reg_inl ?_ | refine And.intro (Obl.out (?_ : Obl _)) ?_ | refine ifB_intro (fun h => ?_) (fun h => ?_) | refine Or.inl (call_intro (hb) (And.intro rfl (And.intro rfl (And.intro rfl trivial))) ?_) | refine Exists.intro _ (And.intro rfl ?_) | ((with_reducible show _ = _); rfl))
      all_goals try ((with_reducible refine Obl.mk ?_); first | ((with_reducible show regOk _ _ = true); kernel_rfl) | ((with_reducible show eqTyOk _ _ = true); kernel_rfl) | rfl | exact trivial | ((repeat' (first | exact trivial | refine And.intro ?_ ?_)); done) | decide | ((repeat' (first | exact List.forall_mem_nil _ | refine List.forall_mem_cons.2 (And.intro rfl ?_))); done) | (refine And.intro ?_ ?_ <;> simp only [List.length_map, List.length_append, List.length_cons, List.length_nil] <;> omega))
      all_goals try (exfalso; simp at h; done)
      refine callG_intro (hP2) ?_
      repeat' ((conv => whnf); first | refine seq_inl ?_ | refine reg_inl ?_ | refine And.intro (Obl.out (?_ : Obl _)) ?_ | refine ifB_intro (fun h => ?_) (fun h => ?_) | refine Exists.intro _ (And.intro rfl ?_) | ((with_reducible show _ = _); rfl))
      all_goals try ((with_reducible refine Obl.mk ?_); first | ((with_reducible show regOk _ _ = true); kernel_rfl) | ((with_reducible show eqTyOk _ _ = true); kernel_rfl) | rfl | exact trivial | ((repeat' (first | exact trivial | refine And.intro ?_ ?_)); done) | decide | ((repeat' (first | exact List.forall_mem_nil _ | refine List.forall_mem_cons.2 (And.intro rfl ?_))); done) | (refine And.intro ?_ ?_ <;> simp only [List.length_map, List.length_append, List.length_cons, List.length_nil] <;> omega))
      refine callG_intro (hP3) ?_
      repeat' ((conv => whnf); first | refine callG_intro (hD) ?_ | refine callG_intro (hP4) ?_ | refine seq_inl ?_ | refine reg_inl ?_ | refine And.intro (Obl.out (?_ : Obl _)) ?_ | refine ifB_intro (fun h => ?_) (fun h => ?_) | refine Exists.intro _ (And.intro rfl ?_) | ((with_reducible show _ = _); rfl))
      all_goals try ((with_reducible refine Obl.mk ?_); first | ((with_reducible show regOk _ _ = true); kernel_rfl) | ((with_reducible show eqTyOk _ _ = true); kernel_rfl) | rfl | exact trivial | ((repeat' (first | exact trivial | refine And.intro ?_ ?_)); done) | decide | ((repeat' (first | exact List.forall_mem_nil _ | refine List.forall_mem_cons.2 (And.intro rfl ?_))); done) | (refine And.intro ?_ ?_ <;> simp only [List.length_map, List.length_append, List.length_cons, List.length_nil] <;> omega))
  by_cases e16 : k = 16
  · subst e16
    obtain ⟨a0, a1⟩ := ha (by omega) (by omega)
    obtain ⟨n, rfl⟩ := Int.eq_ofNat_of_zero_le a0
    have o1 : (cPop (adv c z)).ok := cPop_ok (c := adv c z) hc
    have o2 : (cDrop (n / 16) (cPop (adv c z))).ok := cDrop_ok o1
    have o3 : (qPc (cDrop (n / 16) (cPop (adv c z)))).ok := cPop_ok o2
    have w1 : IntKind.i64.wrap ((n : Int).tdiv 16) = ((n / 16 : Nat) : Int) := by
      rw [Int.tdiv_eq_ediv_of_nonneg (by omega), IntWalk.i64_in _ (by omega)]; rfl
    have w2 : (n : Int).tmod 16 = ((n % 16 : Nat) : Int) := by
      rw [Int.tmod_eq_emod_of_nonneg (by omega)]; rfl
    have hP1 := g_cpu_pop (adv c z) hc
    have hD1 := g_cpu_drop (cPop (adv c z)) (n / 16) o1 (by omega)
    have hP2 := g_cpu_pop (cDrop (n / 16) (cPop (adv c z))) o2
    have hD2 := g_cpu_drop (qPc (cDrop (n / 16) (cPop (adv c z)))) (n % 16) o3 (by omega)
    have hP4 := g_cpu_push (cDrop (n % 16) (qPc (cDrop (n / 16) (cPop (adv c z))))) (qTop (adv c z)) (cDrop_ok o3)
    rw [← w1] at hD1
    rw [← w2] at hD2
    repeat' ((conv => whnf); first | refine seq_inl ?_ | refine reg_inl ?_ | refine And.intro (Obl.out (?_ : Obl _)) ?_ | refine ifB_intro (fun h => ?_) (fun h => ?_) | refine Exists.intro _ (And.intro rfl ?_) | ((with_reducible show _ = _); rfl))
    all_goals try ((with_reducible refine Obl.mk ?_); first | ((with_reducible show regOk _ _ = true); kernel_rfl) | ((with_reducible show eqTyOk _ _ = true); kernel_rfl) | rfl | exact trivial | ((repeat' (first | exact trivial | refine And.intro ?_ ?_)); done) | decide | ((repeat' (first | exact List.forall_mem_nil _ | refine List.forall_mem_cons.2 (And.intro rfl ?_))); done) | (refine And.intro ?_ ?_ <;> simp only [List.length_map, List.length_append, List.length_cons, List.length_nil] <;> omega))
    refine callG_intro (hP1) ?_
    repeat' ((conv => whnf); first | refine seq_inl ?_ | refine reg_inl ?_ | refine And.intro (Obl.out (?_ : Obl _)) ?_ | refine ifB_intro (fun h => ?_) (fun h => ?_) | refine Exists.intro _ (And.intro rfl ?_) | ((with_reducible show _ = _); rfl))
    all_goals try ((with_reducible refine Obl.mk ?_); first | ((with_reducible show regOk _ _ = true); kernel_rfl) | ((with_reducible show eqTyOk _ _ = true); kernel_rfl) | rfl | exact trivial | ((repeat' (first | exact trivial | refine And.intro ?_ ?_)); done) | decide | ((repeat' (first | exact List.forall_mem_nil _ | refine List.forall_mem_cons.2 (And.intro rfl ?_))); done) | (refine And.intro ?_ ?_ <;> simp only [List.length_map, List.length_append, List.length_cons, List.length_nil] <;> omega))
    refine callG_intro (hD1) ?_
    repeat' ((conv => whnf); first | refine seq_inl ?_ | refine reg_inl ?_ | refine And.intro (Obl.out (?_ : Obl _)) ?_ | refine ifB_intro (fun h => ?_) (fun h => ?_) | refine Exists.intro _ (And.intro rfl ?_) | ((with_reducible show _ = _); rfl))
    all_goals try ((with_reducible refine Obl.mk ?_); first | ((with_reducible show regOk _ _ = true); kernel_rfl) | ((with_reducible show eqTyOk _ _ = true); kernel_rfl) | rfl | exact trivial | ((repeat' (first | exact trivial | refine And.intro ?_ ?_)); done) | decide | ((repeat' (first | exact List.forall_mem_nil _ | refine List.forall_mem_cons.2 (And.intro rfl ?_))); done) | (refine And.intro ?_ ?_ <;> simp only [List.length_map, List.length_append, List.length_cons, List.length_nil] <;> omega))
    refine callG_intro (hP2) ?_
    repeat' ((conv => whnf); first | refine seq_inl ?_ | refine reg_inl ?_ | refine And.intro (Obl.out (?_ : Obl _)) ?_ | refine ifB_intro (fun h => ?_) (fun h => ?_) | refine Exists.intro _ (And.intro rfl ?_) | ((with_reducible show _ = _); rfl))
    all_goals try ((with_reducible refine Obl.mk ?_); first | ((with_reducible show regOk _ _ = true); kernel_rfl) | ((with_reducible show eqTyOk _ _ = true); kernel_rfl) | rfl | exact trivial | ((repeat' (first | exact trivial | refine And.intro ?_ ?_)); done) | decide | ((repeat' (first | exact List.forall_mem_nil _ | refine List.forall_mem_cons.2 (And.intro rfl ?_))); done) | (refine And.intro ?_ ?_ <;> simp only [List.length_map, List.length_append, List.length_cons, List.length_nil] <;> omega))
    refine callG_intro (hD2) ?_
    repeat' ((conv => whnf); first | refine seq_inl ?_ | refine reg_inl ?_ | refine And.intro (Obl.out (?_ : Obl _)) ?_ | refine ifB_intro (fun h => ?_) (fun h => ?_) | refine Exists.intro _ (And.intro rfl ?_) | ((with_reducible show _ = _); rfl))
    all_goals try ((with_reducible refine Obl.mk ?_); first | ((with_reducible show regOk _ _ = true); kernel_rfl) | ((with_reducible show eqTyOk _ _ = true); kernel_rfl) | rfl | exact trivial | ((repeat' (first | exact trivial | refine And.intro ?_ ?_)); done) | decide | ((repeat' (first | exact List.forall_mem_nil _ | refine List.forall_mem_cons.2 (And.intro rfl ?_))); done) | (refine And.intro ?_ ?_ <;> simp only [List.length_map, List.length_append, List.length_cons, List.length_nil] <;> omega))
    refine callG_intro (hP4) ?_
    repeat' ((conv => whnf); first | refine seq_inl ?_ | refine reg_inl ?_ | refine And.intro (Obl.out (?_ : Obl _)) ?_ | refine ifB_intro (fun h => ?_) (fun h => ?_) | refine Exists.intro _ (And.intro rfl ?_) | ((with_reducible show _ = _); rfl))
    all_goals try ((with_reducible refine Obl.mk ?_); first | ((with_reducible show regOk _ _ = true); kernel_rfl) | ((with_reducible show eqTyOk _ _ = true); kernel_rfl) | rfl | exact trivial | ((repeat' (first | exact trivial | refine And.intro ?_ ?_)); done) | decide | ((repeat' (first | exact List.forall_mem_nil _ | refine List.forall_mem_cons.2 (And.intro rfl ?_))); done) | (refine And.intro ?_ ?_ <;> simp only [List.length_map, List.length_append, List.length_cons, List.length_nil] <;> omega))
  · have o1 : (cPop (adv c z)).ok := cPop_ok (c := adv c z) hc
    have hP1 := g_cpu_pop (adv c z) hc
    have hP2 := g_cpu_pop (cPop (adv c z)) o1
    have hP3 := g_cpu_push (cPop (cPop (adv c z))) (applyP (k - 3) (qTop (cPop (adv c z))) (qTop (adv c z))) (cPop_ok o1)
    have hA := s_spec_Apply (k - 3) (qTop (cPop (adv c z))) (qTop (adv c z))
    have e : k = 5 ∨ k = 6 ∨ k = 7 ∨ k = 8 ∨ k = 9 := by omega
    rcases e with rfl | rfl | rfl | rfl | rfl
    all_goals
      repeat' ((conv => whnf); first | refine seq_inl ?_ | refine reg_inl ?_ | refine And.intro (Obl.out (?_ : Obl _)) ?_ | refine ifB_intro (fun h => ?_) (fun h => ?_) | refine Exists.intro _ (And.intro rfl ?_) | ((with_reducible show _ = _); rfl))
      all_goals try ((with_reducible refine Obl.mk ?_); first | ((with_reducible show regOk _ _ = true); kernel_rfl) | ((with_reducible show eqTyOk _ _ = true); kernel_rfl) | rfl | exact trivial | ((repeat' (first | exact trivial | refine And.intro ?_ ?_)); done) | decide | ((repeat' (first | exact List.forall_mem_nil _ | refine List.forall_mem_cons.2 (And.intro rfl ?_))); done) | (refine And.intro ?_ ?_ <;> simp only [List.length_map, List.length_append, List.length_cons, List.length_nil] <;> omega))
      refine callG_intro (hP1) ?_
      repeat' ((conv => whnf); first | refine seq_inl ?_ | refine reg_inl ?_ | refine And.intro (Obl.out (?_ : Obl _)) ?_ | refine ifB_intro (fun h => ?_) (fun h => ?_) | refine Exists.intro _ (And.intro rfl ?_) | ((with_reducible show _ = _); rfl))
      all_goals try ((with_reducible refine Obl.mk ?_); first | ((with_reducible show regOk _ _ = true); kernel_rfl) | ((with_reducible show eqTyOk _ _ = true); kernel_rfl) | rfl | exact trivial | ((repeat' (first | exact trivial | refine And.intro ?_ ?_)); done) | decide | ((repeat' (first | exact List.forall_mem_nil _ | refine List.forall_mem_cons.2 (And.intro rfl ?_))); done) | (refine And.intro ?_ ?_ <;> simp only [List.length_map, List.length_append, List.length_cons, List.length_nil] <;> omega))
      refine callG_intro (hP2) ?_
      repeat' ((conv => whnf); first | refine seq_inl ?_ | refine reg_inl ?_ | refine And.intro (Obl.out (?_ : Obl _)) ?_ | refine ifB_intro (fun h => ?_) (fun h => ?_) | refine Or.inl (call_intro (hA) (And.intro rfl (And.intro rfl (And.intro rfl trivial))) ?_) | refine Exists.intro _ (And.intro rfl ?_) | ((with_reducible show _ = _); rfl))
      all_goals try ((with_reducible refine Obl.mk ?_); first | ((with_reducible show regOk _ _ = true); kernel_rfl) | ((with_reducible show eqTyOk _ _ = true); kernel_rfl) | rfl | exact trivial | ((repeat' (first | exact trivial | refine And.intro ?_ ?_)); done) | decide | ((repeat' (first | exact List.forall_mem_nil _ | refine List.forall_mem_cons.2 (And.intro rfl ?_))); done) | (refine And.intro ?_ ?_ <;> simp only [List.length_map, List.length_append, List.length_cons, List.length_nil] <;> omega))
      refine callG_intro (hP3) ?_
      repeat' ((conv => whnf); first | refine seq_inl ?_ | refine reg_inl ?_ | refine And.intro (Obl.out (?_ : Obl _)) ?_ | refine ifB_intro (fun h => ?_) (fun h => ?_) | refine Exists.intro _ (And.intro rfl ?_) | ((with_reducible show _ = _); rfl))
      all_goals try ((with_reducible refine Obl.mk ?_); first | ((with_reducible show regOk _ _ = true); kernel_rfl) | ((with_reducible show eqTyOk _ _ = true); kernel_rfl) | rfl | exact trivial | ((repeat' (first | exact trivial | refine And.intro ?_ ?_)); done) | decide | ((repeat' (first | exact List.forall_mem_nil _ | refine List.forall_mem_cons.2 (And.intro rfl ?_))); done) | (refine And.intro ?_ ?_ <;> simp only [List.length_map, List.length_append, List.length_cons, List.length_nil] <;> omega))
theorem g_cpu_out (s : TSpace) (c : CS) (a z : Int) (hc : c.ok) (ho : c.m.fOut.length ≤ 2000000) : SpecG Try.prog 130 [.r (.agg (s.tr.map .t)), coreP, opV ⟨17, a⟩, tI .i64 z] (cpuH c) (.tup []) (cpuO (qOut (adv c z))) := by
  refine specG_of_W hΓ hmix Try.func130 rfl (by decide) rfl rfl ?_
  have hP := g_cpu_pop (adv c z) hc
  have ho2 : (cPop (adv c z)).m.fOut.length ≤ 2000000 := by unfold cPop; split <;> exact ho
  repeat' ((conv => whnf); first | refine callG_intro (hP) ?_ | refine seq_inl ?_ | refine reg_inr 5 7 ?_ | refine And.intro (Obl.out (?_ : Obl _)) ?_ | refine ifB_intro (fun h => ?_) (fun h => ?_) | refine Exists.intro _ (And.intro rfl ?_) | ((with_reducible show _ = _); rfl))
  all_goals try ((with_reducible refine Obl.mk ?_); first | ((with_reducible show regOk _ _ = true); kernel_rfl) | ((with_reducible show eqTyOk _ _ = true); kernel_rfl) | ((with_reducible show regOkX _ _ _ _ = true); kernel_rfl) | ((with_reducible show condX _ _ _ _ _ _); (conv => whnf); rfl) | rfl | exact trivial | ((repeat' (first | exact trivial | refine And.intro ?_ ?_)); done) | decide | ((repeat' (first | exact List.forall_mem_nil _ | refine List.forall_mem_cons.2 (And.intro rfl ?_))); done) | (refine And.intro ?_ ?_ <;> simp only [List.length_map, List.length_append, List.length_cons, List.length_nil] <;> omega))
  all_goals (refine ⟨?_⟩; simp [qOut, intRow])
end Go.Proofs.Ytehniaekfijmiaa
