/- UnwindStep of the reference. -/
import Derived.Test.YtflolafbblohnaaFnsZa
namespace Go.Proofs.Ytflolafbblohnaa
open Go.Sim
set_option maxRecDepth 100000
set_option maxHeartbeats 4000000
def locL (s : TSpace) (a : Int) : Int × Int := if spaceOk s then locS s a else (-1, -1)
theorem s_spec_Locate (s : TSpace) (a : Int) (hs : smallR 1048576 s.tr) : Sim.Spec Try.prog 137 [.agg s.tr, tvI a] (rLoc (locL s a)) := by
  have hS := s_spec_SpaceOk s hs
  cases hso : spaceOk s with
  | false =>
    rw [hso] at hS
    rw [locL, hso, if_neg (by simp)]
    refine spec_of_W hΓ hmix Try.func137 rfl (by decide) rfl ?_
    repeat' (
      (conv => whnf)
      first
      | refine Or.inl ?_
      | refine And.intro (Obl.out (?_ : Obl _)) ?_
      | refine ifB_intro (fun h => ?_) (fun h => ?_)
      | refine call_intro (hS) (And.intro (And.intro rfl (And.intro rfl (And.intro rfl trivial))) trivial) ?_
      | refine Exists.intro _ (And.intro rfl ?_)
      | ((with_reducible show _ = _); rfl))
    all_goals try (
      (with_reducible refine Obl.mk ?_)
      first
      | ((with_reducible show regOk _ _ = true); kernel_rfl)
      | ((with_reducible show eqTyOk _ _ = true); kernel_rfl)
      | rfl
      | exact trivial
      | ((repeat' (first | exact trivial | refine And.intro ?_ ?_)); done)
      | decide
      | (intro r hr; simp only [List.mem_cons, List.not_mem_nil, or_false] at hr; first | (subst hr; rfl) | (rcases hr with rfl | rfl <;> rfl) | (rcases hr with rfl | rfl | rfl <;> rfl) | (rcases hr with rfl | rfl | rfl | rfl <;> rfl))
      | (refine And.intro ?_ ?_ <;> simp only [List.length_map, List.length_append, List.length_cons, List.length_nil] <;> omega))
    all_goals (exfalso; simp at h; done)
  | true =>
    rw [hso] at hS
    obtain ⟨i0, i1, b0, b1, hsh, ⟨e1, e2⟩, ⟨g0, p0, p1⟩, ⟨g1, q0, q1⟩, _, _⟩ := spaceOk_inv hso
    have l0 := (imageOk_iff.1 g0).1
    have l1 := (imageOk_iff.1 g1).1
    rw [locL, hso, if_pos rfl, hsh, locS]
    obtain ⟨im, bs, es⟩ := s
    dsimp only at hsh
    injection hsh with h1 h2
    subst h1
    subst h2
    have hL := s_spec_l10Locate i0 i1 b0 b1 a es (by omega) (by omega) (by omega) (by omega)
    refine spec_of_W hΓ hmix Try.func137 rfl (by decide) rfl ?_
    repeat' (
      (conv => whnf)
      first
      | refine Or.inl ?_
      | refine And.intro (Obl.out (?_ : Obl _)) ?_
      | refine ifB_intro (fun h => ?_) (fun h => ?_)
      | refine call_intro (hS) (And.intro (And.intro rfl (And.intro rfl (And.intro rfl trivial))) trivial) ?_
      | refine call_intro (hL) (And.intro (And.intro rfl (And.intro rfl (And.intro rfl trivial))) (And.intro rfl trivial)) ?_
      | refine Exists.intro _ (And.intro rfl ?_)
      | ((with_reducible show _ = _); rfl))
    all_goals try (
      (with_reducible refine Obl.mk ?_)
      first
      | ((with_reducible show regOk _ _ = true); kernel_rfl)
      | ((with_reducible show eqTyOk _ _ = true); kernel_rfl)
      | rfl
      | exact trivial
      | ((repeat' (first | exact trivial | refine And.intro ?_ ?_)); done)
      | decide
      | (intro r hr; simp only [List.mem_cons, List.not_mem_nil, or_false] at hr; first | (subst hr; rfl) | (rcases hr with rfl | rfl <;> rfl) | (rcases hr with rfl | rfl | rfl <;> rfl) | (rcases hr with rfl | rfl | rfl | rfl <;> rfl))
      | (refine And.intro ?_ ?_ <;> simp only [List.length_map, List.length_append, List.length_cons, List.length_nil] <;> omega))
    all_goals (exfalso; simp at h; done)
theorem s_spec_UnwindStep (s : TSpace) (rules : List (List TRule)) (v : TView) (inner : Bool) (hpc : inI v.fPc) (hs : smallR 1048576 s.tr) (hr : smallT 1048576 (.lst 1 (rules.map (lstRow 4 TRule.tr)))) (hv : smallR 1048576 v.tr) : Sim.Spec Try.prog 60 [.agg s.tr, tvL 1 (rules.map (lstRow 4 TRule.tr)), .agg v.tr, tvB inner] (.tup [.agg ((oV (unwindStep s rules v inner)).tr.map resC), .c (.t (.bool (unwindStep s rules v inner).isSome))]) := by
  have hV := s_spec_ViewOk v
  have hrl := small_nat hr
  have hlen : (rules.map (lstRow 4 TRule.tr)).length = rules.length := by simp
  have hwl : v.fWords.length ≤ 1048576 := by have := hv; simp only [TView.tr, smallR] at this; exact small_nat this.2.2.2.1
  by_cases hc : spaceOk s = true ∧ viewOk v = true ∧ rules.length = 2
  · obtain ⟨c1, c2, c3⟩ := hc
    rw [c2] at hV
    obtain ⟨i0, i1, b0, b1, hsh, ⟨e1, e2⟩, ⟨g0, p0, p1⟩, ⟨g1, q0, q1⟩, _, _⟩ := spaceOk_inv c1
    have l0 := (imageOk_iff.1 g0).1
    have l1 := (imageOk_iff.1 g1).1
    have hvi := viewOk_iff.1 c2
    have hloc : ∀ a, locL s a = loc2 i0 i1 b0 b1 a := by
      intro a
      rw [locL, c1, if_pos rfl, hsh, locS]
    have hu : unwindStep s rules v inner = (match ruleAt rules (loc2 i0 i1 b0 b1 (if inner then v.fPc else v.fPc - 1)) with | some r => unwindR v r | none => none) := by
      rw [unwindStep, if_pos ⟨c1, c2, c3⟩, hsh]; rfl
    rw [hu]
    refine spec_of_W hΓ hmix Try.func60 rfl (by decide) rfl ?_
    cases inner with
    | true =>
      rw [if_pos rfl]
      have hL := s_spec_Locate s v.fPc hs
      rw [hloc] at hL
      rcases loc2_cases i0 i1 b0 b1 v.fPc with hx | ⟨i, off, hi, hx⟩
      · rw [hx] at hL
        have hnone : ruleAt rules (loc2 i0 i1 b0 b1 v.fPc) = none := by rw [hx, ruleAt, if_pos (by decide)]
        rw [hnone]
        repeat' (
          (conv => whnf)
          first
          | refine Or.inl ?_
          | refine And.intro (Obl.out (?_ : Obl _)) ?_
          | refine ifB_intro (fun h => ?_) (fun h => ?_)
          | refine call_intro (hL) (And.intro (And.intro rfl (And.intro rfl (And.intro rfl trivial))) (And.intro rfl trivial)) ?_
          | refine Exists.intro _ (And.intro rfl ?_)
          | ((with_reducible show _ = _); rfl))
        all_goals try (
          (with_reducible refine Obl.mk ?_)
          first
          | ((with_reducible show regOk _ _ = true); kernel_rfl)
          | ((with_reducible show eqTyOk _ _ = true); kernel_rfl)
          | rfl
          | exact trivial
          | ((repeat' (first | exact trivial | refine And.intro ?_ ?_)); done)
          | decide
          | (intro r hr; simp only [List.mem_cons, List.not_mem_nil, or_false] at hr; first | (subst hr; rfl) | (rcases hr with rfl | rfl <;> rfl) | (rcases hr with rfl | rfl | rfl <;> rfl) | (rcases hr with rfl | rfl | rfl | rfl <;> rfl))
          | (refine And.intro ?_ ?_ <;> simp only [List.length_map, List.length_append, List.length_cons, List.length_nil] <;> omega))
        all_goals try (exfalso; first | (simp at h; done) | (rw [hlen, c3] at h; simp at h; done) | (have h' := of_decide_eq_true h; omega) | (have h' := of_decide_eq_false h; omega))
      · rw [hx] at hL
        obtain ⟨rl, hrl2⟩ := two_get c3 hi
        have hrs := smallRs_map hr (List.mem_of_getElem? hrl2)
        simp only [lstRow, smallR] at hrs
        have hF := s_spec_FindRule rl off (small_nat hrs.1)
        have hra : ruleAt rules (loc2 i0 i1 b0 b1 v.fPc) = if findRule rl off < 0 then none else rl[(findRule rl off).toNat]? := by
          rw [hx, ruleAt, if_neg (by dsimp only; omega), Int.toNat_natCast, hrl2]
        rw [hra]
        have hrg := findRule_range rl off
        generalize findRule rl off = K at *
        rcases hrg with rfl | ⟨hok, k0, k1⟩
        · rw [if_pos (by decide)]
          repeat' (
            (conv => whnf)
            first
            | refine Or.inl ?_
            | refine And.intro (Obl.out (?_ : Obl _)) ?_
            | refine ifB_intro (fun h => ?_) (fun h => ?_)
            | refine call_intro (hL) (And.intro (And.intro rfl (And.intro rfl (And.intro rfl trivial))) (And.intro rfl trivial)) ?_
            | refine call_intro (hV) (And.intro (And.intro rfl (And.intro rfl (And.intro rfl (And.intro rfl trivial)))) trivial) ?_
            | refine ⟨i, (lstRow 4 TRule.tr rl), rfl, map_get hrl2, ?_⟩
            | refine call_intro (hF) (And.intro rfl (And.intro rfl trivial)) ?_
            | refine Exists.intro _ (And.intro rfl ?_)
            | ((with_reducible show _ = _); rfl))
          all_goals try (
            (with_reducible refine Obl.mk ?_)
            first
            | ((with_reducible show regOk _ _ = true); kernel_rfl)
            | ((with_reducible show eqTyOk _ _ = true); kernel_rfl)
            | rfl
            | exact trivial
            | ((repeat' (first | exact trivial | refine And.intro ?_ ?_)); done)
            | decide
            | (intro r hr; simp only [List.mem_cons, List.not_mem_nil, or_false] at hr; first | (subst hr; rfl) | (rcases hr with rfl | rfl <;> rfl) | (rcases hr with rfl | rfl | rfl <;> rfl) | (rcases hr with rfl | rfl | rfl | rfl <;> rfl))
            | (refine And.intro ?_ ?_ <;> simp only [List.length_map, List.length_append, List.length_cons, List.length_nil] <;> omega))
          all_goals try (exfalso; first | (simp at h; done) | (rw [hlen, c3] at h; simp at h; done) | (have h' := of_decide_eq_true h; omega) | (have h' := of_decide_eq_false h; omega))
        · obtain ⟨k, rfl⟩ := Int.eq_ofNat_of_zero_le k0
          obtain ⟨r, hrr⟩ := get_of_lt (l := rl) (k := k) (by omega)
          rw [if_neg (by omega), Int.toNat_natCast, hrr]
          dsimp only
          have hnr := rulesOkF_mem (Int.le_refl 0) hok r (List.mem_of_getElem? hrr)
          unfold nearRule at hnr
          unfold unwindR
          cases hfr : r.fFrame with
          | false =>
            have w1 : IntKind.i64.wrap (v.fSp + r.fDepth) = v.fSp + r.fDepth := IntWalk.i64_in _ (by omega)
            have hW := s_spec_WordOf v (v.fSp + r.fDepth)
            rw [if_neg (by simp)]
            match hwo : wordOf v (v.fSp + r.fDepth) with
            | none =>
              rw [hwo] at hW
              repeat' (
                (conv => whnf)
                first
                | refine Or.inl ?_
                | refine And.intro (Obl.out (?_ : Obl _)) ?_
                | refine ifB_intro (fun h => ?_) (fun h => ?_)
                | refine call_intro (hL) (And.intro (And.intro rfl (And.intro rfl (And.intro rfl trivial))) (And.intro rfl trivial)) ?_
                | refine call_intro (hV) (And.intro (And.intro rfl (And.intro rfl (And.intro rfl (And.intro rfl trivial)))) trivial) ?_
                | refine ⟨i, (lstRow 4 TRule.tr rl), rfl, map_get hrl2, ?_⟩
                | refine call_intro (hF) (And.intro rfl (And.intro rfl trivial)) ?_
                | refine ⟨k, r.tr, rfl, map_get hrr, ?_⟩
                | refine call_intro (hW) (And.intro (And.intro rfl (And.intro rfl (And.intro rfl (And.intro rfl trivial)))) (And.intro (congrArg (Tr.int _) (by first | rfl | (simp (disch := omega) only [IntWalk.i64_in]; done) | ((try simp (disch := omega) only [IntWalk.i64_in]); omega))) trivial)) ?_
                | refine Exists.intro _ (And.intro rfl ?_)
                | ((with_reducible show _ = _); rfl))
              all_goals try (
                (with_reducible refine Obl.mk ?_)
                first
                | ((with_reducible show regOk _ _ = true); kernel_rfl)
                | ((with_reducible show eqTyOk _ _ = true); kernel_rfl)
                | rfl
                | exact trivial
                | ((repeat' (first | exact trivial | refine And.intro ?_ ?_)); done)
                | decide
                | (intro r hr; simp only [List.mem_cons, List.not_mem_nil, or_false] at hr; first | (subst hr; rfl) | (rcases hr with rfl | rfl <;> rfl) | (rcases hr with rfl | rfl | rfl <;> rfl) | (rcases hr with rfl | rfl | rfl | rfl <;> rfl))
                | (refine And.intro ?_ ?_ <;> simp only [List.length_map, List.length_append, List.length_cons, List.length_nil] <;> omega))
              all_goals try (exfalso; first | (simp at h; done) | (rw [hlen, c3] at h; simp at h; done) | (have h' := of_decide_eq_true h; omega) | (have h' := of_decide_eq_false h; omega) | (rw [hfr] at h; simp at h; done))
            | some pc =>
              rw [hwo] at hW
              have hin := wordOf_some hwo
              obtain ⟨n, hn⟩ := Int.eq_ofNat_of_zero_le (show 0 ≤ v.fSp + r.fDepth + 1 - v.fSp by omega)
              have hd : (movedV v pc (v.fSp + r.fDepth + 1) v.fFp).fWords.map intRow = ((v.fWords.map intRow).take (v.fWords.map intRow).length).drop n := by
                rw [List.take_length, movedV, hn, Int.toNat_natCast, List.map_drop]
              have w2 : v.fSp = v.fSp := rfl
              have hsum : IntKind.i64.wrap (IntKind.i64.wrap (v.fSp + r.fDepth) + 1) = v.fSp + r.fDepth + 1 := by rw [w1, IntWalk.i64_in _ (by omega)]
              repeat' (
                (conv => whnf)
                first
                | refine seq_inl ?_
                | refine And.intro (Obl.out (?_ : Obl _)) ?_
                | refine ifB_intro (fun h => ?_) (fun h => ?_)
                | refine Or.inl (call_intro (hL) (And.intro (And.intro rfl (And.intro rfl (And.intro rfl trivial))) (And.intro rfl trivial)) ?_)
                | refine Or.inl (call_intro (hV) (And.intro (And.intro rfl (And.intro rfl (And.intro rfl (And.intro rfl trivial)))) trivial) ?_)
                | refine ⟨i, (lstRow 4 TRule.tr rl), rfl, map_get hrl2, ?_⟩
                | refine Or.inl (call_intro (hF) (And.intro rfl (And.intro rfl trivial)) ?_)
                | refine ⟨k, r.tr, rfl, map_get hrr, ?_⟩
                | refine Or.inl (call_intro (hW) (And.intro (And.intro rfl (And.intro rfl (And.intro rfl (And.intro rfl trivial)))) (And.intro (congrArg (Tr.int _) (by first | rfl | (simp (disch := omega) only [IntWalk.i64_in]; done) | ((try simp (disch := omega) only [IntWalk.i64_in]); omega))) trivial)) ?_)
                | refine Exists.intro _ (And.intro rfl ?_)
                | ((with_reducible show _ = _); rfl))
              all_goals try (
                (with_reducible refine Obl.mk ?_)
                first
                | ((with_reducible show regOk _ _ = true); kernel_rfl)
                | ((with_reducible show eqTyOk _ _ = true); kernel_rfl)
                | rfl
                | exact trivial
                | ((repeat' (first | exact trivial | refine And.intro ?_ ?_)); done)
                | decide
                | (intro r hr; simp only [List.mem_cons, List.not_mem_nil, or_false] at hr; first | (subst hr; rfl) | (rcases hr with rfl | rfl <;> rfl) | (rcases hr with rfl | rfl | rfl <;> rfl) | (rcases hr with rfl | rfl | rfl | rfl <;> rfl))
                | (refine And.intro ?_ ?_ <;> simp only [List.length_map, List.length_append, List.length_cons, List.length_nil] <;> omega))
              all_goals try (exfalso; first | (simp at h; done) | (rw [hlen, c3] at h; simp at h; done) | (have h' := of_decide_eq_true h; omega) | (have h' := of_decide_eq_false h; omega) | (rw [hfr] at h; simp at h; done))
              conv => whnf
              refine ⟨n, (v.fWords.map intRow).length, ?_, rfl, by simp; omega, Nat.le_refl _, ?_⟩
              · show IntKind.i64.wrap (IntKind.i64.wrap (IntKind.i64.wrap (v.fSp + r.fDepth) + 1) - v.fSp) = (n : Int)
                rw [hsum, IntWalk.i64_in _ (by omega)]; omega
              repeat' (
                (conv => whnf)
                first
                | refine Or.inl ?_
                | refine And.intro (Obl.out (?_ : Obl _)) ?_
                | refine ifB_intro (fun h => ?_) (fun h => ?_)
                | refine Exists.intro _ (And.intro rfl ?_)
                | ((with_reducible show _ = _); rfl))
              all_goals try (
                (with_reducible refine Obl.mk ?_)
                first
                | ((with_reducible show regOk _ _ = true); kernel_rfl)
                | ((with_reducible show eqTyOk _ _ = true); kernel_rfl)
                | rfl
                | exact trivial
                | ((repeat' (first | exact trivial | refine And.intro ?_ ?_)); done)
                | decide
                | (intro r hr; simp only [List.mem_cons, List.not_mem_nil, or_false] at hr; first | (subst hr; rfl) | (rcases hr with rfl | rfl <;> rfl) | (rcases hr with rfl | rfl | rfl <;> rfl) | (rcases hr with rfl | rfl | rfl | rfl <;> rfl))
                | (refine And.intro ?_ ?_ <;> simp only [List.length_map, List.length_append, List.length_cons, List.length_nil] <;> omega))
              all_goals try exact ⟨congrArg (Tr.int _) hsum⟩
              all_goals try exact ⟨hd.symm⟩
              all_goals try exact ⟨⟨by simp; omega, by simp; omega⟩⟩
              all_goals try exact ⟨⟨rfl, flat_ints _⟩⟩
          | true =>
            rw [if_pos rfl]
            have hW1 := s_spec_WordOf v v.fFp
            match hwo : wordOf v v.fFp with
            | none =>
              rw [hwo] at hW1
              repeat' (
                (conv => whnf)
                first
                | refine Or.inl ?_
                | refine And.intro (Obl.out (?_ : Obl _)) ?_
                | refine ifB_intro (fun h => ?_) (fun h => ?_)
                | refine call_intro (hL) (And.intro (And.intro rfl (And.intro rfl (And.intro rfl trivial))) (And.intro rfl trivial)) ?_
                | refine call_intro (hV) (And.intro (And.intro rfl (And.intro rfl (And.intro rfl (And.intro rfl trivial)))) trivial) ?_
                | refine ⟨i, (lstRow 4 TRule.tr rl), rfl, map_get hrl2, ?_⟩
                | refine call_intro (hF) (And.intro rfl (And.intro rfl trivial)) ?_
                | refine ⟨k, r.tr, rfl, map_get hrr, ?_⟩
                | refine call_intro (hW1) (And.intro (And.intro rfl (And.intro rfl (And.intro rfl (And.intro rfl trivial)))) (And.intro rfl trivial)) ?_
                | refine Exists.intro _ (And.intro rfl ?_)
                | ((with_reducible show _ = _); rfl))
              all_goals try (
                (with_reducible refine Obl.mk ?_)
                first
                | ((with_reducible show regOk _ _ = true); kernel_rfl)
                | ((with_reducible show eqTyOk _ _ = true); kernel_rfl)
                | rfl
                | exact trivial
                | ((repeat' (first | exact trivial | refine And.intro ?_ ?_)); done)
                | decide
                | (intro r hr; simp only [List.mem_cons, List.not_mem_nil, or_false] at hr; first | (subst hr; rfl) | (rcases hr with rfl | rfl <;> rfl) | (rcases hr with rfl | rfl | rfl <;> rfl) | (rcases hr with rfl | rfl | rfl | rfl <;> rfl))
                | (refine And.intro ?_ ?_ <;> simp only [List.length_map, List.length_append, List.length_cons, List.length_nil] <;> omega))
              all_goals try (exfalso; first | (simp at h; done) | (rw [hlen, c3] at h; simp at h; done) | (have h' := of_decide_eq_true h; omega) | (have h' := of_decide_eq_false h; omega) | (rw [hfr] at h; simp at h; done))
            | some f =>
              rw [hwo] at hW1
              have hin := wordOf_some hwo
              have w2 : IntKind.i64.wrap (v.fFp + 1) = v.fFp + 1 := IntWalk.i64_in _ (by omega)
              have hW2 := s_spec_WordOf v (v.fFp + 1)
              match hwo2 : wordOf v (v.fFp + 1) with
              | none =>
                rw [hwo2] at hW2
                repeat' (
                  (conv => whnf)
                  first
                  | refine Or.inl ?_
                  | refine And.intro (Obl.out (?_ : Obl _)) ?_
                  | refine ifB_intro (fun h => ?_) (fun h => ?_)
                  | refine call_intro (hL) (And.intro (And.intro rfl (And.intro rfl (And.intro rfl trivial))) (And.intro rfl trivial)) ?_
                  | refine call_intro (hV) (And.intro (And.intro rfl (And.intro rfl (And.intro rfl (And.intro rfl trivial)))) trivial) ?_
                  | refine ⟨i, (lstRow 4 TRule.tr rl), rfl, map_get hrl2, ?_⟩
                  | refine call_intro (hF) (And.intro rfl (And.intro rfl trivial)) ?_
                  | refine ⟨k, r.tr, rfl, map_get hrr, ?_⟩
                  | refine call_intro (hW1) (And.intro (And.intro rfl (And.intro rfl (And.intro rfl (And.intro rfl trivial)))) (And.intro rfl trivial)) ?_
                  | refine call_intro (hW2) (And.intro (And.intro rfl (And.intro rfl (And.intro rfl (And.intro rfl trivial)))) (And.intro (congrArg (Tr.int _) (by first | rfl | (simp (disch := omega) only [IntWalk.i64_in]; done) | ((try simp (disch := omega) only [IntWalk.i64_in]); omega))) trivial)) ?_
                  | refine Exists.intro _ (And.intro rfl ?_)
                  | ((with_reducible show _ = _); rfl))
                all_goals try (
                  (with_reducible refine Obl.mk ?_)
                  first
                  | ((with_reducible show regOk _ _ = true); kernel_rfl)
                  | ((with_reducible show eqTyOk _ _ = true); kernel_rfl)
                  | rfl
                  | exact trivial
                  | ((repeat' (first | exact trivial | refine And.intro ?_ ?_)); done)
                  | decide
                  | (intro r hr; simp only [List.mem_cons, List.not_mem_nil, or_false] at hr; first | (subst hr; rfl) | (rcases hr with rfl | rfl <;> rfl) | (rcases hr with rfl | rfl | rfl <;> rfl) | (rcases hr with rfl | rfl | rfl | rfl <;> rfl))
                  | (refine And.intro ?_ ?_ <;> simp only [List.length_map, List.length_append, List.length_cons, List.length_nil] <;> omega))
                all_goals try (exfalso; first | (simp at h; done) | (rw [hlen, c3] at h; simp at h; done) | (have h' := of_decide_eq_true h; omega) | (have h' := of_decide_eq_false h; omega) | (rw [hfr] at h; simp at h; done))
              | some pc =>
                rw [hwo2] at hW2
                have hin2 := wordOf_some hwo2
                obtain ⟨n, hn⟩ := Int.eq_ofNat_of_zero_le (show 0 ≤ v.fFp + 2 - v.fSp by omega)
                have hd : (movedV v pc (v.fFp + 2) f).fWords.map intRow = ((v.fWords.map intRow).take (v.fWords.map intRow).length).drop n := by
                  rw [List.take_length, movedV, hn, Int.toNat_natCast, List.map_drop]
                have hsum : IntKind.i64.wrap (IntKind.i64.wrap (v.fFp + 1) + 1) = v.fFp + 2 := by rw [w2, IntWalk.i64_in _ (by omega)]; omega
                repeat' (
                  (conv => whnf)
                  first
                  | refine seq_inl ?_
                  | refine And.intro (Obl.out (?_ : Obl _)) ?_
                  | refine ifB_intro (fun h => ?_) (fun h => ?_)
                  | refine Or.inl (call_intro (hL) (And.intro (And.intro rfl (And.intro rfl (And.intro rfl trivial))) (And.intro rfl trivial)) ?_)
                  | refine Or.inl (call_intro (hV) (And.intro (And.intro rfl (And.intro rfl (And.intro rfl (And.intro rfl trivial)))) trivial) ?_)
                  | refine ⟨i, (lstRow 4 TRule.tr rl), rfl, map_get hrl2, ?_⟩
                  | refine Or.inl (call_intro (hF) (And.intro rfl (And.intro rfl trivial)) ?_)
                  | refine ⟨k, r.tr, rfl, map_get hrr, ?_⟩
                  | refine Or.inl (call_intro (hW1) (And.intro (And.intro rfl (And.intro rfl (And.intro rfl (And.intro rfl trivial)))) (And.intro rfl trivial)) ?_)
                  | refine Or.inl (call_intro (hW2) (And.intro (And.intro rfl (And.intro rfl (And.intro rfl (And.intro rfl trivial)))) (And.intro (congrArg (Tr.int _) (by first | rfl | (simp (disch := omega) only [IntWalk.i64_in]; done) | ((try simp (disch := omega) only [IntWalk.i64_in]); omega))) trivial)) ?_)
                  | refine Exists.intro _ (And.intro rfl ?_)
                  | ((with_reducible show _ = _); rfl))
                all_goals try (
                  (with_reducible refine Obl.mk ?_)
                  first
                  | ((with_reducible show regOk _ _ = true); kernel_rfl)
                  | ((with_reducible show eqTyOk _ _ = true); kernel_rfl)
                  | rfl
                  | exact trivial
                  | ((repeat' (first | exact trivial | refine And.intro ?_ ?_)); done)
                  | decide
                  | (intro r hr; simp only [List.mem_cons, List.not_mem_nil, or_false] at hr; first | (subst hr; rfl) | (rcases hr with rfl | rfl <;> rfl) | (rcases hr with rfl | rfl | rfl <;> rfl) | (rcases hr with rfl | rfl | rfl | rfl <;> rfl))
                  | (refine And.intro ?_ ?_ <;> simp only [List.length_map, List.length_append, List.length_cons, List.length_nil] <;> omega))
                all_goals try (exfalso; first | (simp at h; done) | (rw [hlen, c3] at h; simp at h; done) | (have h' := of_decide_eq_true h; omega) | (have h' := of_decide_eq_false h; omega) | (rw [hfr] at h; simp at h; done))
                conv => whnf
                refine ⟨n, (v.fWords.map intRow).length, ?_, rfl, by simp; omega, Nat.le_refl _, ?_⟩
                · show IntKind.i64.wrap (IntKind.i64.wrap (IntKind.i64.wrap (v.fFp + 1) + 1) - v.fSp) = (n : Int)
                  rw [hsum, IntWalk.i64_in _ (by omega)]; omega
                repeat' (
                  (conv => whnf)
                  first
                  | refine Or.inl ?_
                  | refine And.intro (Obl.out (?_ : Obl _)) ?_
                  | refine ifB_intro (fun h => ?_) (fun h => ?_)
                  | refine Exists.intro _ (And.intro rfl ?_)
                  | ((with_reducible show _ = _); rfl))
                all_goals try (
                  (with_reducible refine Obl.mk ?_)
                  first
                  | ((with_reducible show regOk _ _ = true); kernel_rfl)
                  | ((with_reducible show eqTyOk _ _ = true); kernel_rfl)
                  | rfl
                  | exact trivial
                  | ((repeat' (first | exact trivial | refine And.intro ?_ ?_)); done)
                  | decide
                  | (intro r hr; simp only [List.mem_cons, List.not_mem_nil, or_false] at hr; first | (subst hr; rfl) | (rcases hr with rfl | rfl <;> rfl) | (rcases hr with rfl | rfl | rfl <;> rfl) | (rcases hr with rfl | rfl | rfl | rfl <;> rfl))
                  | (refine And.intro ?_ ?_ <;> simp only [List.length_map, List.length_append, List.length_cons, List.length_nil] <;> omega))
                all_goals try exact ⟨congrArg (Tr.int _) hsum⟩
                all_goals try exact ⟨hd.symm⟩
                all_goals try exact ⟨⟨by simp; omega, by simp; omega⟩⟩
                all_goals try exact ⟨⟨rfl, flat_ints _⟩⟩
    | false =>
      rw [if_neg (by simp)]
      by_cases hp : 0 < v.fPc
      · have hwp : IntKind.i64.wrap (v.fPc - 1) = v.fPc - 1 := IntWalk.i64_in _ (by unfold inI at hpc; omega)
        have hL := s_spec_Locate s (IntKind.i64.wrap (v.fPc - 1)) hs
        rw [hloc] at hL
        have hL : Sim.Spec Try.prog 137 [.agg s.tr, tvI (IntKind.i64.wrap (v.fPc - 1))] (rLoc (loc2 i0 i1 b0 b1 (v.fPc - 1))) := by
          rw [show loc2 i0 i1 b0 b1 (v.fPc - 1) = loc2 i0 i1 b0 b1 (IntKind.i64.wrap (v.fPc - 1)) from by rw [hwp]]; exact hL
        have hb : decide (v.fPc > 0) = true := decide_eq_true hp
        rcases loc2_cases i0 i1 b0 b1 (v.fPc - 1) with hx | ⟨i, off, hi, hx⟩
        · rw [hx] at hL
          have hnone : ruleAt rules (loc2 i0 i1 b0 b1 (v.fPc - 1)) = none := by rw [hx, ruleAt, if_pos (by decide)]
          rw [hnone]
          repeat' (
            (conv => whnf)
            first
            | refine Or.inl ?_
            | refine And.intro (Obl.out (?_ : Obl _)) ?_
            | refine ifB_intro (fun h => ?_) (fun h => ?_)
            | refine call_intro (hL) (And.intro (And.intro rfl (And.intro rfl (And.intro rfl trivial))) (And.intro rfl trivial)) ?_
            | refine Exists.intro _ (And.intro rfl ?_)
            | ((with_reducible show _ = _); rfl))
          all_goals try (
            (with_reducible refine Obl.mk ?_)
            first
            | ((with_reducible show regOk _ _ = true); kernel_rfl)
            | ((with_reducible show eqTyOk _ _ = true); kernel_rfl)
            | rfl
            | exact trivial
            | ((repeat' (first | exact trivial | refine And.intro ?_ ?_)); done)
            | decide
            | (intro r hr; simp only [List.mem_cons, List.not_mem_nil, or_false] at hr; first | (subst hr; rfl) | (rcases hr with rfl | rfl <;> rfl) | (rcases hr with rfl | rfl | rfl <;> rfl) | (rcases hr with rfl | rfl | rfl | rfl <;> rfl))
            | (refine And.intro ?_ ?_ <;> simp only [List.length_map, List.length_append, List.length_cons, List.length_nil] <;> omega))
          all_goals try (exfalso; first | (simp at h; done) | (rw [hlen, c3] at h; simp at h; done) | (have h' := of_decide_eq_true h; omega) | (have h' := of_decide_eq_false h; omega))
        · rw [hx] at hL
          obtain ⟨rl, hrl2⟩ := two_get c3 hi
          have hrs := smallRs_map hr (List.mem_of_getElem? hrl2)
          simp only [lstRow, smallR] at hrs
          have hF := s_spec_FindRule rl off (small_nat hrs.1)
          have hra : ruleAt rules (loc2 i0 i1 b0 b1 (v.fPc - 1)) = if findRule rl off < 0 then none else rl[(findRule rl off).toNat]? := by
            rw [hx, ruleAt, if_neg (by dsimp only; omega), Int.toNat_natCast, hrl2]
          rw [hra]
          have hrg := findRule_range rl off
          generalize findRule rl off = K at *
          rcases hrg with rfl | ⟨hok, k0, k1⟩
          · rw [if_pos (by decide)]
            repeat' (
              (conv => whnf)
              first
              | refine Or.inl ?_
              | refine And.intro (Obl.out (?_ : Obl _)) ?_
              | refine ifB_intro (fun h => ?_) (fun h => ?_)
              | refine call_intro (hL) (And.intro (And.intro rfl (And.intro rfl (And.intro rfl trivial))) (And.intro rfl trivial)) ?_
              | refine call_intro (hV) (And.intro (And.intro rfl (And.intro rfl (And.intro rfl (And.intro rfl trivial)))) trivial) ?_
              | refine ⟨i, (lstRow 4 TRule.tr rl), rfl, map_get hrl2, ?_⟩
              | refine call_intro (hF) (And.intro rfl (And.intro rfl trivial)) ?_
              | refine Exists.intro _ (And.intro rfl ?_)
              | ((with_reducible show _ = _); rfl))
            all_goals try (
              (with_reducible refine Obl.mk ?_)
              first
              | ((with_reducible show regOk _ _ = true); kernel_rfl)
              | ((with_reducible show eqTyOk _ _ = true); kernel_rfl)
              | rfl
              | exact trivial
              | ((repeat' (first | exact trivial | refine And.intro ?_ ?_)); done)
              | decide
              | (intro r hr; simp only [List.mem_cons, List.not_mem_nil, or_false] at hr; first | (subst hr; rfl) | (rcases hr with rfl | rfl <;> rfl) | (rcases hr with rfl | rfl | rfl <;> rfl) | (rcases hr with rfl | rfl | rfl | rfl <;> rfl))
              | (refine And.intro ?_ ?_ <;> simp only [List.length_map, List.length_append, List.length_cons, List.length_nil] <;> omega))
            all_goals try (exfalso; first | (simp at h; done) | (rw [hlen, c3] at h; simp at h; done) | (have h' := of_decide_eq_true h; omega) | (have h' := of_decide_eq_false h; omega))
          · obtain ⟨k, rfl⟩ := Int.eq_ofNat_of_zero_le k0
            obtain ⟨r, hrr⟩ := get_of_lt (l := rl) (k := k) (by omega)
            rw [if_neg (by omega), Int.toNat_natCast, hrr]
            dsimp only
            have hnr := rulesOkF_mem (Int.le_refl 0) hok r (List.mem_of_getElem? hrr)
            unfold nearRule at hnr
            unfold unwindR
            cases hfr : r.fFrame with
            | false =>
              have w1 : IntKind.i64.wrap (v.fSp + r.fDepth) = v.fSp + r.fDepth := IntWalk.i64_in _ (by omega)
              have hW := s_spec_WordOf v (v.fSp + r.fDepth)
              rw [if_neg (by simp)]
              match hwo : wordOf v (v.fSp + r.fDepth) with
              | none =>
                rw [hwo] at hW
                repeat' (
                  (conv => whnf)
                  first
                  | refine Or.inl ?_
                  | refine And.intro (Obl.out (?_ : Obl _)) ?_
                  | refine ifB_intro (fun h => ?_) (fun h => ?_)
                  | refine call_intro (hL) (And.intro (And.intro rfl (And.intro rfl (And.intro rfl trivial))) (And.intro rfl trivial)) ?_
                  | refine call_intro (hV) (And.intro (And.intro rfl (And.intro rfl (And.intro rfl (And.intro rfl trivial)))) trivial) ?_
                  | refine ⟨i, (lstRow 4 TRule.tr rl), rfl, map_get hrl2, ?_⟩
                  | refine call_intro (hF) (And.intro rfl (And.intro rfl trivial)) ?_
                  | refine ⟨k, r.tr, rfl, map_get hrr, ?_⟩
                  | refine call_intro (hW) (And.intro (And.intro rfl (And.intro rfl (And.intro rfl (And.intro rfl trivial)))) (And.intro (congrArg (Tr.int _) (by first | rfl | (simp (disch := omega) only [IntWalk.i64_in]; done) | ((try simp (disch := omega) only [IntWalk.i64_in]); omega))) trivial)) ?_
                  | refine Exists.intro _ (And.intro rfl ?_)
                  | ((with_reducible show _ = _); rfl))
                all_goals try (
                  (with_reducible refine Obl.mk ?_)
                  first
                  | ((with_reducible show regOk _ _ = true); kernel_rfl)
                  | ((with_reducible show eqTyOk _ _ = true); kernel_rfl)
                  | rfl
                  | exact trivial
                  | ((repeat' (first | exact trivial | refine And.intro ?_ ?_)); done)
                  | decide
                  | (intro r hr; simp only [List.mem_cons, List.not_mem_nil, or_false] at hr; first | (subst hr; rfl) | (rcases hr with rfl | rfl <;> rfl) | (rcases hr with rfl | rfl | rfl <;> rfl) | (rcases hr with rfl | rfl | rfl | rfl <;> rfl))
                  | (refine And.intro ?_ ?_ <;> simp only [List.length_map, List.length_append, List.length_cons, List.length_nil] <;> omega))
                all_goals try (exfalso; first | (simp at h; done) | (rw [hlen, c3] at h; simp at h; done) | (have h' := of_decide_eq_true h; omega) | (have h' := of_decide_eq_false h; omega) | (rw [hfr] at h; simp at h; done))
              | some pc =>
                rw [hwo] at hW
                have hin := wordOf_some hwo
                obtain ⟨n, hn⟩ := Int.eq_ofNat_of_zero_le (show 0 ≤ v.fSp + r.fDepth + 1 - v.fSp by omega)
                have hd : (movedV v pc (v.fSp + r.fDepth + 1) v.fFp).fWords.map intRow = ((v.fWords.map intRow).take (v.fWords.map intRow).length).drop n := by
                  rw [List.take_length, movedV, hn, Int.toNat_natCast, List.map_drop]
                have w2 : v.fSp = v.fSp := rfl
                have hsum : IntKind.i64.wrap (IntKind.i64.wrap (v.fSp + r.fDepth) + 1) = v.fSp + r.fDepth + 1 := by rw [w1, IntWalk.i64_in _ (by omega)]
                repeat' (
                  (conv => whnf)
                  first
                  | refine seq_inl ?_
                  | refine And.intro (Obl.out (?_ : Obl _)) ?_
                  | refine ifB_intro (fun h => ?_) (fun h => ?_)
                  | refine Or.inl (call_intro (hL) (And.intro (And.intro rfl (And.intro rfl (And.intro rfl trivial))) (And.intro rfl trivial)) ?_)
                  | refine Or.inl (call_intro (hV) (And.intro (And.intro rfl (And.intro rfl (And.intro rfl (And.intro rfl trivial)))) trivial) ?_)
                  | refine ⟨i, (lstRow 4 TRule.tr rl), rfl, map_get hrl2, ?_⟩
                  | refine Or.inl (call_intro (hF) (And.intro rfl (And.intro rfl trivial)) ?_)
                  | refine ⟨k, r.tr, rfl, map_get hrr, ?_⟩
                  | refine Or.inl (call_intro (hW) (And.intro (And.intro rfl (And.intro rfl (And.intro rfl (And.intro rfl trivial)))) (And.intro (congrArg (Tr.int _) (by first | rfl | (simp (disch := omega) only [IntWalk.i64_in]; done) | ((try simp (disch := omega) only [IntWalk.i64_in]); omega))) trivial)) ?_)
                  | refine Exists.intro _ (And.intro rfl ?_)
                  | ((with_reducible show _ = _); rfl))
                all_goals try (
                  (with_reducible refine Obl.mk ?_)
                  first
                  | ((with_reducible show regOk _ _ = true); kernel_rfl)
                  | ((with_reducible show eqTyOk _ _ = true); kernel_rfl)
                  | rfl
                  | exact trivial
                  | ((repeat' (first | exact trivial | refine And.intro ?_ ?_)); done)
                  | decide
                  | (intro r hr; simp only [List.mem_cons, List.not_mem_nil, or_false] at hr; first | (subst hr; rfl) | (rcases hr with rfl | rfl <;> rfl) | (rcases hr with rfl | rfl | rfl <;> rfl) | (rcases hr with rfl | rfl | rfl | rfl <;> rfl))
                  | (refine And.intro ?_ ?_ <;> simp only [List.length_map, List.length_append, List.length_cons, List.length_nil] <;> omega))
                all_goals try (exfalso; first | (simp at h; done) | (rw [hlen, c3] at h; simp at h; done) | (have h' := of_decide_eq_true h; omega) | (have h' := of_decide_eq_false h; omega) | (rw [hfr] at h; simp at h; done))
                conv => whnf
                refine ⟨n, (v.fWords.map intRow).length, ?_, rfl, by simp; omega, Nat.le_refl _, ?_⟩
                · show IntKind.i64.wrap (IntKind.i64.wrap (IntKind.i64.wrap (v.fSp + r.fDepth) + 1) - v.fSp) = (n : Int)
                  rw [hsum, IntWalk.i64_in _ (by omega)]; omega
                repeat' (
                  (conv => whnf)
                  first
                  | refine Or.inl ?_
                  | refine And.intro (Obl.out (?_ : Obl _)) ?_
                  | refine ifB_intro (fun h => ?_) (fun h => ?_)
                  | refine Exists.intro _ (And.intro rfl ?_)
                  | ((with_reducible show _ = _); rfl))
                all_goals try (
                  (with_reducible refine Obl.mk ?_)
                  first
                  | ((with_reducible show regOk _ _ = true); kernel_rfl)
                  | ((with_reducible show eqTyOk _ _ = true); kernel_rfl)
                  | rfl
                  | exact trivial
                  | ((repeat' (first | exact trivial | refine And.intro ?_ ?_)); done)
                  | decide
                  | (intro r hr; simp only [List.mem_cons, List.not_mem_nil, or_false] at hr; first | (subst hr; rfl) | (rcases hr with rfl | rfl <;> rfl) | (rcases hr with rfl | rfl | rfl <;> rfl) | (rcases hr with rfl | rfl | rfl | rfl <;> rfl))
                  | (refine And.intro ?_ ?_ <;> simp only [List.length_map, List.length_append, List.length_cons, List.length_nil] <;> omega))
                all_goals try exact ⟨congrArg (Tr.int _) hsum⟩
                all_goals try exact ⟨hd.symm⟩
                all_goals try exact ⟨⟨by simp; omega, by simp; omega⟩⟩
                all_goals try exact ⟨⟨rfl, flat_ints _⟩⟩
            | true =>
              rw [if_pos rfl]
              have hW1 := s_spec_WordOf v v.fFp
              match hwo : wordOf v v.fFp with
              | none =>
                rw [hwo] at hW1
                repeat' (
                  (conv => whnf)
                  first
                  | refine Or.inl ?_
                  | refine And.intro (Obl.out (?_ : Obl _)) ?_
                  | refine ifB_intro (fun h => ?_) (fun h => ?_)
                  | refine call_intro (hL) (And.intro (And.intro rfl (And.intro rfl (And.intro rfl trivial))) (And.intro rfl trivial)) ?_
                  | refine call_intro (hV) (And.intro (And.intro rfl (And.intro rfl (And.intro rfl (And.intro rfl trivial)))) trivial) ?_
                  | refine ⟨i, (lstRow 4 TRule.tr rl), rfl, map_get hrl2, ?_⟩
                  | refine call_intro (hF) (And.intro rfl (And.intro rfl trivial)) ?_
                  | refine ⟨k, r.tr, rfl, map_get hrr, ?_⟩
                  | refine call_intro (hW1) (And.intro (And.intro rfl (And.intro rfl (And.intro rfl (And.intro rfl trivial)))) (And.intro rfl trivial)) ?_
                  | refine Exists.intro _ (And.intro rfl ?_)
                  | ((with_reducible show _ = _); rfl))
                all_goals try (
                  (with_reducible refine Obl.mk ?_)
                  first
                  | ((with_reducible show regOk _ _ = true); kernel_rfl)
                  | ((with_reducible show eqTyOk _ _ = true); kernel_rfl)
                  | rfl
                  | exact trivial
                  | ((repeat' (first | exact trivial | refine And.intro ?_ ?_)); done)
                  | decide
                  | (intro r hr; simp only [List.mem_cons, List.not_mem_nil, or_false] at hr; first | (subst hr; rfl) | (rcases hr with rfl | rfl <;> rfl) | (rcases hr with rfl | rfl | rfl <;> rfl) | (rcases hr with rfl | rfl | rfl | rfl <;> rfl))
                  | (refine And.intro ?_ ?_ <;> simp only [List.length_map, List.length_append, List.length_cons, List.length_nil] <;> omega))
                all_goals try (exfalso; first | (simp at h; done) | (rw [hlen, c3] at h; simp at h; done) | (have h' := of_decide_eq_true h; omega) | (have h' := of_decide_eq_false h; omega) | (rw [hfr] at h; simp at h; done))
              | some f =>
                rw [hwo] at hW1
                have hin := wordOf_some hwo
                have w2 : IntKind.i64.wrap (v.fFp + 1) = v.fFp + 1 := IntWalk.i64_in _ (by omega)
                have hW2 := s_spec_WordOf v (v.fFp + 1)
                match hwo2 : wordOf v (v.fFp + 1) with
                | none =>
                  rw [hwo2] at hW2
                  repeat' (
                    (conv => whnf)
                    first
                    | refine Or.inl ?_
                    | refine And.intro (Obl.out (?_ : Obl _)) ?_
                    | refine ifB_intro (fun h => ?_) (fun h => ?_)
                    | refine call_intro (hL) (And.intro (And.intro rfl (And.intro rfl (And.intro rfl trivial))) (And.intro rfl trivial)) ?_
                    | refine call_intro (hV) (And.intro (And.intro rfl (And.intro rfl (And.intro rfl (And.intro rfl trivial)))) trivial) ?_
                    | refine ⟨i, (lstRow 4 TRule.tr rl), rfl, map_get hrl2, ?_⟩
                    | refine call_intro (hF) (And.intro rfl (And.intro rfl trivial)) ?_
                    | refine ⟨k, r.tr, rfl, map_get hrr, ?_⟩
                    | refine call_intro (hW1) (And.intro (And.intro rfl (And.intro rfl (And.intro rfl (And.intro rfl trivial)))) (And.intro rfl trivial)) ?_
                    | refine call_intro (hW2) (And.intro (And.intro rfl (And.intro rfl (And.intro rfl (And.intro rfl trivial)))) (And.intro (congrArg (Tr.int _) (by first | rfl | (simp (disch := omega) only [IntWalk.i64_in]; done) | ((try simp (disch := omega) only [IntWalk.i64_in]); omega))) trivial)) ?_
                    | refine Exists.intro _ (And.intro rfl ?_)
                    | ((with_reducible show _ = _); rfl))
                  all_goals try (
                    (with_reducible refine Obl.mk ?_)
                    first
                    | ((with_reducible show regOk _ _ = true); kernel_rfl)
                    | ((with_reducible show eqTyOk _ _ = true); kernel_rfl)
                    | rfl
                    | exact trivial
                    | ((repeat' (first | exact trivial | refine And.intro ?_ ?_)); done)
                    | decide
                    | (intro r hr; simp only [List.mem_cons, List.not_mem_nil, or_false] at hr; first | (subst hr; rfl) | (rcases hr with rfl | rfl <;> rfl) | (rcases hr with rfl | rfl | rfl <;> rfl) | (rcases hr with rfl | rfl | rfl | rfl <;> rfl))
                    | (refine And.intro ?_ ?_ <;> simp only [List.length_map, List.length_append, List.length_cons, List.length_nil] <;> omega))
                  all_goals try (exfalso; first | (simp at h; done) | (rw [hlen, c3] at h; simp at h; done) | (have h' := of_decide_eq_true h; omega) | (have h' := of_decide_eq_false h; omega) | (rw [hfr] at h; simp at h; done))
                | some pc =>
                  rw [hwo2] at hW2
                  have hin2 := wordOf_some hwo2
                  obtain ⟨n, hn⟩ := Int.eq_ofNat_of_zero_le (show 0 ≤ v.fFp + 2 - v.fSp by omega)
                  have hd : (movedV v pc (v.fFp + 2) f).fWords.map intRow = ((v.fWords.map intRow).take (v.fWords.map intRow).length).drop n := by
                    rw [List.take_length, movedV, hn, Int.toNat_natCast, List.map_drop]
                  have hsum : IntKind.i64.wrap (IntKind.i64.wrap (v.fFp + 1) + 1) = v.fFp + 2 := by rw [w2, IntWalk.i64_in _ (by omega)]; omega
                  repeat' (
                    (conv => whnf)
                    first
                    | refine seq_inl ?_
                    | refine And.intro (Obl.out (?_ : Obl _)) ?_
                    | refine ifB_intro (fun h => ?_) (fun h => ?_)
                    | refine Or.inl (call_intro (hL) (And.intro (And.intro rfl (And.intro rfl (And.intro rfl trivial))) (And.intro rfl trivial)) ?_)
                    | refine Or.inl (call_intro (hV) (And.intro (And.intro rfl (And.intro rfl (And.intro rfl (And.intro rfl trivial)))) trivial) ?_)
                    | refine ⟨i, (lstRow 4 TRule.tr rl), rfl, map_get hrl2, ?_⟩
                    | refine Or.inl (call_intro (hF) (And.intro rfl (And.intro rfl trivial)) ?_)
                    | refine ⟨k, r.tr, rfl, map_get hrr, ?_⟩
                    | refine Or.inl (call_intro (hW1) (And.intro (And.intro rfl (And.intro rfl (And.intro rfl (And.intro rfl trivial)))) (And.intro rfl trivial)) ?_)
                    | refine Or.inl (call_intro (hW2) (And.intro (And.intro rfl (And.intro rfl (And.intro rfl (And.intro rfl trivial)))) (And.intro (congrArg (Tr.int _) (by first | rfl | (simp (disch := omega) only [IntWalk.i64_in]; done) | ((try simp (disch := omega) only [IntWalk.i64_in]); omega))) trivial)) ?_)
                    | refine Exists.intro _ (And.intro rfl ?_)
                    | ((with_reducible show _ = _); rfl))
                  all_goals try (
                    (with_reducible refine Obl.mk ?_)
                    first
                    | ((with_reducible show regOk _ _ = true); kernel_rfl)
                    | ((with_reducible show eqTyOk _ _ = true); kernel_rfl)
                    | rfl
                    | exact trivial
                    | ((repeat' (first | exact trivial | refine And.intro ?_ ?_)); done)
                    | decide
                    | (intro r hr; simp only [List.mem_cons, List.not_mem_nil, or_false] at hr; first | (subst hr; rfl) | (rcases hr with rfl | rfl <;> rfl) | (rcases hr with rfl | rfl | rfl <;> rfl) | (rcases hr with rfl | rfl | rfl | rfl <;> rfl))
                    | (refine And.intro ?_ ?_ <;> simp only [List.length_map, List.length_append, List.length_cons, List.length_nil] <;> omega))
                  all_goals try (exfalso; first | (simp at h; done) | (rw [hlen, c3] at h; simp at h; done) | (have h' := of_decide_eq_true h; omega) | (have h' := of_decide_eq_false h; omega) | (rw [hfr] at h; simp at h; done))
                  conv => whnf
                  refine ⟨n, (v.fWords.map intRow).length, ?_, rfl, by simp; omega, Nat.le_refl _, ?_⟩
                  · show IntKind.i64.wrap (IntKind.i64.wrap (IntKind.i64.wrap (v.fFp + 1) + 1) - v.fSp) = (n : Int)
                    rw [hsum, IntWalk.i64_in _ (by omega)]; omega
                  repeat' (
                    (conv => whnf)
                    first
                    | refine Or.inl ?_
                    | refine And.intro (Obl.out (?_ : Obl _)) ?_
                    | refine ifB_intro (fun h => ?_) (fun h => ?_)
                    | refine Exists.intro _ (And.intro rfl ?_)
                    | ((with_reducible show _ = _); rfl))
                  all_goals try (
                    (with_reducible refine Obl.mk ?_)
                    first
                    | ((with_reducible show regOk _ _ = true); kernel_rfl)
                    | ((with_reducible show eqTyOk _ _ = true); kernel_rfl)
                    | rfl
                    | exact trivial
                    | ((repeat' (first | exact trivial | refine And.intro ?_ ?_)); done)
                    | decide
                    | (intro r hr; simp only [List.mem_cons, List.not_mem_nil, or_false] at hr; first | (subst hr; rfl) | (rcases hr with rfl | rfl <;> rfl) | (rcases hr with rfl | rfl | rfl <;> rfl) | (rcases hr with rfl | rfl | rfl | rfl <;> rfl))
                    | (refine And.intro ?_ ?_ <;> simp only [List.length_map, List.length_append, List.length_cons, List.length_nil] <;> omega))
                  all_goals try exact ⟨congrArg (Tr.int _) hsum⟩
                  all_goals try exact ⟨hd.symm⟩
                  all_goals try exact ⟨⟨by simp; omega, by simp; omega⟩⟩
                  all_goals try exact ⟨⟨rfl, flat_ints _⟩⟩
      · have hL := s_spec_Locate s v.fPc hs
        have hb : decide (v.fPc > 0) = false := decide_eq_false hp
        rw [hloc, loc2_far ⟨p0, p1⟩ ⟨q0, q1⟩ (by omega) (by omega) (.inl (by omega))] at hL
        have hnone : ruleAt rules (loc2 i0 i1 b0 b1 (v.fPc - 1)) = none := by rw [loc2_far ⟨p0, p1⟩ ⟨q0, q1⟩ (by omega) (by omega) (.inl (by omega)), ruleAt, if_pos (by decide)]
        rw [hnone]
        repeat' (
          (conv => whnf)
          first
          | refine Or.inl ?_
          | refine And.intro (Obl.out (?_ : Obl _)) ?_
          | refine ifB_intro (fun h => ?_) (fun h => ?_)
          | refine call_intro (hL) (And.intro (And.intro rfl (And.intro rfl (And.intro rfl trivial))) (And.intro rfl trivial)) ?_
          | refine Exists.intro _ (And.intro rfl ?_)
          | ((with_reducible show _ = _); rfl))
        all_goals try (
          (with_reducible refine Obl.mk ?_)
          first
          | ((with_reducible show regOk _ _ = true); kernel_rfl)
          | ((with_reducible show eqTyOk _ _ = true); kernel_rfl)
          | rfl
          | exact trivial
          | ((repeat' (first | exact trivial | refine And.intro ?_ ?_)); done)
          | decide
          | (intro r hr; simp only [List.mem_cons, List.not_mem_nil, or_false] at hr; first | (subst hr; rfl) | (rcases hr with rfl | rfl <;> rfl) | (rcases hr with rfl | rfl | rfl <;> rfl) | (rcases hr with rfl | rfl | rfl | rfl <;> rfl))
          | (refine And.intro ?_ ?_ <;> simp only [List.length_map, List.length_append, List.length_cons, List.length_nil] <;> omega))
        all_goals try (exfalso; first | (simp at h; done) | (have h' := of_decide_eq_true h; omega) | (rename_i a1; have h' := of_decide_eq_true a1; omega))
  · rw [unw_none hc]
    refine spec_of_W hΓ hmix Try.func60 rfl (by decide) rfl ?_
    have hLg : ∀ a, Sim.Spec Try.prog 137 [.agg s.tr, tvI a] (rLoc (locL s a)) := fun a => s_spec_Locate s a hs
    cases hso : spaceOk s with
    | false =>
      have hl : ∀ a, locL s a = (-1, -1) := by intro a; rw [locL, hso, if_neg (by simp)]
      simp only [hl] at hLg
      repeat' (
        (conv => whnf)
        first
        | refine Or.inl ?_
        | refine And.intro (Obl.out (?_ : Obl _)) ?_
        | refine ifB_intro (fun h => ?_) (fun h => ?_)
        | refine call_intro (hLg _) (And.intro (And.intro rfl (And.intro rfl (And.intro rfl trivial))) (And.intro rfl trivial)) ?_
        | refine Exists.intro _ (And.intro rfl ?_)
        | ((with_reducible show _ = _); rfl))
      all_goals try (
        (with_reducible refine Obl.mk ?_)
        first
        | ((with_reducible show regOk _ _ = true); kernel_rfl)
        | ((with_reducible show eqTyOk _ _ = true); kernel_rfl)
        | rfl
        | exact trivial
        | ((repeat' (first | exact trivial | refine And.intro ?_ ?_)); done)
        | decide
        | (intro r hr; simp only [List.mem_cons, List.not_mem_nil, or_false] at hr; first | (subst hr; rfl) | (rcases hr with rfl | rfl <;> rfl) | (rcases hr with rfl | rfl | rfl <;> rfl) | (rcases hr with rfl | rfl | rfl | rfl <;> rfl))
        | (refine And.intro ?_ ?_ <;> simp only [List.length_map, List.length_append, List.length_cons, List.length_nil] <;> omega))
      all_goals try (exfalso; simp at h; done)
    | true =>
      have hre : rules.length = 2 → viewOk v = false := by
        intro h2
        cases hvo : viewOk v with
        | false => rfl
        | true => exact absurd ⟨hso, hvo, h2⟩ hc
      by_cases h2 : rules.length = 2
      · rw [hre h2] at hV
        repeat' (
          (conv => whnf)
          first
          | refine Or.inl ?_
          | refine And.intro (Obl.out (?_ : Obl _)) ?_
          | refine ifB_intro (fun h => ?_) (fun h => ?_)
          | refine call_intro (hLg _) (And.intro (And.intro rfl (And.intro rfl (And.intro rfl trivial))) (And.intro rfl trivial)) ?_
          | refine call_intro (hV) (And.intro (And.intro rfl (And.intro rfl (And.intro rfl (And.intro rfl trivial)))) trivial) ?_
          | refine Exists.intro _ (And.intro rfl ?_)
          | ((with_reducible show _ = _); rfl))
        all_goals try (
          (with_reducible refine Obl.mk ?_)
          first
          | ((with_reducible show regOk _ _ = true); kernel_rfl)
          | ((with_reducible show eqTyOk _ _ = true); kernel_rfl)
          | rfl
          | exact trivial
          | ((repeat' (first | exact trivial | refine And.intro ?_ ?_)); done)
          | decide
          | (intro r hr; simp only [List.mem_cons, List.not_mem_nil, or_false] at hr; first | (subst hr; rfl) | (rcases hr with rfl | rfl <;> rfl) | (rcases hr with rfl | rfl | rfl <;> rfl) | (rcases hr with rfl | rfl | rfl | rfl <;> rfl))
          | (refine And.intro ?_ ?_ <;> simp only [List.length_map, List.length_append, List.length_cons, List.length_nil] <;> omega))
        all_goals try (exfalso; first | (simp at h; done) | (rw [hlen, h2] at h; simp at h; done))
      · have hne : (((rules.map (lstRow 4 TRule.tr)).length : Int) != 2) = true := by
          rw [hlen, bne_iff_ne]
          intro h3
          exact h2 (by omega)
        repeat' (
          (conv => whnf)
          first
          | refine Or.inl ?_
          | refine And.intro (Obl.out (?_ : Obl _)) ?_
          | refine ifB_intro (fun h => ?_) (fun h => ?_)
          | refine call_intro (hLg _) (And.intro (And.intro rfl (And.intro rfl (And.intro rfl trivial))) (And.intro rfl trivial)) ?_
          | refine call_intro (hV) (And.intro (And.intro rfl (And.intro rfl (And.intro rfl (And.intro rfl trivial)))) trivial) ?_
          | refine Exists.intro _ (And.intro rfl ?_)
          | ((with_reducible show _ = _); rfl))
        all_goals try (
          (with_reducible refine Obl.mk ?_)
          first
          | ((with_reducible show regOk _ _ = true); kernel_rfl)
          | ((with_reducible show eqTyOk _ _ = true); kernel_rfl)
          | rfl
          | exact trivial
          | ((repeat' (first | exact trivial | refine And.intro ?_ ?_)); done)
          | decide
          | (intro r hr; simp only [List.mem_cons, List.not_mem_nil, or_false] at hr; first | (subst hr; rfl) | (rcases hr with rfl | rfl <;> rfl) | (rcases hr with rfl | rfl | rfl <;> rfl) | (rcases hr with rfl | rfl | rfl | rfl <;> rfl))
          | (refine And.intro ?_ ?_ <;> simp only [List.length_map, List.length_append, List.length_cons, List.length_nil] <;> omega))
        all_goals try (exfalso; first | (simp at h; done) | (rename_i a1; first | (rw [hne] at a1; cases a1) | (rw [hne] at h; cases h)))
theorem movedV_good {v : TView} {pc sp fp : Int} (hw : ∀ x ∈ v.fWords, inI x) (hpc : inI pc) (hs : v.fWords.length ≤ 1048576) : inI (movedV v pc sp fp).fPc ∧ (∀ x ∈ (movedV v pc sp fp).fWords, inI x) ∧ (movedV v pc sp fp).fWords.length ≤ 1048576 := by
  refine ⟨hpc, fun x hx => hw x (List.mem_of_mem_drop hx), ?_⟩
  show (v.fWords.drop _).length ≤ _
  rw [List.length_drop]; omega
theorem wordOf_mem {v : TView} {a x : Int} (h : wordOf v a = some x) : x ∈ v.fWords := by
  unfold wordOf at h
  split at h
  · exact List.mem_of_getElem? h
  · cases h
theorem unwind_good {s : TSpace} {rules : List (List TRule)} {v x : TView} {inner : Bool} (hw : ∀ x ∈ v.fWords, inI x) (hs : v.fWords.length ≤ 1048576) (h : unwindStep s rules v inner = some x) : inI x.fPc ∧ (∀ y ∈ x.fWords, inI y) ∧ x.fWords.length ≤ 1048576 := by
  unfold unwindStep at h
  split at h
  · split at h
    · unfold unwindR at h
      split at h
      · split at h
        · rename_i f pc e1 e2
          injection h with h; subst h
          exact movedV_good hw (hw _ (wordOf_mem e2)) hs
        · cases h
      · split at h
        · rename_i pc e1
          injection h with h; subst h
          exact movedV_good hw (hw _ (wordOf_mem e1)) hs
        · cases h
    · cases h
  · cases h
theorem small_View' {v : TView} (h : v.fWords.length ≤ 1048576) : smallR 1048576 v.tr := by
  simp only [TView.tr, smallR]
  exact ⟨by simp [smallT], by simp [smallT], by simp [smallT], small_Ints h, trivial⟩
end Go.Proofs.Ytflolafbblohnaa
