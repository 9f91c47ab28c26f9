/- UnwindStep, Unwind in both texts. -/
import Derived.Test.YtflolafbblohnaaFnsZ
import Derived.Test.YtflolafbblohnaaFnsJ
namespace Go.Proofs.Ytflolafbblohnaa
open Go.Sim
set_option maxRecDepth 100000
set_option maxHeartbeats 4000000
theorem findRuleF_range {off : Int} : ∀ (l : List TRule) (k : Nat), findRuleF off l k = -1 ∨ ((k : Int) ≤ findRuleF off l k ∧ findRuleF off l k < k + l.length)
  | [], k => .inl (by rw [findRuleF])
  | x :: l, k => by
    rw [findRuleF]
    split
    · exact .inr ⟨by omega, by simp only [List.length_cons]; omega⟩
    · rcases findRuleF_range l (k + 1) with h | h
      · exact .inl h
      · exact .inr ⟨by omega, by simp only [List.length_cons]; omega⟩
theorem findRule_range (l : List TRule) (off : Int) : findRule l off = -1 ∨ (rulesOk l = true ∧ 0 ≤ findRule l off ∧ findRule l off < l.length) := by
  unfold findRule
  split
  · rename_i h
    have := findRuleF_range (off := off) l 0
    rcases this with h' | h'
    · exact .inl h'
    · exact .inr ⟨h, by omega, by omega⟩
  · exact .inl rfl
def locS (s : TSpace) (a : Int) : Int × Int := match s.fImages, s.fBases with
  | [i0, i1], [b0, b1] => loc2 i0 i1 b0 b1 a
  | _, _ => (-1, -1)
def movedV (v : TView) (pc sp fp : Int) : TView := ⟨pc, sp, fp, v.fWords.drop (sp - v.fSp).toNat⟩
def unwindR (v : TView) (r : TRule) : Option TView :=
  if r.fFrame then (match wordOf v v.fFp, wordOf v (v.fFp + 1) with
    | some f, some pc => some (movedV v pc (v.fFp + 2) f)
    | _, _ => none)
  else (match wordOf v (v.fSp + r.fDepth) with
    | some pc => some (movedV v pc (v.fSp + r.fDepth + 1) v.fFp)
    | none => none)
def ruleAt (rules : List (List TRule)) (x : Int × Int) : Option TRule :=
  if x.1 < 0 then none else match rules[x.1.toNat]? with
    | some rl => if findRule rl x.2 < 0 then none else rl[(findRule rl x.2).toNat]?
    | none => none
def unwindStep (s : TSpace) (rules : List (List TRule)) (v : TView) (inner : Bool) : Option TView :=
  if spaceOk s = true ∧ viewOk v = true ∧ rules.length = 2 then
    (match ruleAt rules (locS s (if inner then v.fPc else v.fPc - 1)) with
     | some r => unwindR v r
     | none => none)
  else none
theorem wordOf_some {v : TView} {a x : Int} (h : wordOf v a = some x) : viewOk v = true ∧ v.fSp ≤ a ∧ a < v.fSp + v.fWords.length := by
  unfold wordOf at h
  split at h
  · rename_i hc
    have := within_iff.1 hc.2
    exact ⟨hc.1, this.1, by omega⟩
  · cases h
theorem s_impl_moved (v : TView) (pc sp fp : Int) (n : Nat) (h : sp - v.fSp = n) (hn : n ≤ v.fWords.length) (hl : v.fWords.length ≤ 1048576) : Sim.Spec Try.prog 145 [.agg v.tr, tvI pc, tvI sp, tvI fp] (.r (.agg ((movedV v pc sp fp).tr.map resC))) := by
  refine spec_of_W hΓ hmix Try.func145 rfl (by decide) rfl ?_
  have hlen : (v.fWords.map intRow).length = v.fWords.length := by simp
  have hw : IntKind.i64.wrap (sp - v.fSp) = (n : Int) := by rw [IntWalk.i64_in _ (by omega)]; exact h
  have hcv := s_impl_copyView (movedV v pc sp fp) (by simp [movedV]; omega)
  have hd : (movedV v pc sp fp).fWords.map intRow = ((v.fWords.map intRow).take (v.fWords.map intRow).length).drop n := by
    rw [List.take_length, movedV, h, Int.toNat_natCast, List.map_drop]
  repeat' (
    (conv => whnf)
    first
    | refine seq_inl ?_
    | refine And.intro (Obl.out (?_ : Obl _)) ?_
    | refine ifB_intro (fun h => ?_) (fun h => ?_)
    | refine Exists.intro _ (And.intro rfl ?_)
    | ((with_reducible show _ = _); rfl))
  all_goals try (
    (with_reducible refine Obl.mk ?_)
    first
    | ((with_reducible show regOk _ _ = true); kernel_rfl)
    | ((with_reducible show eqTyOk _ _ = true); kernel_rfl)
    | rfl
    | exact trivial
    | ((repeat' (first | exact trivial | refine And.intro ?_ ?_)); done)
    | decide
    | (intro r hr; simp only [List.mem_cons, List.not_mem_nil, or_false] at hr; first | (subst hr; rfl) | (rcases hr with rfl | rfl <;> rfl) | (rcases hr with rfl | rfl | rfl <;> rfl) | (rcases hr with rfl | rfl | rfl | rfl <;> rfl))
    | (refine And.intro ?_ ?_ <;> simp only [List.length_map, List.length_append, List.length_cons, List.length_nil] <;> omega))
  conv => whnf
  refine ⟨n, (v.fWords.map intRow).length, ?_, rfl, by omega, Nat.le_refl _, ?_⟩
  · show (if (((v.fWords.map intRow).length : Nat) : Int) < IntKind.i64.wrap (sp - v.fSp) then (((v.fWords.map intRow).length : Nat) : Int) else IntKind.i64.wrap (sp - v.fSp)) = (n : Int)
    rw [hw, hlen]
    split <;> omega
  repeat' (
    (conv => whnf)
    first
    | refine seq_inl ?_
    | refine And.intro (Obl.out (?_ : Obl _)) ?_
    | refine ifB_intro (fun h => ?_) (fun h => ?_)
    | refine Exists.intro _ (And.intro rfl ?_)
    | ((with_reducible show _ = _); rfl))
  all_goals try (
    (with_reducible refine Obl.mk ?_)
    first
    | ((with_reducible show regOk _ _ = true); kernel_rfl)
    | ((with_reducible show eqTyOk _ _ = true); kernel_rfl)
    | rfl
    | exact trivial
    | ((repeat' (first | exact trivial | refine And.intro ?_ ?_)); done)
    | decide
    | (intro r hr; simp only [List.mem_cons, List.not_mem_nil, or_false] at hr; first | (subst hr; rfl) | (rcases hr with rfl | rfl <;> rfl) | (rcases hr with rfl | rfl | rfl <;> rfl) | (rcases hr with rfl | rfl | rfl | rfl <;> rfl))
    | (refine And.intro ?_ ?_ <;> simp only [List.length_map, List.length_append, List.length_cons, List.length_nil] <;> omega))
  refine Or.inl (call_intro hcv (And.intro (And.intro rfl (And.intro rfl (And.intro rfl (And.intro (congrArg (Tr.lst 1) hd) trivial)))) trivial) ?_)
  repeat' (
    (conv => whnf)
    first
    | refine Or.inl ?_
    | refine And.intro (Obl.out (?_ : Obl _)) ?_
    | refine ifB_intro (fun h => ?_) (fun h => ?_)
    | refine Exists.intro _ (And.intro rfl ?_)
    | ((with_reducible show _ = _); rfl))
  all_goals try (
    (with_reducible refine Obl.mk ?_)
    first
    | ((with_reducible show regOk _ _ = true); kernel_rfl)
    | ((with_reducible show eqTyOk _ _ = true); kernel_rfl)
    | rfl
    | exact trivial
    | ((repeat' (first | exact trivial | refine And.intro ?_ ?_)); done)
    | decide
    | (intro r hr; simp only [List.mem_cons, List.not_mem_nil, or_false] at hr; first | (subst hr; rfl) | (rcases hr with rfl | rfl <;> rfl) | (rcases hr with rfl | rfl | rfl <;> rfl) | (rcases hr with rfl | rfl | rfl | rfl <;> rfl))
    | (refine And.intro ?_ ?_ <;> simp only [List.length_map, List.length_append, List.length_cons, List.length_nil] <;> omega))
theorem loc2_far {i0 i1 : TImage} {b0 b1 a : Int} (hb0 : 1 ≤ b0 ∧ b0 ≤ 1000000) (hb1 : 1 ≤ b1 ∧ b1 ≤ 1000000) (hl0 : i0.fCode.length ≤ 1048576) (hl1 : i1.fCode.length ≤ 1048576) (h : a ≤ 0 ∨ 3000000 ≤ a) : loc2 i0 i1 b0 b1 a = (-1, -1) := by
  rw [loc2, if_neg (by omega), if_neg (by omega)]
theorem loc2_cases (i0 i1 : TImage) (b0 b1 a : Int) : loc2 i0 i1 b0 b1 a = (-1, -1) ∨ ∃ (i : Nat) (off : Int), i < 2 ∧ loc2 i0 i1 b0 b1 a = ((i : Int), off) := by
  unfold loc2
  split
  · exact .inr ⟨0, _, by omega, rfl⟩
  · split
    · exact .inr ⟨1, _, by omega, rfl⟩
    · exact .inl rfl
def oV (o : Option TView) : TView := match o with | some v => v | none => ⟨0, 0, 0, []⟩
theorem two_get {α : Type} {l : List α} {i : Nat} (h : l.length = 2) (hi : i < 2) : ∃ x, l[i]? = some x := get_of_lt (by omega)
theorem unw_none {s : TSpace} {rules : List (List TRule)} {v : TView} {inner : Bool} (h : ¬ (spaceOk s = true ∧ viewOk v = true ∧ rules.length = 2)) : unwindStep s rules v inner = none := by rw [unwindStep, if_neg h]
theorem s_impl_UnwindStep (s : TSpace) (rules : List (List TRule)) (v : TView) (inner : Bool) (hpc : inI v.fPc) (hs : smallR 1048576 s.tr) (hr : smallT 1048576 (.lst 1 (rules.map (lstRow 4 TRule.tr)))) (hv : smallR 1048576 v.tr) : Sim.Spec Try.prog 61 [.agg s.tr, tvL 1 (rules.map (lstRow 4 TRule.tr)), .agg v.tr, tvB inner] (.tup [.agg ((oV (unwindStep s rules v inner)).tr.map resC), .c (.t (.bool (unwindStep s rules v inner).isSome))]) := by
  have hS := s_impl_SpaceOk s hs
  have hV := s_impl_ViewOk v
  have hrl := small_nat hr
  have hlen : (rules.map (lstRow 4 TRule.tr)).length = rules.length := by simp
  have hwl : v.fWords.length ≤ 1048576 := by have := hv; simp only [TView.tr, smallR] at this; exact small_nat this.2.2.2.1
  by_cases hc : spaceOk s = true ∧ viewOk v = true ∧ rules.length = 2
  · obtain ⟨c1, c2, c3⟩ := hc
    rw [c1] at hS
    rw [c2] at hV
    obtain ⟨i0, i1, b0, b1, hsh, ⟨e1, e2⟩, ⟨g0, p0, p1⟩, ⟨g1, q0, q1⟩, _, _⟩ := spaceOk_inv c1
    have l0 := (imageOk_iff.1 g0).1
    have l1 := (imageOk_iff.1 g1).1
    have hvi := viewOk_iff.1 c2
    have hu : unwindStep s rules v inner = (match ruleAt rules (loc2 i0 i1 b0 b1 (if inner then v.fPc else v.fPc - 1)) with | some r => unwindR v r | none => none) := by
      rw [unwindStep, if_pos ⟨c1, c2, c3⟩, hsh, locS]
    obtain ⟨im, bs, es⟩ := s
    dsimp only at hsh
    injection hsh with h1 h2
    subst h1
    subst h2
    rw [hu]
    cases inner with
    | true =>
      rw [if_pos rfl]
      have hL := s_impl_locate i0 i1 b0 b1 v.fPc es (by omega) (by omega) (by omega) (by omega)
      refine spec_of_W hΓ hmix Try.func61 rfl (by decide) rfl ?_
      rcases loc2_cases i0 i1 b0 b1 v.fPc with hx | ⟨i, off, hi, hx⟩
      · rw [hx] at hL
        have hnone : ruleAt rules (loc2 i0 i1 b0 b1 v.fPc) = none := by rw [hx, ruleAt, if_pos (by decide)]
        rw [hnone]
        repeat' (
          (conv => whnf)
          first
          | refine Or.inl ?_
          | refine And.intro (Obl.out (?_ : Obl _)) ?_
          | refine ifB_intro (fun h => ?_) (fun h => ?_)
          | refine call_intro (hS) (And.intro (And.intro rfl (And.intro rfl (And.intro rfl trivial))) trivial) ?_
          | refine call_intro (hV) (And.intro (And.intro rfl (And.intro rfl (And.intro rfl (And.intro rfl trivial)))) trivial) ?_
          | refine call_intro (hL) (And.intro (And.intro rfl (And.intro rfl (And.intro rfl trivial))) (And.intro rfl trivial)) ?_
          | refine Exists.intro _ (And.intro rfl ?_)
          | ((with_reducible show _ = _); rfl))
        all_goals try (
          (with_reducible refine Obl.mk ?_)
          first
          | ((with_reducible show regOk _ _ = true); kernel_rfl)
          | ((with_reducible show eqTyOk _ _ = true); kernel_rfl)
          | rfl
          | exact trivial
          | ((repeat' (first | exact trivial | refine And.intro ?_ ?_)); done)
          | decide
          | (intro r hr; simp only [List.mem_cons, List.not_mem_nil, or_false] at hr; first | (subst hr; rfl) | (rcases hr with rfl | rfl <;> rfl) | (rcases hr with rfl | rfl | rfl <;> rfl) | (rcases hr with rfl | rfl | rfl | rfl <;> rfl))
          | (refine And.intro ?_ ?_ <;> simp only [List.length_map, List.length_append, List.length_cons, List.length_nil] <;> omega))
        all_goals (exfalso; first | (simp at h; done) | (rw [hlen, c3] at h; simp at h; done))
      · rw [hx] at hL
        obtain ⟨rl, hrl2⟩ := two_get c3 hi
        have hrs := smallRs_map hr (List.mem_of_getElem? hrl2)
        simp only [lstRow, smallR] at hrs
        have hF := s_impl_FindRule rl off (small_nat hrs.1)
        have hra : ruleAt rules (loc2 i0 i1 b0 b1 v.fPc) = if findRule rl off < 0 then none else rl[(findRule rl off).toNat]? := by
          rw [hx, ruleAt, if_neg (by dsimp only; omega), Int.toNat_natCast, hrl2]
        rw [hra]
        have hrg := findRule_range rl off
        generalize findRule rl off = K at *
        rcases hrg with rfl | ⟨hok, k0, k1⟩
        · rw [if_pos (by decide)]
          repeat' (
            (conv => whnf)
            first
            | refine Or.inl ?_
            | refine And.intro (Obl.out (?_ : Obl _)) ?_
            | refine ifB_intro (fun h => ?_) (fun h => ?_)
            | refine call_intro (hS) (And.intro (And.intro rfl (And.intro rfl (And.intro rfl trivial))) trivial) ?_
            | refine call_intro (hV) (And.intro (And.intro rfl (And.intro rfl (And.intro rfl (And.intro rfl trivial)))) trivial) ?_
            | refine call_intro (hL) (And.intro (And.intro rfl (And.intro rfl (And.intro rfl trivial))) (And.intro rfl trivial)) ?_
            | refine ⟨i, (lstRow 4 TRule.tr rl), rfl, map_get hrl2, ?_⟩
            | refine call_intro (hF) (And.intro rfl (And.intro rfl trivial)) ?_
            | refine Exists.intro _ (And.intro rfl ?_)
            | ((with_reducible show _ = _); rfl))
          all_goals try (
            (with_reducible refine Obl.mk ?_)
            first
            | ((with_reducible show regOk _ _ = true); kernel_rfl)
            | ((with_reducible show eqTyOk _ _ = true); kernel_rfl)
            | rfl
            | exact trivial
            | ((repeat' (first | exact trivial | refine And.intro ?_ ?_)); done)
            | decide
            | (intro r hr; simp only [List.mem_cons, List.not_mem_nil, or_false] at hr; first | (subst hr; rfl) | (rcases hr with rfl | rfl <;> rfl) | (rcases hr with rfl | rfl | rfl <;> rfl) | (rcases hr with rfl | rfl | rfl | rfl <;> rfl))
            | (refine And.intro ?_ ?_ <;> simp only [List.length_map, List.length_append, List.length_cons, List.length_nil] <;> omega))
          all_goals (exfalso; first | (simp at h; done) | (rw [hlen, c3] at h; simp at h; done) | (have h' := of_decide_eq_true h; omega))
        · obtain ⟨k, rfl⟩ := Int.eq_ofNat_of_zero_le k0
          obtain ⟨r, hrr⟩ := get_of_lt (l := rl) (k := k) (by omega)
          rw [if_neg (by omega), Int.toNat_natCast, hrr]
          dsimp only
          have hnr := rulesOkF_mem (Int.le_refl 0) hok r (List.mem_of_getElem? hrr)
          unfold nearRule at hnr
          unfold unwindR
          cases hfr : r.fFrame with
          | false =>
            have w1 : IntKind.i64.wrap (v.fSp + r.fDepth) = v.fSp + r.fDepth := IntWalk.i64_in _ (by omega)
            have hW := s_impl_WordOf v (v.fSp + r.fDepth)
            rw [if_neg (by simp)]
            match hwo : wordOf v (v.fSp + r.fDepth) with
            | none =>
              rw [hwo] at hW
              repeat' (
                (conv => whnf)
                first
                | refine Or.inl ?_
                | refine And.intro (Obl.out (?_ : Obl _)) ?_
                | refine ifB_intro (fun h => ?_) (fun h => ?_)
                | refine call_intro (hS) (And.intro (And.intro rfl (And.intro rfl (And.intro rfl trivial))) trivial) ?_
                | refine call_intro (hV) (And.intro (And.intro rfl (And.intro rfl (And.intro rfl (And.intro rfl trivial)))) trivial) ?_
                | refine call_intro (hL) (And.intro (And.intro rfl (And.intro rfl (And.intro rfl trivial))) (And.intro rfl trivial)) ?_
                | refine ⟨i, (lstRow 4 TRule.tr rl), rfl, map_get hrl2, ?_⟩
                | refine call_intro (hF) (And.intro rfl (And.intro rfl trivial)) ?_
                | refine ⟨k, r.tr, rfl, map_get hrr, ?_⟩
                | refine call_intro (hW) (And.intro (And.intro rfl (And.intro rfl (And.intro rfl (And.intro rfl trivial)))) (And.intro (congrArg (Tr.int _) (by first | rfl | (simp (disch := omega) only [IntWalk.i64_in]; done) | ((try simp (disch := omega) only [IntWalk.i64_in]); omega))) trivial)) ?_
                | refine Exists.intro _ (And.intro rfl ?_)
                | ((with_reducible show _ = _); rfl))
              all_goals try (
                (with_reducible refine Obl.mk ?_)
                first
                | ((with_reducible show regOk _ _ = true); kernel_rfl)
                | ((with_reducible show eqTyOk _ _ = true); kernel_rfl)
                | rfl
                | exact trivial
                | ((repeat' (first | exact trivial | refine And.intro ?_ ?_)); done)
                | decide
                | (intro r hr; simp only [List.mem_cons, List.not_mem_nil, or_false] at hr; first | (subst hr; rfl) | (rcases hr with rfl | rfl <;> rfl) | (rcases hr with rfl | rfl | rfl <;> rfl) | (rcases hr with rfl | rfl | rfl | rfl <;> rfl))
                | (refine And.intro ?_ ?_ <;> simp only [List.length_map, List.length_append, List.length_cons, List.length_nil] <;> omega))
              all_goals try (exfalso; first | (simp at h; done) | (rw [hlen, c3] at h; simp at h; done) | (have h' := of_decide_eq_true h; omega) | (rw [hfr] at h; simp at h; done))
            | some pc =>
              rw [hwo] at hW
              have hin := wordOf_some hwo
              obtain ⟨n, hn⟩ := Int.eq_ofNat_of_zero_le (show 0 ≤ v.fSp + r.fDepth + 1 - v.fSp by omega)
              have hM := s_impl_moved v pc (v.fSp + r.fDepth + 1) v.fFp n hn (by omega) hwl
              repeat' (
                (conv => whnf)
                first
                | refine Or.inl ?_
                | refine And.intro (Obl.out (?_ : Obl _)) ?_
                | refine ifB_intro (fun h => ?_) (fun h => ?_)
                | refine call_intro (hS) (And.intro (And.intro rfl (And.intro rfl (And.intro rfl trivial))) trivial) ?_
                | refine call_intro (hV) (And.intro (And.intro rfl (And.intro rfl (And.intro rfl (And.intro rfl trivial)))) trivial) ?_
                | refine call_intro (hL) (And.intro (And.intro rfl (And.intro rfl (And.intro rfl trivial))) (And.intro rfl trivial)) ?_
                | refine ⟨i, (lstRow 4 TRule.tr rl), rfl, map_get hrl2, ?_⟩
                | refine call_intro (hF) (And.intro rfl (And.intro rfl trivial)) ?_
                | refine ⟨k, r.tr, rfl, map_get hrr, ?_⟩
                | refine call_intro (hW) (And.intro (And.intro rfl (And.intro rfl (And.intro rfl (And.intro rfl trivial)))) (And.intro (congrArg (Tr.int _) (by first | rfl | (simp (disch := omega) only [IntWalk.i64_in]; done) | ((try simp (disch := omega) only [IntWalk.i64_in]); omega))) trivial)) ?_
                | refine call_intro (hM) (And.intro (And.intro rfl (And.intro rfl (And.intro rfl (And.intro rfl trivial)))) (And.intro rfl (And.intro (congrArg (Tr.int _) (by first | rfl | (simp (disch := omega) only [IntWalk.i64_in]; done) | ((try simp (disch := omega) only [IntWalk.i64_in]); omega))) (And.intro rfl trivial)))) ?_
                | refine Exists.intro _ (And.intro rfl ?_)
                | ((with_reducible show _ = _); rfl))
              all_goals try (
                (with_reducible refine Obl.mk ?_)
                first
                | ((with_reducible show regOk _ _ = true); kernel_rfl)
                | ((with_reducible show eqTyOk _ _ = true); kernel_rfl)
                | rfl
                | exact trivial
                | ((repeat' (first | exact trivial | refine And.intro ?_ ?_)); done)
                | decide
                | (intro r hr; simp only [List.mem_cons, List.not_mem_nil, or_false] at hr; first | (subst hr; rfl) | (rcases hr with rfl | rfl <;> rfl) | (rcases hr with rfl | rfl | rfl <;> rfl) | (rcases hr with rfl | rfl | rfl | rfl <;> rfl))
                | (refine And.intro ?_ ?_ <;> simp only [List.length_map, List.length_append, List.length_cons, List.length_nil] <;> omega))
              all_goals try (exfalso; first | (simp at h; done) | (rw [hlen, c3] at h; simp at h; done) | (have h' := of_decide_eq_true h; omega) | (rw [hfr] at h; simp at h; done))
          | true =>
            rw [if_pos rfl]
            have hW1 := s_impl_WordOf v v.fFp
            have hW2 := s_impl_WordOf v (IntKind.i64.wrap (v.fFp + 1))
            match hwo : wordOf v v.fFp with
            | none =>
              rw [hwo] at hW1
              generalize wordOf v (IntKind.i64.wrap (v.fFp + 1)) = Z at hW2
              repeat' (
                (conv => whnf)
                first
                | refine Or.inl ?_
                | refine And.intro (Obl.out (?_ : Obl _)) ?_
                | refine ifB_intro (fun h => ?_) (fun h => ?_)
                | refine call_intro (hS) (And.intro (And.intro rfl (And.intro rfl (And.intro rfl trivial))) trivial) ?_
                | refine call_intro (hV) (And.intro (And.intro rfl (And.intro rfl (And.intro rfl (And.intro rfl trivial)))) trivial) ?_
                | refine call_intro (hL) (And.intro (And.intro rfl (And.intro rfl (And.intro rfl trivial))) (And.intro rfl trivial)) ?_
                | refine ⟨i, (lstRow 4 TRule.tr rl), rfl, map_get hrl2, ?_⟩
                | refine call_intro (hF) (And.intro rfl (And.intro rfl trivial)) ?_
                | refine ⟨k, r.tr, rfl, map_get hrr, ?_⟩
                | refine call_intro (hW1) (And.intro (And.intro rfl (And.intro rfl (And.intro rfl (And.intro rfl trivial)))) (And.intro rfl trivial)) ?_
                | refine call_intro (hW2) (And.intro (And.intro rfl (And.intro rfl (And.intro rfl (And.intro rfl trivial)))) (And.intro rfl trivial)) ?_
                | refine Exists.intro _ (And.intro rfl ?_)
                | ((with_reducible show _ = _); rfl))
              all_goals try (
                (with_reducible refine Obl.mk ?_)
                first
                | ((with_reducible show regOk _ _ = true); kernel_rfl)
                | ((with_reducible show eqTyOk _ _ = true); kernel_rfl)
                | rfl
                | exact trivial
                | ((repeat' (first | exact trivial | refine And.intro ?_ ?_)); done)
                | decide
                | (intro r hr; simp only [List.mem_cons, List.not_mem_nil, or_false] at hr; first | (subst hr; rfl) | (rcases hr with rfl | rfl <;> rfl) | (rcases hr with rfl | rfl | rfl <;> rfl) | (rcases hr with rfl | rfl | rfl | rfl <;> rfl))
                | (refine And.intro ?_ ?_ <;> simp only [List.length_map, List.length_append, List.length_cons, List.length_nil] <;> omega))
              all_goals try (exfalso; first | (simp at h; done) | (rw [hlen, c3] at h; simp at h; done) | (have h' := of_decide_eq_true h; omega) | (rw [hfr] at h; simp at h; done))
            | some f =>
              rw [hwo] at hW1
              have hin := wordOf_some hwo
              have w2 : IntKind.i64.wrap (v.fFp + 1) = v.fFp + 1 := IntWalk.i64_in _ (by omega)
              rw [w2] at hW2
              match hwo2 : wordOf v (v.fFp + 1) with
              | none =>
                rw [hwo2] at hW2
                repeat' (
                  (conv => whnf)
                  first
                  | refine Or.inl ?_
                  | refine And.intro (Obl.out (?_ : Obl _)) ?_
                  | refine ifB_intro (fun h => ?_) (fun h => ?_)
                  | refine call_intro (hS) (And.intro (And.intro rfl (And.intro rfl (And.intro rfl trivial))) trivial) ?_
                  | refine call_intro (hV) (And.intro (And.intro rfl (And.intro rfl (And.intro rfl (And.intro rfl trivial)))) trivial) ?_
                  | refine call_intro (hL) (And.intro (And.intro rfl (And.intro rfl (And.intro rfl trivial))) (And.intro rfl trivial)) ?_
                  | refine ⟨i, (lstRow 4 TRule.tr rl), rfl, map_get hrl2, ?_⟩
                  | refine call_intro (hF) (And.intro rfl (And.intro rfl trivial)) ?_
                  | refine ⟨k, r.tr, rfl, map_get hrr, ?_⟩
                  | refine call_intro (hW1) (And.intro (And.intro rfl (And.intro rfl (And.intro rfl (And.intro rfl trivial)))) (And.intro rfl trivial)) ?_
                  | refine call_intro (hW2) (And.intro (And.intro rfl (And.intro rfl (And.intro rfl (And.intro rfl trivial)))) (And.intro (congrArg (Tr.int _) (by first | rfl | (simp (disch := omega) only [IntWalk.i64_in]; done) | ((try simp (disch := omega) only [IntWalk.i64_in]); omega))) trivial)) ?_
                  | refine Exists.intro _ (And.intro rfl ?_)
                  | ((with_reducible show _ = _); rfl))
                all_goals try (
                  (with_reducible refine Obl.mk ?_)
                  first
                  | ((with_reducible show regOk _ _ = true); kernel_rfl)
                  | ((with_reducible show eqTyOk _ _ = true); kernel_rfl)
                  | rfl
                  | exact trivial
                  | ((repeat' (first | exact trivial | refine And.intro ?_ ?_)); done)
                  | decide
                  | (intro r hr; simp only [List.mem_cons, List.not_mem_nil, or_false] at hr; first | (subst hr; rfl) | (rcases hr with rfl | rfl <;> rfl) | (rcases hr with rfl | rfl | rfl <;> rfl) | (rcases hr with rfl | rfl | rfl | rfl <;> rfl))
                  | (refine And.intro ?_ ?_ <;> simp only [List.length_map, List.length_append, List.length_cons, List.length_nil] <;> omega))
                all_goals try (exfalso; first | (simp at h; done) | (rw [hlen, c3] at h; simp at h; done) | (have h' := of_decide_eq_true h; omega) | (rw [hfr] at h; simp at h; done))
              | some pc =>
                rw [hwo2] at hW2
                have hin2 := wordOf_some hwo2
                obtain ⟨n, hn⟩ := Int.eq_ofNat_of_zero_le (show 0 ≤ v.fFp + 2 - v.fSp by omega)
                have hM := s_impl_moved v pc (v.fFp + 2) f n hn (by omega) hwl
                repeat' (
                  (conv => whnf)
                  first
                  | refine Or.inl ?_
                  | refine And.intro (Obl.out (?_ : Obl _)) ?_
                  | refine ifB_intro (fun h => ?_) (fun h => ?_)
                  | refine call_intro (hS) (And.intro (And.intro rfl (And.intro rfl (And.intro rfl trivial))) trivial) ?_
                  | refine call_intro (hV) (And.intro (And.intro rfl (And.intro rfl (And.intro rfl (And.intro rfl trivial)))) trivial) ?_
                  | refine call_intro (hL) (And.intro (And.intro rfl (And.intro rfl (And.intro rfl trivial))) (And.intro rfl trivial)) ?_
                  | refine ⟨i, (lstRow 4 TRule.tr rl), rfl, map_get hrl2, ?_⟩
                  | refine call_intro (hF) (And.intro rfl (And.intro rfl trivial)) ?_
                  | refine ⟨k, r.tr, rfl, map_get hrr, ?_⟩
                  | refine call_intro (hW1) (And.intro (And.intro rfl (And.intro rfl (And.intro rfl (And.intro rfl trivial)))) (And.intro rfl trivial)) ?_
                  | refine call_intro (hW2) (And.intro (And.intro rfl (And.intro rfl (And.intro rfl (And.intro rfl trivial)))) (And.intro (congrArg (Tr.int _) (by first | rfl | (simp (disch := omega) only [IntWalk.i64_in]; done) | ((try simp (disch := omega) only [IntWalk.i64_in]); omega))) trivial)) ?_
                  | refine call_intro (hM) (And.intro (And.intro rfl (And.intro rfl (And.intro rfl (And.intro rfl trivial)))) (And.intro rfl (And.intro (congrArg (Tr.int _) (by first | rfl | (simp (disch := omega) only [IntWalk.i64_in]; done) | ((try simp (disch := omega) only [IntWalk.i64_in]); omega))) (And.intro rfl trivial)))) ?_
                  | refine Exists.intro _ (And.intro rfl ?_)
                  | ((with_reducible show _ = _); rfl))
                all_goals try (
                  (with_reducible refine Obl.mk ?_)
                  first
                  | ((with_reducible show regOk _ _ = true); kernel_rfl)
                  | ((with_reducible show eqTyOk _ _ = true); kernel_rfl)
                  | rfl
                  | exact trivial
                  | ((repeat' (first | exact trivial | refine And.intro ?_ ?_)); done)
                  | decide
                  | (intro r hr; simp only [List.mem_cons, List.not_mem_nil, or_false] at hr; first | (subst hr; rfl) | (rcases hr with rfl | rfl <;> rfl) | (rcases hr with rfl | rfl | rfl <;> rfl) | (rcases hr with rfl | rfl | rfl | rfl <;> rfl))
                  | (refine And.intro ?_ ?_ <;> simp only [List.length_map, List.length_append, List.length_cons, List.length_nil] <;> omega))
                all_goals try (exfalso; first | (simp at h; done) | (rw [hlen, c3] at h; simp at h; done) | (have h' := of_decide_eq_true h; omega) | (rw [hfr] at h; simp at h; done))
    | false =>
      rw [if_neg (by simp)]
      have hloc : loc2 i0 i1 b0 b1 (IntKind.i64.wrap (v.fPc - 1)) = loc2 i0 i1 b0 b1 (v.fPc - 1) := by
        obtain ⟨d1, d2⟩ := hpc
        rcases Int.lt_or_le (-9223372036854775808) v.fPc with hp | hp
        · rw [IntWalk.i64_in _ (by omega)]
        · have : v.fPc = -9223372036854775808 := by omega
          rw [this, show IntKind.i64.wrap (-9223372036854775808 - 1) = 9223372036854775807 by decide, loc2_far (a := 9223372036854775807) ⟨p0, p1⟩ ⟨q0, q1⟩ (by omega) (by omega) (.inr (by omega)), loc2_far ⟨p0, p1⟩ ⟨q0, q1⟩ (by omega) (by omega) (.inl (by omega))]
      have hL := s_impl_locate i0 i1 b0 b1 (IntKind.i64.wrap (v.fPc - 1)) es (by omega) (by omega) (by omega) (by omega)
      rw [hloc] at hL
      refine spec_of_W hΓ hmix Try.func61 rfl (by decide) rfl ?_
      rcases loc2_cases i0 i1 b0 b1 (v.fPc - 1) with hx | ⟨i, off, hi, hx⟩
      · rw [hx] at hL
        have hnone : ruleAt rules (loc2 i0 i1 b0 b1 (v.fPc - 1)) = none := by rw [hx, ruleAt, if_pos (by decide)]
        rw [hnone]
        repeat' (
          (conv => whnf)
          first
          | refine Or.inl ?_
          | refine And.intro (Obl.out (?_ : Obl _)) ?_
          | refine ifB_intro (fun h => ?_) (fun h => ?_)
          | refine call_intro (hS) (And.intro (And.intro rfl (And.intro rfl (And.intro rfl trivial))) trivial) ?_
          | refine call_intro (hV) (And.intro (And.intro rfl (And.intro rfl (And.intro rfl (And.intro rfl trivial)))) trivial) ?_
          | refine call_intro (hL) (And.intro (And.intro rfl (And.intro rfl (And.intro rfl trivial))) (And.intro rfl trivial)) ?_
          | refine Exists.intro _ (And.intro rfl ?_)
          | ((with_reducible show _ = _); rfl))
        all_goals try (
          (with_reducible refine Obl.mk ?_)
          first
          | ((with_reducible show regOk _ _ = true); kernel_rfl)
          | ((with_reducible show eqTyOk _ _ = true); kernel_rfl)
          | rfl
          | exact trivial
          | ((repeat' (first | exact trivial | refine And.intro ?_ ?_)); done)
          | decide
          | (intro r hr; simp only [List.mem_cons, List.not_mem_nil, or_false] at hr; first | (subst hr; rfl) | (rcases hr with rfl | rfl <;> rfl) | (rcases hr with rfl | rfl | rfl <;> rfl) | (rcases hr with rfl | rfl | rfl | rfl <;> rfl))
          | (refine And.intro ?_ ?_ <;> simp only [List.length_map, List.length_append, List.length_cons, List.length_nil] <;> omega))
        all_goals (exfalso; first | (simp at h; done) | (rw [hlen, c3] at h; simp at h; done))
      · rw [hx] at hL
        obtain ⟨rl, hrl2⟩ := two_get c3 hi
        have hrs := smallRs_map hr (List.mem_of_getElem? hrl2)
        simp only [lstRow, smallR] at hrs
        have hF := s_impl_FindRule rl off (small_nat hrs.1)
        have hra : ruleAt rules (loc2 i0 i1 b0 b1 (v.fPc - 1)) = if findRule rl off < 0 then none else rl[(findRule rl off).toNat]? := by
          rw [hx, ruleAt, if_neg (by dsimp only; omega), Int.toNat_natCast, hrl2]
        rw [hra]
        have hrg := findRule_range rl off
        generalize findRule rl off = K at *
        rcases hrg with rfl | ⟨hok, k0, k1⟩
        · rw [if_pos (by decide)]
          repeat' (
            (conv => whnf)
            first
            | refine Or.inl ?_
            | refine And.intro (Obl.out (?_ : Obl _)) ?_
            | refine ifB_intro (fun h => ?_) (fun h => ?_)
            | refine call_intro (hS) (And.intro (And.intro rfl (And.intro rfl (And.intro rfl trivial))) trivial) ?_
            | refine call_intro (hV) (And.intro (And.intro rfl (And.intro rfl (And.intro rfl (And.intro rfl trivial)))) trivial) ?_
            | refine call_intro (hL) (And.intro (And.intro rfl (And.intro rfl (And.intro rfl trivial))) (And.intro rfl trivial)) ?_
            | refine ⟨i, (lstRow 4 TRule.tr rl), rfl, map_get hrl2, ?_⟩
            | refine call_intro (hF) (And.intro rfl (And.intro rfl trivial)) ?_
            | refine Exists.intro _ (And.intro rfl ?_)
            | ((with_reducible show _ = _); rfl))
          all_goals try (
            (with_reducible refine Obl.mk ?_)
            first
            | ((with_reducible show regOk _ _ = true); kernel_rfl)
            | ((with_reducible show eqTyOk _ _ = true); kernel_rfl)
            | rfl
            | exact trivial
            | ((repeat' (first | exact trivial | refine And.intro ?_ ?_)); done)
            | decide
            | (intro r hr; simp only [List.mem_cons, List.not_mem_nil, or_false] at hr; first | (subst hr; rfl) | (rcases hr with rfl | rfl <;> rfl) | (rcases hr with rfl | rfl | rfl <;> rfl) | (rcases hr with rfl | rfl | rfl | rfl <;> rfl))
            | (refine And.intro ?_ ?_ <;> simp only [List.length_map, List.length_append, List.length_cons, List.length_nil] <;> omega))
          all_goals (exfalso; first | (simp at h; done) | (rw [hlen, c3] at h; simp at h; done) | (have h' := of_decide_eq_true h; omega))
        · obtain ⟨k, rfl⟩ := Int.eq_ofNat_of_zero_le k0
          obtain ⟨r, hrr⟩ := get_of_lt (l := rl) (k := k) (by omega)
          rw [if_neg (by omega), Int.toNat_natCast, hrr]
          dsimp only
          have hnr := rulesOkF_mem (Int.le_refl 0) hok r (List.mem_of_getElem? hrr)
          unfold nearRule at hnr
          unfold unwindR
          cases hfr : r.fFrame with
          | false =>
            have w1 : IntKind.i64.wrap (v.fSp + r.fDepth) = v.fSp + r.fDepth := IntWalk.i64_in _ (by omega)
            have hW := s_impl_WordOf v (v.fSp + r.fDepth)
            rw [if_neg (by simp)]
            match hwo : wordOf v (v.fSp + r.fDepth) with
            | none =>
              rw [hwo] at hW
              repeat' (
                (conv => whnf)
                first
                | refine Or.inl ?_
                | refine And.intro (Obl.out (?_ : Obl _)) ?_
                | refine ifB_intro (fun h => ?_) (fun h => ?_)
                | refine call_intro (hS) (And.intro (And.intro rfl (And.intro rfl (And.intro rfl trivial))) trivial) ?_
                | refine call_intro (hV) (And.intro (And.intro rfl (And.intro rfl (And.intro rfl (And.intro rfl trivial)))) trivial) ?_
                | refine call_intro (hL) (And.intro (And.intro rfl (And.intro rfl (And.intro rfl trivial))) (And.intro rfl trivial)) ?_
                | refine ⟨i, (lstRow 4 TRule.tr rl), rfl, map_get hrl2, ?_⟩
                | refine call_intro (hF) (And.intro rfl (And.intro rfl trivial)) ?_
                | refine ⟨k, r.tr, rfl, map_get hrr, ?_⟩
                | refine call_intro (hW) (And.intro (And.intro rfl (And.intro rfl (And.intro rfl (And.intro rfl trivial)))) (And.intro (congrArg (Tr.int _) (by first | rfl | (simp (disch := omega) only [IntWalk.i64_in]; done) | ((try simp (disch := omega) only [IntWalk.i64_in]); omega))) trivial)) ?_
                | refine Exists.intro _ (And.intro rfl ?_)
                | ((with_reducible show _ = _); rfl))
              all_goals try (
                (with_reducible refine Obl.mk ?_)
                first
                | ((with_reducible show regOk _ _ = true); kernel_rfl)
                | ((with_reducible show eqTyOk _ _ = true); kernel_rfl)
                | rfl
                | exact trivial
                | ((repeat' (first | exact trivial | refine And.intro ?_ ?_)); done)
                | decide
                | (intro r hr; simp only [List.mem_cons, List.not_mem_nil, or_false] at hr; first | (subst hr; rfl) | (rcases hr with rfl | rfl <;> rfl) | (rcases hr with rfl | rfl | rfl <;> rfl) | (rcases hr with rfl | rfl | rfl | rfl <;> rfl))
                | (refine And.intro ?_ ?_ <;> simp only [List.length_map, List.length_append, List.length_cons, List.length_nil] <;> omega))
              all_goals try (exfalso; first | (simp at h; done) | (rw [hlen, c3] at h; simp at h; done) | (have h' := of_decide_eq_true h; omega) | (rw [hfr] at h; simp at h; done))
            | some pc =>
              rw [hwo] at hW
              have hin := wordOf_some hwo
              obtain ⟨n, hn⟩ := Int.eq_ofNat_of_zero_le (show 0 ≤ v.fSp + r.fDepth + 1 - v.fSp by omega)
              have hM := s_impl_moved v pc (v.fSp + r.fDepth + 1) v.fFp n hn (by omega) hwl
              repeat' (
                (conv => whnf)
                first
                | refine Or.inl ?_
                | refine And.intro (Obl.out (?_ : Obl _)) ?_
                | refine ifB_intro (fun h => ?_) (fun h => ?_)
                | refine call_intro (hS) (And.intro (And.intro rfl (And.intro rfl (And.intro rfl trivial))) trivial) ?_
                | refine call_intro (hV) (And.intro (And.intro rfl (And.intro rfl (And.intro rfl (And.intro rfl trivial)))) trivial) ?_
                | refine call_intro (hL) (And.intro (And.intro rfl (And.intro rfl (And.intro rfl trivial))) (And.intro rfl trivial)) ?_
                | refine ⟨i, (lstRow 4 TRule.tr rl), rfl, map_get hrl2, ?_⟩
                | refine call_intro (hF) (And.intro rfl (And.intro rfl trivial)) ?_
                | refine ⟨k, r.tr, rfl, map_get hrr, ?_⟩
                | refine call_intro (hW) (And.intro (And.intro rfl (And.intro rfl (And.intro rfl (And.intro rfl trivial)))) (And.intro (congrArg (Tr.int _) (by first | rfl | (simp (disch := omega) only [IntWalk.i64_in]; done) | ((try simp (disch := omega) only [IntWalk.i64_in]); omega))) trivial)) ?_
                | refine call_intro (hM) (And.intro (And.intro rfl (And.intro rfl (And.intro rfl (And.intro rfl trivial)))) (And.intro rfl (And.intro (congrArg (Tr.int _) (by first | rfl | (simp (disch := omega) only [IntWalk.i64_in]; done) | ((try simp (disch := omega) only [IntWalk.i64_in]); omega))) (And.intro rfl trivial)))) ?_
                | refine Exists.intro _ (And.intro rfl ?_)
                | ((with_reducible show _ = _); rfl))
              all_goals try (
                (with_reducible refine Obl.mk ?_)
                first
                | ((with_reducible show regOk _ _ = true); kernel_rfl)
                | ((with_reducible show eqTyOk _ _ = true); kernel_rfl)
                | rfl
                | exact trivial
                | ((repeat' (first | exact trivial | refine And.intro ?_ ?_)); done)
                | decide
                | (intro r hr; simp only [List.mem_cons, List.not_mem_nil, or_false] at hr; first | (subst hr; rfl) | (rcases hr with rfl | rfl <;> rfl) | (rcases hr with rfl | rfl | rfl <;> rfl) | (rcases hr with rfl | rfl | rfl | rfl <;> rfl))
                | (refine And.intro ?_ ?_ <;> simp only [List.length_map, List.length_append, List.length_cons, List.length_nil] <;> omega))
              all_goals try (exfalso; first | (simp at h; done) | (rw [hlen, c3] at h; simp at h; done) | (have h' := of_decide_eq_true h; omega) | (rw [hfr] at h; simp at h; done))
          | true =>
            rw [if_pos rfl]
            have hW1 := s_impl_WordOf v v.fFp
            have hW2 := s_impl_WordOf v (IntKind.i64.wrap (v.fFp + 1))
            match hwo : wordOf v v.fFp with
            | none =>
              rw [hwo] at hW1
              generalize wordOf v (IntKind.i64.wrap (v.fFp + 1)) = Z at hW2
              repeat' (
                (conv => whnf)
                first
                | refine Or.inl ?_
                | refine And.intro (Obl.out (?_ : Obl _)) ?_
                | refine ifB_intro (fun h => ?_) (fun h => ?_)
                | refine call_intro (hS) (And.intro (And.intro rfl (And.intro rfl (And.intro rfl trivial))) trivial) ?_
                | refine call_intro (hV) (And.intro (And.intro rfl (And.intro rfl (And.intro rfl (And.intro rfl trivial)))) trivial) ?_
                | refine call_intro (hL) (And.intro (And.intro rfl (And.intro rfl (And.intro rfl trivial))) (And.intro rfl trivial)) ?_
                | refine ⟨i, (lstRow 4 TRule.tr rl), rfl, map_get hrl2, ?_⟩
                | refine call_intro (hF) (And.intro rfl (And.intro rfl trivial)) ?_
                | refine ⟨k, r.tr, rfl, map_get hrr, ?_⟩
                | refine call_intro (hW1) (And.intro (And.intro rfl (And.intro rfl (And.intro rfl (And.intro rfl trivial)))) (And.intro rfl trivial)) ?_
                | refine call_intro (hW2) (And.intro (And.intro rfl (And.intro rfl (And.intro rfl (And.intro rfl trivial)))) (And.intro rfl trivial)) ?_
                | refine Exists.intro _ (And.intro rfl ?_)
                | ((with_reducible show _ = _); rfl))
              all_goals try (
                (with_reducible refine Obl.mk ?_)
                first
                | ((with_reducible show regOk _ _ = true); kernel_rfl)
                | ((with_reducible show eqTyOk _ _ = true); kernel_rfl)
                | rfl
                | exact trivial
                | ((repeat' (first | exact trivial | refine And.intro ?_ ?_)); done)
                | decide
                | (intro r hr; simp only [List.mem_cons, List.not_mem_nil, or_false] at hr; first | (subst hr; rfl) | (rcases hr with rfl | rfl <;> rfl) | (rcases hr with rfl | rfl | rfl <;> rfl) | (rcases hr with rfl | rfl | rfl | rfl <;> rfl))
                | (refine And.intro ?_ ?_ <;> simp only [List.length_map, List.length_append, List.length_cons, List.length_nil] <;> omega))
              all_goals try (exfalso; first | (simp at h; done) | (rw [hlen, c3] at h; simp at h; done) | (have h' := of_decide_eq_true h; omega) | (rw [hfr] at h; simp at h; done))
            | some f =>
              rw [hwo] at hW1
              have hin := wordOf_some hwo
              have w2 : IntKind.i64.wrap (v.fFp + 1) = v.fFp + 1 := IntWalk.i64_in _ (by omega)
              rw [w2] at hW2
              match hwo2 : wordOf v (v.fFp + 1) with
              | none =>
                rw [hwo2] at hW2
                repeat' (
                  (conv => whnf)
                  first
                  | refine Or.inl ?_
                  | refine And.intro (Obl.out (?_ : Obl _)) ?_
                  | refine ifB_intro (fun h => ?_) (fun h => ?_)
                  | refine call_intro (hS) (And.intro (And.intro rfl (And.intro rfl (And.intro rfl trivial))) trivial) ?_
                  | refine call_intro (hV) (And.intro (And.intro rfl (And.intro rfl (And.intro rfl (And.intro rfl trivial)))) trivial) ?_
                  | refine call_intro (hL) (And.intro (And.intro rfl (And.intro rfl (And.intro rfl trivial))) (And.intro rfl trivial)) ?_
                  | refine ⟨i, (lstRow 4 TRule.tr rl), rfl, map_get hrl2, ?_⟩
                  | refine call_intro (hF) (And.intro rfl (And.intro rfl trivial)) ?_
                  | refine ⟨k, r.tr, rfl, map_get hrr, ?_⟩
                  | refine call_intro (hW1) (And.intro (And.intro rfl (And.intro rfl (And.intro rfl (And.intro rfl trivial)))) (And.intro rfl trivial)) ?_
                  | refine call_intro (hW2) (And.intro (And.intro rfl (And.intro rfl (And.intro rfl (And.intro rfl trivial)))) (And.intro (congrArg (Tr.int _) (by first | rfl | (simp (disch := omega) only [IntWalk.i64_in]; done) | ((try simp (disch := omega) only [IntWalk.i64_in]); omega))) trivial)) ?_
                  | refine Exists.intro _ (And.intro rfl ?_)
                  | ((with_reducible show _ = _); rfl))
                all_goals try (
                  (with_reducible refine Obl.mk ?_)
                  first
                  | ((with_reducible show regOk _ _ = true); kernel_rfl)
                  | ((with_reducible show eqTyOk _ _ = true); kernel_rfl)
                  | rfl
                  | exact trivial
                  | ((repeat' (first | exact trivial | refine And.intro ?_ ?_)); done)
                  | decide
                  | (intro r hr; simp only [List.mem_cons, List.not_mem_nil, or_false] at hr; first | (subst hr; rfl) | (rcases hr with rfl | rfl <;> rfl) | (rcases hr with rfl | rfl | rfl <;> rfl) | (rcases hr with rfl | rfl | rfl | rfl <;> rfl))
                  | (refine And.intro ?_ ?_ <;> simp only [List.length_map, List.length_append, List.length_cons, List.length_nil] <;> omega))
                all_goals try (exfalso; first | (simp at h; done) | (rw [hlen, c3] at h; simp at h; done) | (have h' := of_decide_eq_true h; omega) | (rw [hfr] at h; simp at h; done))
              | some pc =>
                rw [hwo2] at hW2
                have hin2 := wordOf_some hwo2
                obtain ⟨n, hn⟩ := Int.eq_ofNat_of_zero_le (show 0 ≤ v.fFp + 2 - v.fSp by omega)
                have hM := s_impl_moved v pc (v.fFp + 2) f n hn (by omega) hwl
                repeat' (
                  (conv => whnf)
                  first
                  | refine Or.inl ?_
                  | refine And.intro (Obl.out (?_ : Obl _)) ?_
                  | refine ifB_intro (fun h => ?_) (fun h => ?_)
                  | refine call_intro (hS) (And.intro (And.intro rfl (And.intro rfl (And.intro rfl trivial))) trivial) ?_
                  | refine call_intro (hV) (And.intro (And.intro rfl (And.intro rfl (And.intro rfl (And.intro rfl trivial)))) trivial) ?_
                  | refine call_intro (hL) (And.intro (And.intro rfl (And.intro rfl (And.intro rfl trivial))) (And.intro rfl trivial)) ?_
                  | refine ⟨i, (lstRow 4 TRule.tr rl), rfl, map_get hrl2, ?_⟩
                  | refine call_intro (hF) (And.intro rfl (And.intro rfl trivial)) ?_
                  | refine ⟨k, r.tr, rfl, map_get hrr, ?_⟩
                  | refine call_intro (hW1) (And.intro (And.intro rfl (And.intro rfl (And.intro rfl (And.intro rfl trivial)))) (And.intro rfl trivial)) ?_
                  | refine call_intro (hW2) (And.intro (And.intro rfl (And.intro rfl (And.intro rfl (And.intro rfl trivial)))) (And.intro (congrArg (Tr.int _) (by first | rfl | (simp (disch := omega) only [IntWalk.i64_in]; done) | ((try simp (disch := omega) only [IntWalk.i64_in]); omega))) trivial)) ?_
                  | refine call_intro (hM) (And.intro (And.intro rfl (And.intro rfl (And.intro rfl (And.intro rfl trivial)))) (And.intro rfl (And.intro (congrArg (Tr.int _) (by first | rfl | (simp (disch := omega) only [IntWalk.i64_in]; done) | ((try simp (disch := omega) only [IntWalk.i64_in]); omega))) (And.intro rfl trivial)))) ?_
                  | refine Exists.intro _ (And.intro rfl ?_)
                  | ((with_reducible show _ = _); rfl))
                all_goals try (
                  (with_reducible refine Obl.mk ?_)
                  first
                  | ((with_reducible show regOk _ _ = true); kernel_rfl)
                  | ((with_reducible show eqTyOk _ _ = true); kernel_rfl)
                  | rfl
                  | exact trivial
                  | ((repeat' (first | exact trivial | refine And.intro ?_ ?_)); done)
                  | decide
                  | (intro r hr; simp only [List.mem_cons, List.not_mem_nil, or_false] at hr; first | (subst hr; rfl) | (rcases hr with rfl | rfl <;> rfl) | (rcases hr with rfl | rfl | rfl <;> rfl) | (rcases hr with rfl | rfl | rfl | rfl <;> rfl))
                  | (refine And.intro ?_ ?_ <;> simp only [List.length_map, List.length_append, List.length_cons, List.length_nil] <;> omega))
                all_goals try (exfalso; first | (simp at h; done) | (rw [hlen, c3] at h; simp at h; done) | (have h' := of_decide_eq_true h; omega) | (rw [hfr] at h; simp at h; done))
  · rw [unw_none hc]
    refine spec_of_W hΓ hmix Try.func61 rfl (by decide) rfl ?_
    cases hso : spaceOk s with
    | false =>
      rw [hso] at hS
      repeat' (
        (conv => whnf)
        first
        | refine Or.inl ?_
        | refine And.intro (Obl.out (?_ : Obl _)) ?_
        | refine ifB_intro (fun h => ?_) (fun h => ?_)
        | refine call_intro (hS) (And.intro (And.intro rfl (And.intro rfl (And.intro rfl trivial))) trivial) ?_
        | refine call_intro (hV) (And.intro (And.intro rfl (And.intro rfl (And.intro rfl (And.intro rfl trivial)))) trivial) ?_
        | refine Exists.intro _ (And.intro rfl ?_)
        | ((with_reducible show _ = _); rfl))
      all_goals try (
        (with_reducible refine Obl.mk ?_)
        first
        | ((with_reducible show regOk _ _ = true); kernel_rfl)
        | ((with_reducible show eqTyOk _ _ = true); kernel_rfl)
        | rfl
        | exact trivial
        | ((repeat' (first | exact trivial | refine And.intro ?_ ?_)); done)
        | decide
        | (intro r hr; simp only [List.mem_cons, List.not_mem_nil, or_false] at hr; first | (subst hr; rfl) | (rcases hr with rfl | rfl <;> rfl) | (rcases hr with rfl | rfl | rfl <;> rfl) | (rcases hr with rfl | rfl | rfl | rfl <;> rfl))
        | (refine And.intro ?_ ?_ <;> simp only [List.length_map, List.length_append, List.length_cons, List.length_nil] <;> omega))
      all_goals (exfalso; simp at h; done)
    | true =>
      rw [hso] at hS
      cases hvo : viewOk v with
      | false =>
        rw [hvo] at hV
        repeat' (
          (conv => whnf)
          first
          | refine Or.inl ?_
          | refine And.intro (Obl.out (?_ : Obl _)) ?_
          | refine ifB_intro (fun h => ?_) (fun h => ?_)
          | refine call_intro (hS) (And.intro (And.intro rfl (And.intro rfl (And.intro rfl trivial))) trivial) ?_
          | refine call_intro (hV) (And.intro (And.intro rfl (And.intro rfl (And.intro rfl (And.intro rfl trivial)))) trivial) ?_
          | refine Exists.intro _ (And.intro rfl ?_)
          | ((with_reducible show _ = _); rfl))
        all_goals try (
          (with_reducible refine Obl.mk ?_)
          first
          | ((with_reducible show regOk _ _ = true); kernel_rfl)
          | ((with_reducible show eqTyOk _ _ = true); kernel_rfl)
          | rfl
          | exact trivial
          | ((repeat' (first | exact trivial | refine And.intro ?_ ?_)); done)
          | decide
          | (intro r hr; simp only [List.mem_cons, List.not_mem_nil, or_false] at hr; first | (subst hr; rfl) | (rcases hr with rfl | rfl <;> rfl) | (rcases hr with rfl | rfl | rfl <;> rfl) | (rcases hr with rfl | rfl | rfl | rfl <;> rfl))
          | (refine And.intro ?_ ?_ <;> simp only [List.length_map, List.length_append, List.length_cons, List.length_nil] <;> omega))
        all_goals (exfalso; simp at h; done)
      | true =>
        rw [hvo] at hV
        have hne : (((rules.map (lstRow 4 TRule.tr)).length : Int) != 2) = true := by
          rw [hlen, bne_iff_ne]
          intro h2
          exact hc ⟨hso, hvo, by omega⟩
        repeat' (
          (conv => whnf)
          first
          | refine Or.inl ?_
          | refine And.intro (Obl.out (?_ : Obl _)) ?_
          | refine ifB_intro (fun h => ?_) (fun h => ?_)
          | refine call_intro (hS) (And.intro (And.intro rfl (And.intro rfl (And.intro rfl trivial))) trivial) ?_
          | refine call_intro (hV) (And.intro (And.intro rfl (And.intro rfl (And.intro rfl (And.intro rfl trivial)))) trivial) ?_
          | refine Exists.intro _ (And.intro rfl ?_)
          | ((with_reducible show _ = _); rfl))
        all_goals try (
          (with_reducible refine Obl.mk ?_)
          first
          | ((with_reducible show regOk _ _ = true); kernel_rfl)
          | ((with_reducible show eqTyOk _ _ = true); kernel_rfl)
          | rfl
          | exact trivial
          | ((repeat' (first | exact trivial | refine And.intro ?_ ?_)); done)
          | decide
          | (intro r hr; simp only [List.mem_cons, List.not_mem_nil, or_false] at hr; first | (subst hr; rfl) | (rcases hr with rfl | rfl <;> rfl) | (rcases hr with rfl | rfl | rfl <;> rfl) | (rcases hr with rfl | rfl | rfl | rfl <;> rfl))
          | (refine And.intro ?_ ?_ <;> simp only [List.length_map, List.length_append, List.length_cons, List.length_nil] <;> omega))
        all_goals (exfalso; first | (simp at h; done) | (rename_i a1; first | (rw [hne] at a1; cases a1) | (rw [hne] at h; cases h)))
end Go.Proofs.Ytflolafbblohnaa
