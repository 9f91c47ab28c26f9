/- The reference's l04Body and ProgramOk. -/
import Derived.Test.YtehniaekfijmiaaFnsPf
import Derived.Test.YtehniaekfijmiaaSimV
namespace Go.Proofs.Ytehniaekfijmiaa
open Go.Sim
set_option maxRecDepth 100000
set_option maxHeartbeats 4000000
theorem if_and_pos {p q : Prop} [Decidable p] [Decidable q] {α : Type} {a b : α} {r : α} (hp : p) : ((if p ∧ q then a else b) = r) = ((if q then a else b) = r) := by
  by_cases hq : q
  · rw [if_pos ⟨hp, hq⟩, if_pos hq]
  · rw [if_neg (fun h => hq h.2), if_neg hq]
theorem else_eq {l : List TLine} {j i : Nat} : (elseOf l (j : Int) == (i : Int)) = (elseAt l j == some i) := by
  rw [elseOf, if_pos (by omega), Int.toNat_natCast]
  cases elseAt l j with
  | none => simp [endI]
  | some m => rw [Bool.eq_iff_iff]; simp [endI]; omega
theorem s_spec_l04Body (l : List TLine) (k e : Nat) (hl : l.length ≤ 60) (hs : ∀ x ∈ l, smallR 1048576 x.tr) (he : endAt l k = some e) : Sim.Spec Try.prog 124 [tvP l, tvI k, tvI e] (rB (fnOkS l k e)) := by
  refine spec_of_Wo hΓ hmix Try.func124 rfl (by decide) rfl ?_
  have hlen : (l.map TLine.tr).length = l.length := by simp
  have hL := s_spec_LocalsOf l k (by omega) hs
  obtain ⟨hloc1, hloc2⟩ := locals_le (l := l) (k := (k : Int)) (by omega) hs
  have hst0 := (endAt_some he)
  obtain ⟨x0, hx0, ho0, he0, hke, hel⟩ := hst0
  unfold fnOkS
  generalize localsOf l (k : Int) = loc at *
  have hll : (loc.map strRow).length = loc.length := by simp
  by_cases h8 : loc.length ≤ 8
  · rw [decide_eq_true h8, Bool.true_and]
    obtain ⟨R, hR⟩ : ∃ R, bodyS l loc k e (e - (k + 1)) (k + 1) 0 = R := ⟨_, rfl⟩
    rw [hR]
    repeat' ((conv => whnf); first | (with_reducible first | refine W1 ?_ | refine W2 ?_ | refine W3 ?_ | refine W4 ?_ | refine W5 ?_ | refine W6 ?_ | refine W7 ?_ | refine W8 ?_ | refine W9 ?_) | refine reg_inl ?_ | refine And.intro (Obl.out (?_ : Obl _)) ?_ | refine ifB_intro (fun h => ?_) (fun h => ?_) | refine Or.inl (call_intro (hL) (And.intro rfl (And.intro rfl trivial)) ?_) | refine Exists.intro _ (And.intro rfl ?_) | ((with_reducible show _ = _); rfl))
    all_goals try ((with_reducible refine Obl.mk ?_); first | ((with_reducible show regOk _ _ = true); kernel_rfl) | rfl | exact trivial | ((repeat' (first | exact trivial | refine And.intro ?_ ?_)); done) | decide | ((repeat' (first | exact List.forall_mem_nil _ | refine Wm rfl ?_)); done))
    all_goals try (exfalso; simp only [decide_eq_false_iff_not, decide_eq_true_eq] at *; omega)
    conv => whnf
    refine ⟨{ q : Nat × List Nat // k < q.1 ∧ q.1 ≤ e ∧ StkOk l e q.1 q.2 ∧ q.2.length ≤ 4 ∧ bodyS l loc k e (e - q.1) q.1 q.2.length = R }, fun q => ⟨[(0, vP l), (1, tI .i64 (k : Int)), (2, tI .i64 (e : Int)), (7, .r (.c (.own (7, 0, 0)))), (8, tI .i64 ((q.1.2.length : Nat) : Int)), (9, tI .i64 (q.1.1 : Int))], [((7, 0, 0), some (.arr true 1 (loc.map strRow)))], [7]⟩, fun q => e - q.1.1, ⟨(k + 1, []), by dsimp only; omega, by dsimp only; omega, he0, by simp, hR⟩, ?_, ?_⟩
    · skip
      repeat' ((conv => whnf); first | (with_reducible first | refine W1 ?_ | refine W2 ?_ | refine W3 ?_ | refine W4 ?_ | refine W5 ?_ | refine W6 ?_ | refine W7 ?_ | refine W8 ?_ | refine W9 ?_) | refine reg_inl ?_ | refine And.intro (Obl.out (?_ : Obl _)) ?_ | refine ifB_intro (fun h => ?_) (fun h => ?_) | refine Exists.intro _ (And.intro rfl ?_) | ((with_reducible show _ = _); rfl))
      all_goals try ((with_reducible refine Obl.mk ?_); first | ((with_reducible show regOk _ _ = true); kernel_rfl) | rfl | exact trivial | ((repeat' (first | exact trivial | refine And.intro ?_ ?_)); done) | decide | ((repeat' (first | exact List.forall_mem_nil _ | refine Wm rfl ?_)); done))
      all_goals try exact ⟨by dsimp only; rw [IntWalk.i64_in _ (by omega)]; rfl⟩
    intro ⟨⟨i, es⟩, q1, q2, g1, g2, g4⟩
    dsimp only at q1 q2 g1 g2 g4 ⊢
    by_cases hlt : i < e
    · obtain ⟨y, hy⟩ := get_of_lt (l := l) (k := i) (by omega)
      have hel3 : (y.fExpr.map TTok.tr).length = y.fExpr.length := by simp
      have hysm := (line_small (hs y (List.mem_of_getElem? hy))).2.2.2.1
      obtain ⟨K, hK⟩ : ∃ K, exprKnown l loc y.fExpr = K := ⟨_, rfl⟩
      rw [bodyS_step hlt hy, hK] at g4
      by_cases h0 : y.fKind = 0
      · rw [if_pos h0] at g4
        subst g4
        repeat' ((conv => whnf); first | (with_reducible first | refine W1 ?_ | refine W2 ?_ | refine W3 ?_ | refine W4 ?_ | refine W5 ?_ | refine W6 ?_ | refine W7 ?_ | refine W8 ?_ | refine W9 ?_) | refine reg_inl ?_ | refine And.intro (Obl.out (?_ : Obl _)) ?_ | refine ifB_intro (fun h => ?_) (fun h => ?_) | refine ⟨i, y.tr, rfl, map_get hy, ?_⟩ | refine Exists.intro _ (And.intro rfl ?_) | ((with_reducible show _ = _); rfl))
        all_goals try ((with_reducible refine Obl.mk ?_); first | ((with_reducible show regOk _ _ = true); kernel_rfl) | rfl | exact trivial | ((repeat' (first | exact trivial | refine And.intro ?_ ?_)); done) | decide | ((repeat' (first | exact List.forall_mem_nil _ | refine Wm rfl ?_)); done))
        all_goals try (exfalso; simp only [decide_eq_false_iff_not, decide_eq_true_eq] at *; omega)
        all_goals try (exfalso; simp_all; done)
      · rw [if_neg h0] at g4
        repeat' ((conv => whnf); first | ((with_reducible refine W1 ?_); fail_if_success (with_reducible show Wo _ _ _ _ (Code.seq (Code.region 8 _ _) _) _ _)) | (with_reducible first | refine W2 ?_ | refine W3 ?_ | refine W4 ?_ | refine W5 ?_ | refine W6 ?_ | refine W7 ?_ | refine W8 ?_ | refine W9 ?_) | refine reg_inl ?_ | refine And.intro (Obl.out (?_ : Obl _)) ?_ | refine ifB_intro (fun h => ?_) (fun h => ?_) | refine ⟨i, y.tr, rfl, map_get hy, ?_⟩ | refine Exists.intro _ (And.intro rfl ?_) | ((with_reducible show _ = _); rfl))
        all_goals try ((with_reducible refine Obl.mk ?_); first | ((with_reducible show regOk _ _ = true); kernel_rfl) | rfl | exact trivial | ((repeat' (first | exact trivial | refine And.intro ?_ ?_)); done) | decide | ((repeat' (first | exact List.forall_mem_nil _ | refine Wm rfl ?_)); done))
        all_goals try (exfalso; simp only [decide_eq_false_iff_not, decide_eq_true_eq] at *; omega)
        refine join_rule { q : Nat × List Nat // StkOk l e (i + 1) q.2 ∧ q.1 = q.2.length ∧ q.1 ≤ 60 ∧ (if q.1 ≤ 4 ∧ K = true then bodyS l loc k e (e - (i + 1)) (i + 1) q.1 else false) = R } (fun q => ⟨[(0, vP l), (1, tI .i64 (k : Int)), (2, tI .i64 (e : Int)), (7, .r (.c (.own (7, 0, 0)))), (8, tI .i64 ((q.1.1 : Nat) : Int)), (9, tI .i64 (i : Int))], [((7, 0, 0), some (.arr true 1 (loc.map strRow)))], [7]⟩) ?_ ?_
        · by_cases h35 : y.fKind = 3 ∨ y.fKind = 5
          · rw [if_neg (fun h => by omega)] at g4
            have hd : dep y es.length = es.length + 1 := by unfold dep; rw [if_pos h35]
            rw [hd] at g4
            obtain ⟨m', hm', him, hst'⟩ := g1.push hy (opensK_iff.2 (by omega))
            have hwd : IntKind.i64.wrap ((es.length : Int) + 1) = ((es.length + 1 : Nat) : Int) := by rw [IntWalk.i64_in _ (by omega)]; omega
            repeat' ((conv => whnf); first | (with_reducible first | refine W1 ?_ | refine W2 ?_ | refine W3 ?_ | refine W4 ?_ | refine W5 ?_ | refine W6 ?_ | refine W7 ?_ | refine W8 ?_ | refine W9 ?_) | refine reg_inl ?_ | refine And.intro (Obl.out (?_ : Obl _)) ?_ | refine ifB_intro (fun h => ?_) (fun h => ?_) | refine ⟨i, y.tr, rfl, map_get hy, ?_⟩ | refine Exists.intro _ (And.intro rfl ?_) | ((with_reducible show _ = _); rfl))
            all_goals try ((with_reducible refine Obl.mk ?_); first | ((with_reducible show regOk _ _ = true); kernel_rfl) | rfl | exact trivial | ((repeat' (first | exact trivial | refine And.intro ?_ ?_)); done) | decide | ((repeat' (first | exact List.forall_mem_nil _ | refine Wm rfl ?_)); done))
            all_goals try (exfalso; simp only [decide_eq_false_iff_not, decide_eq_true_eq] at *; omega)
            all_goals try (exfalso; simp_all; done)
            all_goals
              conv => whnf
              refine ⟨⟨(es.length + 1, m' :: es), hst', rfl, by dsimp only; omega, g4⟩, ?_⟩
              repeat' ((conv => whnf); first | (with_reducible first | refine W1 ?_ | refine W2 ?_ | refine W3 ?_ | refine W4 ?_ | refine W5 ?_ | refine W6 ?_ | refine W7 ?_ | refine W8 ?_ | refine W9 ?_) | refine reg_inl ?_ | refine And.intro (Obl.out (?_ : Obl _)) ?_ | refine ifB_intro (fun h => ?_) (fun h => ?_) | refine Exists.intro _ (And.intro rfl ?_) | ((with_reducible show _ = _); rfl))
              all_goals try ((with_reducible refine Obl.mk ?_); first | ((with_reducible show regOk _ _ = true); kernel_rfl) | rfl | exact trivial | ((repeat' (first | exact trivial | refine And.intro ?_ ?_)); done) | decide | ((repeat' (first | exact List.forall_mem_nil _ | refine Wm rfl ?_)); done))
              all_goals try exact ⟨by dsimp only; rw [hwd]⟩
          · by_cases h7' : y.fKind = 7
            · rw [if_neg (fun h => by omega)] at g4
              rcases g1.pop hy h7' with ⟨_, h'⟩ | ⟨es', hes, hst'⟩
              · omega
              have hd : dep y es.length = es'.length := by unfold dep; rw [if_neg h35, if_pos h7', hes]; simp
              have hl4 : es.length = es'.length + 1 := by rw [hes]; rfl
              rw [hd] at g4
              have hwd : IntKind.i64.wrap ((es.length : Int) - 1) = (es'.length : Int) := by rw [IntWalk.i64_in _ (by omega)]; omega
              repeat' ((conv => whnf); first | (with_reducible first | refine W1 ?_ | refine W2 ?_ | refine W3 ?_ | refine W4 ?_ | refine W5 ?_ | refine W6 ?_ | refine W7 ?_ | refine W8 ?_ | refine W9 ?_) | refine reg_inl ?_ | refine And.intro (Obl.out (?_ : Obl _)) ?_ | refine ifB_intro (fun h => ?_) (fun h => ?_) | refine ⟨i, y.tr, rfl, map_get hy, ?_⟩ | refine Exists.intro _ (And.intro rfl ?_) | ((with_reducible show _ = _); rfl))
              all_goals try ((with_reducible refine Obl.mk ?_); first | ((with_reducible show regOk _ _ = true); kernel_rfl) | rfl | exact trivial | ((repeat' (first | exact trivial | refine And.intro ?_ ?_)); done) | decide | ((repeat' (first | exact List.forall_mem_nil _ | refine Wm rfl ?_)); done))
              all_goals try (exfalso; simp only [decide_eq_false_iff_not, decide_eq_true_eq] at *; omega)
              all_goals try (exfalso; simp_all; done)
              conv => whnf
              refine ⟨⟨(es'.length, es'), hst', rfl, by dsimp only; omega, g4⟩, ?_⟩
              repeat' ((conv => whnf); first | (with_reducible first | refine W1 ?_ | refine W2 ?_ | refine W3 ?_ | refine W4 ?_ | refine W5 ?_ | refine W6 ?_ | refine W7 ?_ | refine W8 ?_ | refine W9 ?_) | refine reg_inl ?_ | refine And.intro (Obl.out (?_ : Obl _)) ?_ | refine ifB_intro (fun h => ?_) (fun h => ?_) | refine Exists.intro _ (And.intro rfl ?_) | ((with_reducible show _ = _); rfl))
              all_goals try ((with_reducible refine Obl.mk ?_); first | ((with_reducible show regOk _ _ = true); kernel_rfl) | rfl | exact trivial | ((repeat' (first | exact trivial | refine And.intro ?_ ?_)); done) | decide | ((repeat' (first | exact List.forall_mem_nil _ | refine Wm rfl ?_)); done))
              all_goals try exact ⟨by dsimp only; rw [hwd]⟩
            · have hd : dep y es.length = es.length := by unfold dep; rw [if_neg h35, if_neg h7']
              have ho : opensK y.fKind = false := by
                cases hh : opensK y.fKind with
                | false => rfl
                | true => rw [opensK_iff] at hh; omega
              have hst' := g1.other hy ho h7'
              rw [hd] at g4
              by_cases h4 : y.fKind = 4
              · obtain ⟨Av, hA⟩ : ∃ Av, anyE l i (i - k) k = Av := ⟨_, rfl⟩
                rw [hA] at g4
                repeat' ((conv => whnf); first | (with_reducible first | refine W1 ?_ | refine W2 ?_ | refine W3 ?_ | refine W4 ?_ | refine W5 ?_ | refine W6 ?_ | refine W7 ?_ | refine W8 ?_ | refine W9 ?_) | refine reg_inl ?_ | refine And.intro (Obl.out (?_ : Obl _)) ?_ | refine ifB_intro (fun h => ?_) (fun h => ?_) | refine ⟨i, y.tr, rfl, map_get hy, ?_⟩ | refine Exists.intro _ (And.intro rfl ?_) | ((with_reducible show _ = _); rfl))
                all_goals try ((with_reducible refine Obl.mk ?_); first | ((with_reducible show regOk _ _ = true); kernel_rfl) | rfl | exact trivial | ((repeat' (first | exact trivial | refine And.intro ?_ ?_)); done) | decide | ((repeat' (first | exact List.forall_mem_nil _ | refine Wm rfl ?_)); done))
                all_goals try (exfalso; simp only [decide_eq_false_iff_not, decide_eq_true_eq] at *; omega)
                all_goals try (exfalso; simp_all; done)
                conv => whnf
                refine ⟨{ q : Nat × Bool // q.1 ≤ i ∧ (q.2 || anyE l i (i - q.1) q.1) = Av }, fun q => ⟨[(0, vP l), (1, tI .i64 (k : Int)), (2, tI .i64 (e : Int)), (7, .r (.c (.own (7, 0, 0)))), (8, tI .i64 ((es.length : Nat) : Int)), (9, tI .i64 (i : Int)), (10, tB q.1.2), (11, tI .i64 (q.1.1 : Int))], [((7, 0, 0), some (.arr true 1 (loc.map strRow)))], [7]⟩, fun q => i - q.1.1, ⟨(k, false), by dsimp only; omega, by simpa using hA⟩, ?_, ?_⟩
                · skip
                  repeat' ((conv => whnf); first | (with_reducible first | refine W1 ?_ | refine W2 ?_ | refine W3 ?_ | refine W4 ?_ | refine W5 ?_ | refine W6 ?_ | refine W7 ?_ | refine W8 ?_ | refine W9 ?_) | refine reg_inl ?_ | refine And.intro (Obl.out (?_ : Obl _)) ?_ | refine ifB_intro (fun h => ?_) (fun h => ?_) | refine Exists.intro _ (And.intro rfl ?_) | ((with_reducible show _ = _); rfl))
                  all_goals try ((with_reducible refine Obl.mk ?_); first | ((with_reducible show regOk _ _ = true); kernel_rfl) | rfl | exact trivial | ((repeat' (first | exact trivial | refine And.intro ?_ ?_)); done) | decide | ((repeat' (first | exact List.forall_mem_nil _ | refine Wm rfl ?_)); done))
                intro ⟨⟨j, b⟩, hj, hb⟩
                dsimp only at hj hb ⊢
                by_cases hji : j < i
                · obtain ⟨n, hn⟩ : ∃ n, i - j = n + 1 := ⟨i - j - 1, by omega⟩
                  have hn2 : i - (j + 1) = n := by omega
                  rw [hn, anyE, ← else_eq] at hb
                  have hS := s_spec_ElseOf l (j : Int) (by omega)
                  generalize elseOf l (j : Int) = ee at *
                  cases b with
                  | true =>
                    repeat' ((conv => whnf); first | (with_reducible first | refine W1 ?_ | refine W2 ?_ | refine W3 ?_ | refine W4 ?_ | refine W5 ?_ | refine W6 ?_ | refine W7 ?_ | refine W8 ?_ | refine W9 ?_) | refine reg_inl ?_ | refine And.intro (Obl.out (?_ : Obl _)) ?_ | refine ifB_intro (fun h => ?_) (fun h => ?_) | refine Or.inl (call_intro (hS) (And.intro rfl (And.intro rfl trivial)) ?_) | refine Exists.intro _ (And.intro rfl ?_) | ((with_reducible show _ = _); rfl))
                    all_goals try ((with_reducible refine Obl.mk ?_); first | ((with_reducible show regOk _ _ = true); kernel_rfl) | rfl | exact trivial | ((repeat' (first | exact trivial | refine And.intro ?_ ?_)); done) | decide | ((repeat' (first | exact List.forall_mem_nil _ | refine Wm rfl ?_)); done))
                    all_goals try (exfalso; simp only [decide_eq_false_iff_not, decide_eq_true_eq] at *; omega)
                    conv => whnf
                    refine ⟨⟨(j + 1, true), by dsimp only; omega, by simpa using hb⟩, ?_, by dsimp only; omega⟩
                    repeat' ((conv => whnf); first | (with_reducible first | refine W1 ?_ | refine W2 ?_ | refine W3 ?_ | refine W4 ?_ | refine W5 ?_ | refine W6 ?_ | refine W7 ?_ | refine W8 ?_ | refine W9 ?_) | refine reg_inl ?_ | refine And.intro (Obl.out (?_ : Obl _)) ?_ | refine ifB_intro (fun h => ?_) (fun h => ?_) | refine Exists.intro _ (And.intro rfl ?_) | ((with_reducible show _ = _); rfl))
                    all_goals try ((with_reducible refine Obl.mk ?_); first | ((with_reducible show regOk _ _ = true); kernel_rfl) | rfl | exact trivial | ((repeat' (first | exact trivial | refine And.intro ?_ ?_)); done) | decide | ((repeat' (first | exact List.forall_mem_nil _ | refine Wm rfl ?_)); done))
                    all_goals try exact ⟨by dsimp only; rw [IntWalk.i64_in _ (by omega)]; rfl⟩
                  | false =>
                    repeat' ((conv => whnf); first | (with_reducible first | refine W1 ?_ | refine W2 ?_ | refine W3 ?_ | refine W4 ?_ | refine W5 ?_ | refine W6 ?_ | refine W7 ?_ | refine W8 ?_ | refine W9 ?_) | refine reg_inl ?_ | refine And.intro (Obl.out (?_ : Obl _)) ?_ | refine ifB_intro (fun h => ?_) (fun h => ?_) | refine Or.inl (call_intro (hS) (And.intro rfl (And.intro rfl trivial)) ?_) | refine Exists.intro _ (And.intro rfl ?_) | ((with_reducible show _ = _); rfl))
                    all_goals try ((with_reducible refine Obl.mk ?_); first | ((with_reducible show regOk _ _ = true); kernel_rfl) | rfl | exact trivial | ((repeat' (first | exact trivial | refine And.intro ?_ ?_)); done) | decide | ((repeat' (first | exact List.forall_mem_nil _ | refine Wm rfl ?_)); done))
                    all_goals try (exfalso; simp only [decide_eq_false_iff_not, decide_eq_true_eq] at *; omega)
                    conv => whnf
                    refine ⟨⟨(j + 1, (ee == (i : Int))), by dsimp only; omega, by dsimp only; rw [hn2]; simpa using hb⟩, ?_, by dsimp only; omega⟩
                    repeat' ((conv => whnf); first | (with_reducible first | refine W1 ?_ | refine W2 ?_ | refine W3 ?_ | refine W4 ?_ | refine W5 ?_ | refine W6 ?_ | refine W7 ?_ | refine W8 ?_ | refine W9 ?_) | refine reg_inl ?_ | refine And.intro (Obl.out (?_ : Obl _)) ?_ | refine ifB_intro (fun h => ?_) (fun h => ?_) | refine Exists.intro _ (And.intro rfl ?_) | ((with_reducible show _ = _); rfl))
                    all_goals try ((with_reducible refine Obl.mk ?_); first | ((with_reducible show regOk _ _ = true); kernel_rfl) | rfl | exact trivial | ((repeat' (first | exact trivial | refine And.intro ?_ ?_)); done) | decide | ((repeat' (first | exact List.forall_mem_nil _ | refine Wm rfl ?_)); done))
                    all_goals try exact ⟨by dsimp only; rw [IntWalk.i64_in _ (by omega)]; rfl⟩
                · rw [show i - j = 0 by omega, anyE, Bool.or_false] at hb
                  subst hb
                  cases b with
                  | false =>
                    rw [if_pos ⟨h4, rfl⟩] at g4
                    subst g4
                    repeat' ((conv => whnf); first | (with_reducible first | refine W1 ?_ | refine W2 ?_ | refine W3 ?_ | refine W4 ?_ | refine W5 ?_ | refine W6 ?_ | refine W7 ?_ | refine W8 ?_ | refine W9 ?_) | refine reg_inl ?_ | refine And.intro (Obl.out (?_ : Obl _)) ?_ | refine ifB_intro (fun h => ?_) (fun h => ?_) | refine Exists.intro _ (And.intro rfl ?_) | ((with_reducible show _ = _); rfl))
                    all_goals try ((with_reducible refine Obl.mk ?_); first | ((with_reducible show regOk _ _ = true); kernel_rfl) | rfl | exact trivial | ((repeat' (first | exact trivial | refine And.intro ?_ ?_)); done) | decide | ((repeat' (first | exact List.forall_mem_nil _ | refine Wm rfl ?_)); done))
                    all_goals try (exfalso; simp only [decide_eq_false_iff_not, decide_eq_true_eq] at *; omega)
                  | true =>
                    rw [if_neg (by simp)] at g4
                    repeat' ((conv => whnf); first | (with_reducible first | refine W1 ?_ | refine W2 ?_ | refine W3 ?_ | refine W4 ?_ | refine W5 ?_ | refine W6 ?_ | refine W7 ?_ | refine W8 ?_ | refine W9 ?_) | refine reg_inl ?_ | refine And.intro (Obl.out (?_ : Obl _)) ?_ | refine ifB_intro (fun h => ?_) (fun h => ?_) | refine Exists.intro _ (And.intro rfl ?_) | ((with_reducible show _ = _); rfl))
                    all_goals try ((with_reducible refine Obl.mk ?_); first | ((with_reducible show regOk _ _ = true); kernel_rfl) | rfl | exact trivial | ((repeat' (first | exact trivial | refine And.intro ?_ ?_)); done) | decide | ((repeat' (first | exact List.forall_mem_nil _ | refine Wm rfl ?_)); done))
                    all_goals try (exfalso; simp only [decide_eq_false_iff_not, decide_eq_true_eq] at *; omega)
                    conv => whnf
                    refine ⟨⟨(es.length, es), hst', rfl, by dsimp only; omega, g4⟩, ?_⟩
                    repeat' ((conv => whnf); first | (with_reducible first | refine W1 ?_ | refine W2 ?_ | refine W3 ?_ | refine W4 ?_ | refine W5 ?_ | refine W6 ?_ | refine W7 ?_ | refine W8 ?_ | refine W9 ?_) | refine reg_inl ?_ | refine And.intro (Obl.out (?_ : Obl _)) ?_ | refine ifB_intro (fun h => ?_) (fun h => ?_) | refine Exists.intro _ (And.intro rfl ?_) | ((with_reducible show _ = _); rfl))
                    all_goals try ((with_reducible refine Obl.mk ?_); first | ((with_reducible show regOk _ _ = true); kernel_rfl) | rfl | exact trivial | ((repeat' (first | exact trivial | refine And.intro ?_ ?_)); done) | decide | ((repeat' (first | exact List.forall_mem_nil _ | refine Wm rfl ?_)); done))
              · rw [if_neg (fun h => h4 h.1)] at g4
                repeat' ((conv => whnf); first | (with_reducible first | refine W1 ?_ | refine W2 ?_ | refine W3 ?_ | refine W4 ?_ | refine W5 ?_ | refine W6 ?_ | refine W7 ?_ | refine W8 ?_ | refine W9 ?_) | refine reg_inl ?_ | refine And.intro (Obl.out (?_ : Obl _)) ?_ | refine ifB_intro (fun h => ?_) (fun h => ?_) | refine ⟨i, y.tr, rfl, map_get hy, ?_⟩ | refine Exists.intro _ (And.intro rfl ?_) | ((with_reducible show _ = _); rfl))
                all_goals try ((with_reducible refine Obl.mk ?_); first | ((with_reducible show regOk _ _ = true); kernel_rfl) | rfl | exact trivial | ((repeat' (first | exact trivial | refine And.intro ?_ ?_)); done) | decide | ((repeat' (first | exact List.forall_mem_nil _ | refine Wm rfl ?_)); done))
                all_goals try (exfalso; simp only [decide_eq_false_iff_not, decide_eq_true_eq] at *; omega)
                all_goals try (exfalso; simp_all; done)
                conv => whnf
                refine ⟨⟨(es.length, es), hst', rfl, by dsimp only; omega, g4⟩, ?_⟩
                repeat' ((conv => whnf); first | (with_reducible first | refine W1 ?_ | refine W2 ?_ | refine W3 ?_ | refine W4 ?_ | refine W5 ?_ | refine W6 ?_ | refine W7 ?_ | refine W8 ?_ | refine W9 ?_) | refine reg_inl ?_ | refine And.intro (Obl.out (?_ : Obl _)) ?_ | refine ifB_intro (fun h => ?_) (fun h => ?_) | refine Exists.intro _ (And.intro rfl ?_) | ((with_reducible show _ = _); rfl))
                all_goals try ((with_reducible refine Obl.mk ?_); first | ((with_reducible show regOk _ _ = true); kernel_rfl) | rfl | exact trivial | ((repeat' (first | exact trivial | refine And.intro ?_ ?_)); done) | decide | ((repeat' (first | exact List.forall_mem_nil _ | refine Wm rfl ?_)); done))
        clear g4 g1
        intro ⟨⟨d, es'⟩, hst', hdl, hd60, g4⟩
        dsimp only at hst' hdl hd60 g4 ⊢
        have hwd : (d : Int) = (d : Int) := rfl
        by_cases hd4 : (d) ≤ 4
        · rw [if_and_pos hd4] at g4
          repeat' ((conv => whnf); first | (with_reducible first | refine W1 ?_ | refine W2 ?_ | refine W3 ?_ | refine W4 ?_ | refine W5 ?_ | refine W6 ?_ | refine W7 ?_ | refine W8 ?_ | refine W9 ?_) | refine reg_inl ?_ | refine And.intro (Obl.out (?_ : Obl _)) ?_ | refine ifB_intro (fun h => ?_) (fun h => ?_) | refine ⟨i, y.tr, rfl, map_get hy, ?_⟩ | refine Exists.intro _ (And.intro rfl ?_) | ((with_reducible show _ = _); rfl))
          all_goals try ((with_reducible refine Obl.mk ?_); first | ((with_reducible show regOk _ _ = true); kernel_rfl) | rfl | exact trivial | ((repeat' (first | exact trivial | refine And.intro ?_ ?_)); done) | decide | ((repeat' (first | exact List.forall_mem_nil _ | refine Wm rfl ?_)); done))
          all_goals try (exfalso; simp only [decide_eq_false_iff_not, decide_eq_true_eq] at *; omega)
          all_goals try (exfalso; simp only [decide_eq_false_iff_not, decide_eq_true_eq] at h; omega)
          conv => whnf
          refine ⟨{ j : Nat // j ≤ y.fExpr.length ∧ (y.fExpr.drop j).all (tokKnown l loc) = K }, fun q => ⟨[(0, vP l), (1, tI .i64 (k : Int)), (2, tI .i64 (e : Int)), (7, .r (.c (.own (7, 0, 0)))), (8, tI .i64 (d : Int)), (9, tI .i64 (i : Int)), (12, tI .i64 (q.1 : Int))], [((7, 0, 0), some (.arr true 1 (loc.map strRow)))], [7]⟩, fun q => y.fExpr.length - q.1, ⟨0, by omega, hK⟩, ?_, ?_⟩
          · skip
            repeat' ((conv => whnf); first | (with_reducible first | refine W1 ?_ | refine W2 ?_ | refine W3 ?_ | refine W4 ?_ | refine W5 ?_ | refine W6 ?_ | refine W7 ?_ | refine W8 ?_ | refine W9 ?_) | refine reg_inl ?_ | refine And.intro (Obl.out (?_ : Obl _)) ?_ | refine ifB_intro (fun h => ?_) (fun h => ?_) | refine Exists.intro _ (And.intro rfl ?_) | ((with_reducible show _ = _); rfl))
            all_goals try ((with_reducible refine Obl.mk ?_); first | ((with_reducible show regOk _ _ = true); kernel_rfl) | rfl | exact trivial | ((repeat' (first | exact trivial | refine And.intro ?_ ?_)); done) | decide | ((repeat' (first | exact List.forall_mem_nil _ | refine Wm rfl ?_)); done))
          intro ⟨j, hj, hk2⟩
          dsimp only at hj hk2 ⊢
          by_cases hjl : j < y.fExpr.length
          · obtain ⟨t, ht⟩ := get_of_lt hjl
            rw [all_at ht] at hk2
            have hI := s_spec_l04Index loc t.fName (by omega)
            have hF := s_spec_FindFunction l t.fName (by omega)
            by_cases h1 : t.fKind = 1
            · have e1 : tokKnown l loc t = loc.contains t.fName := by unfold tokKnown; rw [if_pos h1]
              rw [e1] at hk2
              have hix := idxOf_has (l := loc) (s := t.fName)
              generalize idxOf loc t.fName = ix at *
              generalize findF l t.fName = ff at *
              cases hc : loc.contains t.fName with
              | false =>
                rw [hc] at hix hk2
                rw [Bool.false_and] at hk2
                subst hk2
                rw [if_neg (by simp)] at g4
                subst g4
                repeat' ((conv => whnf); first | (with_reducible first | refine W1 ?_ | refine W2 ?_ | refine W3 ?_ | refine W4 ?_ | refine W5 ?_ | refine W6 ?_ | refine W7 ?_ | refine W8 ?_ | refine W9 ?_) | refine reg_inl ?_ | refine And.intro (Obl.out (?_ : Obl _)) ?_ | refine ifB_intro (fun h => ?_) (fun h => ?_) | refine ⟨i, y.tr, rfl, map_get hy, ?_⟩ | refine ⟨j, t.tr, rfl, map_get ht, ?_⟩ | refine Or.inl (call_intro (hI) (And.intro rfl (And.intro rfl trivial)) ?_) | refine Or.inl (call_intro (hF) (And.intro rfl (And.intro rfl trivial)) ?_) | refine Exists.intro _ (And.intro rfl ?_) | ((with_reducible show _ = _); rfl))
                all_goals try ((with_reducible refine Obl.mk ?_); first | ((with_reducible show regOk _ _ = true); kernel_rfl) | rfl | exact trivial | ((repeat' (first | exact trivial | refine And.intro ?_ ?_)); done) | decide | ((repeat' (first | exact List.forall_mem_nil _ | refine Wm rfl ?_)); done))
                all_goals try (exfalso; simp only [decide_eq_false_iff_not, decide_eq_true_eq] at *; omega)
                all_goals try (exfalso; (try simp_all [within]); (try omega); done)
              | true =>
                rw [hc] at hix hk2
                rw [Bool.true_and] at hk2
                repeat' ((conv => whnf); first | (with_reducible first | refine W1 ?_ | refine W2 ?_ | refine W3 ?_ | refine W4 ?_ | refine W5 ?_ | refine W6 ?_ | refine W7 ?_ | refine W8 ?_ | refine W9 ?_) | refine reg_inl ?_ | refine And.intro (Obl.out (?_ : Obl _)) ?_ | refine ifB_intro (fun h => ?_) (fun h => ?_) | refine ⟨i, y.tr, rfl, map_get hy, ?_⟩ | refine ⟨j, t.tr, rfl, map_get ht, ?_⟩ | refine Or.inl (call_intro (hI) (And.intro rfl (And.intro rfl trivial)) ?_) | refine Or.inl (call_intro (hF) (And.intro rfl (And.intro rfl trivial)) ?_) | refine Exists.intro _ (And.intro rfl ?_) | ((with_reducible show _ = _); rfl))
                all_goals try ((with_reducible refine Obl.mk ?_); first | ((with_reducible show regOk _ _ = true); kernel_rfl) | rfl | exact trivial | ((repeat' (first | exact trivial | refine And.intro ?_ ?_)); done) | decide | ((repeat' (first | exact List.forall_mem_nil _ | refine Wm rfl ?_)); done))
                all_goals try (exfalso; simp only [decide_eq_false_iff_not, decide_eq_true_eq] at *; omega)
                all_goals try (exfalso; (try simp_all [within]); (try omega); done)
                all_goals try (exfalso; simp_all; done)
                conv => whnf
                refine ⟨⟨j + 1, by omega, hk2⟩, ?_, by dsimp only; omega⟩
                repeat' ((conv => whnf); first | (with_reducible first | refine W1 ?_ | refine W2 ?_ | refine W3 ?_ | refine W4 ?_ | refine W5 ?_ | refine W6 ?_ | refine W7 ?_ | refine W8 ?_ | refine W9 ?_) | refine reg_inl ?_ | refine And.intro (Obl.out (?_ : Obl _)) ?_ | refine ifB_intro (fun h => ?_) (fun h => ?_) | refine Exists.intro _ (And.intro rfl ?_) | ((with_reducible show _ = _); rfl))
                all_goals try ((with_reducible refine Obl.mk ?_); first | ((with_reducible show regOk _ _ = true); kernel_rfl) | rfl | exact trivial | ((repeat' (first | exact trivial | refine And.intro ?_ ?_)); done) | decide | ((repeat' (first | exact List.forall_mem_nil _ | refine Wm rfl ?_)); done))
                all_goals try exact ⟨by dsimp only; rw [IntWalk.i64_in _ (by omega)]; rfl⟩
            · by_cases h7 : t.fKind = 7
              · cases hf : findN l 0 t.fName with
                | none =>
                  have e1 : tokKnown l loc t = false := by unfold tokKnown; rw [if_neg h1, if_pos h7, hf]
                  rw [e1, Bool.false_and] at hk2
                  subst hk2
                  rw [if_neg (by simp)] at g4
                  subst g4
                  rw [show findF l t.fName = -1 from endI_none hf] at hF
                  repeat' ((conv => whnf); first | (with_reducible first | refine W1 ?_ | refine W2 ?_ | refine W3 ?_ | refine W4 ?_ | refine W5 ?_ | refine W6 ?_ | refine W7 ?_ | refine W8 ?_ | refine W9 ?_) | refine reg_inl ?_ | refine And.intro (Obl.out (?_ : Obl _)) ?_ | refine ifB_intro (fun h => ?_) (fun h => ?_) | refine ⟨i, y.tr, rfl, map_get hy, ?_⟩ | refine ⟨j, t.tr, rfl, map_get ht, ?_⟩ | refine Or.inl (call_intro (hI) (And.intro rfl (And.intro rfl trivial)) ?_) | refine Or.inl (call_intro (hF) (And.intro rfl (And.intro rfl trivial)) ?_) | refine Exists.intro _ (And.intro rfl ?_) | ((with_reducible show _ = _); rfl))
                  all_goals try ((with_reducible refine Obl.mk ?_); first | ((with_reducible show regOk _ _ = true); kernel_rfl) | rfl | exact trivial | ((repeat' (first | exact trivial | refine And.intro ?_ ?_)); done) | decide | ((repeat' (first | exact List.forall_mem_nil _ | refine Wm rfl ?_)); done))
                  all_goals try (exfalso; simp only [decide_eq_false_iff_not, decide_eq_true_eq] at *; omega)
                  all_goals try (exfalso; (try simp_all [within]); (try omega); done)
                | some f =>
                  obtain ⟨hfl, x, hx, hx0, _⟩ := find_some hf
                  have e1 : tokKnown l loc t = ((x.fArgs.length : Int) == t.fNum) := by unfold tokKnown; rw [if_neg h1, if_pos h7, hf]; dsimp only; rw [hx]
                  rw [e1] at hk2
                  rw [show findF l t.fName = (f : Int) from endI_some hf] at hF
                  have hxl : (x.fArgs.map strRow).length = x.fArgs.length := by simp
                  by_cases hn : (x.fArgs.length : Int) = t.fNum
                  · rw [beq_iff_eq.2 hn, Bool.true_and] at hk2
                    repeat' ((conv => whnf); first | (with_reducible first | refine W1 ?_ | refine W2 ?_ | refine W3 ?_ | refine W4 ?_ | refine W5 ?_ | refine W6 ?_ | refine W7 ?_ | refine W8 ?_ | refine W9 ?_) | refine reg_inl ?_ | refine And.intro (Obl.out (?_ : Obl _)) ?_ | refine ifB_intro (fun h => ?_) (fun h => ?_) | refine ⟨i, y.tr, rfl, map_get hy, ?_⟩ | refine ⟨j, t.tr, rfl, map_get ht, ?_⟩ | refine ⟨f, x.tr, rfl, map_get hx, ?_⟩ | refine Or.inl (call_intro (hI) (And.intro rfl (And.intro rfl trivial)) ?_) | refine Or.inl (call_intro (hF) (And.intro rfl (And.intro rfl trivial)) ?_) | refine Exists.intro _ (And.intro rfl ?_) | ((with_reducible show _ = _); rfl))
                    all_goals try ((with_reducible refine Obl.mk ?_); first | ((with_reducible show regOk _ _ = true); kernel_rfl) | rfl | exact trivial | ((repeat' (first | exact trivial | refine And.intro ?_ ?_)); done) | decide | ((repeat' (first | exact List.forall_mem_nil _ | refine Wm rfl ?_)); done))
                    all_goals try (exfalso; simp only [decide_eq_false_iff_not, decide_eq_true_eq] at *; omega)
                    all_goals try (exfalso; (try simp_all [within]); (try omega); done)
                    all_goals try (exfalso; simp_all; done)
                    conv => whnf
                    refine ⟨⟨j + 1, by omega, hk2⟩, ?_, by dsimp only; omega⟩
                    repeat' ((conv => whnf); first | (with_reducible first | refine W1 ?_ | refine W2 ?_ | refine W3 ?_ | refine W4 ?_ | refine W5 ?_ | refine W6 ?_ | refine W7 ?_ | refine W8 ?_ | refine W9 ?_) | refine reg_inl ?_ | refine And.intro (Obl.out (?_ : Obl _)) ?_ | refine ifB_intro (fun h => ?_) (fun h => ?_) | refine Exists.intro _ (And.intro rfl ?_) | ((with_reducible show _ = _); rfl))
                    all_goals try ((with_reducible refine Obl.mk ?_); first | ((with_reducible show regOk _ _ = true); kernel_rfl) | rfl | exact trivial | ((repeat' (first | exact trivial | refine And.intro ?_ ?_)); done) | decide | ((repeat' (first | exact List.forall_mem_nil _ | refine Wm rfl ?_)); done))
                    all_goals try exact ⟨by dsimp only; rw [IntWalk.i64_in _ (by omega)]; rfl⟩
                  · rw [beq_eq_false_iff_ne.2 hn, Bool.false_and] at hk2
                    subst hk2
                    rw [if_neg (by simp)] at g4
                    subst g4
                    repeat' ((conv => whnf); first | (with_reducible first | refine W1 ?_ | refine W2 ?_ | refine W3 ?_ | refine W4 ?_ | refine W5 ?_ | refine W6 ?_ | refine W7 ?_ | refine W8 ?_ | refine W9 ?_) | refine reg_inl ?_ | refine And.intro (Obl.out (?_ : Obl _)) ?_ | refine ifB_intro (fun h => ?_) (fun h => ?_) | refine ⟨i, y.tr, rfl, map_get hy, ?_⟩ | refine ⟨j, t.tr, rfl, map_get ht, ?_⟩ | refine ⟨f, x.tr, rfl, map_get hx, ?_⟩ | refine Or.inl (call_intro (hI) (And.intro rfl (And.intro rfl trivial)) ?_) | refine Or.inl (call_intro (hF) (And.intro rfl (And.intro rfl trivial)) ?_) | refine Exists.intro _ (And.intro rfl ?_) | ((with_reducible show _ = _); rfl))
                    all_goals try ((with_reducible refine Obl.mk ?_); first | ((with_reducible show regOk _ _ = true); kernel_rfl) | rfl | exact trivial | ((repeat' (first | exact trivial | refine And.intro ?_ ?_)); done) | decide | ((repeat' (first | exact List.forall_mem_nil _ | refine Wm rfl ?_)); done))
                    all_goals try (exfalso; simp only [decide_eq_false_iff_not, decide_eq_true_eq] at *; omega)
                    all_goals try (exfalso; (try simp_all [within]); (try omega); done)
                    all_goals try (exfalso; simp_all; done)
              · have e1 : tokKnown l loc t = true := by unfold tokKnown; rw [if_neg h1, if_neg h7]
                rw [e1, Bool.true_and] at hk2
                repeat' ((conv => whnf); first | (with_reducible first | refine W1 ?_ | refine W2 ?_ | refine W3 ?_ | refine W4 ?_ | refine W5 ?_ | refine W6 ?_ | refine W7 ?_ | refine W8 ?_ | refine W9 ?_) | refine reg_inl ?_ | refine And.intro (Obl.out (?_ : Obl _)) ?_ | refine ifB_intro (fun h => ?_) (fun h => ?_) | refine ⟨i, y.tr, rfl, map_get hy, ?_⟩ | refine ⟨j, t.tr, rfl, map_get ht, ?_⟩ | refine Or.inl (call_intro (hI) (And.intro rfl (And.intro rfl trivial)) ?_) | refine Or.inl (call_intro (hF) (And.intro rfl (And.intro rfl trivial)) ?_) | refine Exists.intro _ (And.intro rfl ?_) | ((with_reducible show _ = _); rfl))
                all_goals try ((with_reducible refine Obl.mk ?_); first | ((with_reducible show regOk _ _ = true); kernel_rfl) | rfl | exact trivial | ((repeat' (first | exact trivial | refine And.intro ?_ ?_)); done) | decide | ((repeat' (first | exact List.forall_mem_nil _ | refine Wm rfl ?_)); done))
                all_goals try (exfalso; simp only [decide_eq_false_iff_not, decide_eq_true_eq] at *; omega)
                all_goals try (exfalso; (try simp_all [within]); (try omega); done)
                all_goals try (exfalso; simp_all; done)
                conv => whnf
                refine ⟨⟨j + 1, by omega, hk2⟩, ?_, by dsimp only; omega⟩
                repeat' ((conv => whnf); first | (with_reducible first | refine W1 ?_ | refine W2 ?_ | refine W3 ?_ | refine W4 ?_ | refine W5 ?_ | refine W6 ?_ | refine W7 ?_ | refine W8 ?_ | refine W9 ?_) | refine reg_inl ?_ | refine And.intro (Obl.out (?_ : Obl _)) ?_ | refine ifB_intro (fun h => ?_) (fun h => ?_) | refine Exists.intro _ (And.intro rfl ?_) | ((with_reducible show _ = _); rfl))
                all_goals try ((with_reducible refine Obl.mk ?_); first | ((with_reducible show regOk _ _ = true); kernel_rfl) | rfl | exact trivial | ((repeat' (first | exact trivial | refine And.intro ?_ ?_)); done) | decide | ((repeat' (first | exact List.forall_mem_nil _ | refine Wm rfl ?_)); done))
                all_goals try exact ⟨by dsimp only; rw [IntWalk.i64_in _ (by omega)]; rfl⟩
          · rw [List.drop_eq_nil_of_le (by omega), List.all_nil] at hk2
            subst hk2
            rw [if_pos rfl] at g4
            repeat' ((conv => whnf); first | (with_reducible first | refine W1 ?_ | refine W2 ?_ | refine W3 ?_ | refine W4 ?_ | refine W5 ?_ | refine W6 ?_ | refine W7 ?_ | refine W8 ?_ | refine W9 ?_) | refine reg_inl ?_ | refine And.intro (Obl.out (?_ : Obl _)) ?_ | refine ifB_intro (fun h => ?_) (fun h => ?_) | refine ⟨i, y.tr, rfl, map_get hy, ?_⟩ | refine Exists.intro _ (And.intro rfl ?_) | ((with_reducible show _ = _); rfl))
            all_goals try ((with_reducible refine Obl.mk ?_); first | ((with_reducible show regOk _ _ = true); kernel_rfl) | rfl | exact trivial | ((repeat' (first | exact trivial | refine And.intro ?_ ?_)); done) | decide | ((repeat' (first | exact List.forall_mem_nil _ | refine Wm rfl ?_)); done))
            all_goals try (exfalso; have h' := of_decide_eq_true h; rw [hel3] at h'; omega)
            conv => whnf
            refine ⟨⟨(i + 1, es'), by dsimp only; omega, by dsimp only; omega, hst', by dsimp only; omega, by dsimp only; rw [← hdl]; exact g4⟩, ?_, by dsimp only; omega⟩
            repeat' ((conv => whnf); first | (with_reducible first | refine W1 ?_ | refine W2 ?_ | refine W3 ?_ | refine W4 ?_ | refine W5 ?_ | refine W6 ?_ | refine W7 ?_ | refine W8 ?_ | refine W9 ?_) | refine reg_inl ?_ | refine And.intro (Obl.out (?_ : Obl _)) ?_ | refine ifB_intro (fun h => ?_) (fun h => ?_) | refine Exists.intro _ (And.intro rfl ?_) | ((with_reducible show _ = _); rfl))
            all_goals try ((with_reducible refine Obl.mk ?_); first | ((with_reducible show regOk _ _ = true); kernel_rfl) | rfl | exact trivial | ((repeat' (first | exact trivial | refine And.intro ?_ ?_)); done) | decide | ((repeat' (first | exact List.forall_mem_nil _ | refine Wm rfl ?_)); done))
            all_goals try exact ⟨by dsimp only; rw [hdl]⟩
            all_goals try exact ⟨by dsimp only; rw [IntWalk.i64_in _ (by omega)]; rfl⟩
        · rw [if_neg (fun h => hd4 h.1)] at g4
          subst g4
          repeat' ((conv => whnf); first | (with_reducible first | refine W1 ?_ | refine W2 ?_ | refine W3 ?_ | refine W4 ?_ | refine W5 ?_ | refine W6 ?_ | refine W7 ?_ | refine W8 ?_ | refine W9 ?_) | refine reg_inl ?_ | refine And.intro (Obl.out (?_ : Obl _)) ?_ | refine ifB_intro (fun h => ?_) (fun h => ?_) | refine ⟨i, y.tr, rfl, map_get hy, ?_⟩ | refine Exists.intro _ (And.intro rfl ?_) | ((with_reducible show _ = _); rfl))
          all_goals try ((with_reducible refine Obl.mk ?_); first | ((with_reducible show regOk _ _ = true); kernel_rfl) | rfl | exact trivial | ((repeat' (first | exact trivial | refine And.intro ?_ ?_)); done) | decide | ((repeat' (first | exact List.forall_mem_nil _ | refine Wm rfl ?_)); done))
          all_goals try (exfalso; simp only [decide_eq_false_iff_not, decide_eq_true_eq] at *; omega)
          all_goals try (exfalso; simp only [decide_eq_false_iff_not, decide_eq_true_eq] at h; omega)
    · rw [bodyS_end (by omega)] at g4
      subst g4
      repeat' ((conv => whnf); first | (with_reducible first | refine W1 ?_ | refine W2 ?_ | refine W3 ?_ | refine W4 ?_ | refine W5 ?_ | refine W6 ?_ | refine W7 ?_ | refine W8 ?_ | refine W9 ?_) | refine reg_inl ?_ | refine And.intro (Obl.out (?_ : Obl _)) ?_ | refine ifB_intro (fun h => ?_) (fun h => ?_) | refine Exists.intro _ (And.intro rfl ?_) | ((with_reducible show _ = _); rfl))
      all_goals try ((with_reducible refine Obl.mk ?_); first | ((with_reducible show regOk _ _ = true); kernel_rfl) | rfl | exact trivial | ((repeat' (first | exact trivial | refine And.intro ?_ ?_)); done) | decide | ((repeat' (first | exact List.forall_mem_nil _ | refine Wm rfl ?_)); done))
      all_goals try (exfalso; simp only [decide_eq_false_iff_not, decide_eq_true_eq] at *; omega)
  · rw [decide_eq_false h8, Bool.false_and]
    repeat' ((conv => whnf); first | (with_reducible first | refine W1 ?_ | refine W2 ?_ | refine W3 ?_ | refine W4 ?_ | refine W5 ?_ | refine W6 ?_ | refine W7 ?_ | refine W8 ?_ | refine W9 ?_) | refine reg_inl ?_ | refine And.intro (Obl.out (?_ : Obl _)) ?_ | refine ifB_intro (fun h => ?_) (fun h => ?_) | refine Or.inl (call_intro (hL) (And.intro rfl (And.intro rfl trivial)) ?_) | refine Exists.intro _ (And.intro rfl ?_) | ((with_reducible show _ = _); rfl))
    all_goals try ((with_reducible refine Obl.mk ?_); first | ((with_reducible show regOk _ _ = true); kernel_rfl) | rfl | exact trivial | ((repeat' (first | exact trivial | refine And.intro ?_ ?_)); done) | decide | ((repeat' (first | exact List.forall_mem_nil _ | refine Wm rfl ?_)); done))
    all_goals try (exfalso; simp only [decide_eq_false_iff_not, decide_eq_true_eq] at *; omega)
theorem funs_all {l : List TLine} : (funs l).all (nameFirst l) = true ↔ ∀ k x, l[k]? = some x → x.fKind = 0 → nameFirst l k = true := by
  rw [List.all_eq_true]
  constructor
  · intro H k x hx h0
    refine H k ?_
    have key : ∀ (n i : Nat), l.length - i ≤ n → i ≤ k → k ∈ funsF (l.drop i) i := by
      have hkl : k < l.length := by
        rcases Nat.lt_or_ge k l.length with h | h
        · exact h
        · rw [List.getElem?_eq_none h] at hx; cases hx
      intro n
      induction n with
      | zero => intro i h1 h2; omega
      | succ n ih =>
        intro i h1 h2
        obtain ⟨y, hy⟩ := get_of_lt (l := l) (k := i) (by omega)
        rw [funsF_at hy, List.mem_append]
        by_cases hik : i = k
        · subst hik
          rw [hx] at hy
          injection hy with hy
          subst hy
          rw [if_pos h0]
          exact .inl (by simp)
        · exact .inr (ih (i + 1) (by omega) (by omega))
    have := key l.length 0 (by omega) (by omega)
    rwa [List.drop_zero] at this
  · intro H k hk
    obtain ⟨_, x, hx, h0⟩ := funs_lt hk
    exact H k x hx h0
def ok1 (l : List TLine) (k : Nat) (x : TLine) : Bool := lineOk x && (if x.fKind = 0 then nameFirst l k else true)
def okN (l : List TLine) : Nat → Nat → Bool
  | 0, _ => true
  | n + 1, k => match l[k]? with
    | some x => ok1 l k x && okN l n (k + 1)
    | none => true
theorem okN_step {l : List TLine} {k : Nat} {x : TLine} (hx : l[k]? = some x) : okN l (l.length - k) k = (ok1 l k x && okN l (l.length - (k + 1)) (k + 1)) := by
  have hk : k < l.length := by
    rcases Nat.lt_or_ge k l.length with h | h
    · exact h
    · rw [List.getElem?_eq_none h] at hx; cases hx
  rw [show l.length - k = (l.length - (k + 1)) + 1 by omega, okN, hx]
theorem okN_iff {l : List TLine} : ∀ (n k : Nat), l.length - k ≤ n → (okN l (l.length - k) k = true ↔ ∀ j x, k ≤ j → l[j]? = some x → ok1 l j x = true)
  | n, k, hn => by
    by_cases hk : k < l.length
    · obtain ⟨x, hx⟩ := get_of_lt hk
      cases n with
      | zero => omega
      | succ n =>
        rw [okN_step hx, Bool.and_eq_true, okN_iff n (k + 1) (by omega)]
        constructor
        · rintro ⟨h1, h2⟩ j y hj hy
          by_cases hjk : j = k
          · subst hjk
            rw [hx] at hy
            injection hy with hy
            subst hy
            exact h1
          · exact h2 j y (by omega) hy
        · intro H
          exact ⟨H k x (Nat.le_refl _) hx, fun j y hj hy => H j y (by omega) hy⟩
    · rw [show l.length - k = 0 by omega]
      refine ⟨fun _ j x hj hx => ?_, fun _ => rfl⟩
      rw [List.getElem?_eq_none (by omega)] at hx
      cases hx
theorem okN_all (l : List TLine) : okN l l.length 0 = (l.all lineOk && (funs l).all (nameFirst l)) := by
  have h0 := okN_iff (l := l) l.length 0 (by omega)
  rw [Nat.sub_zero] at h0
  rw [Bool.eq_iff_iff, h0, Bool.and_eq_true, funs_all, List.all_eq_true]
  constructor
  · intro H
    refine ⟨fun x hx => ?_, fun k x hx h0 => ?_⟩
    · obtain ⟨k, hk⟩ := List.getElem?_of_mem hx
      have := H k x (by omega) hk
      rw [ok1, Bool.and_eq_true] at this
      exact this.1
    · have := H k x (by omega) hx
      rw [ok1, Bool.and_eq_true, if_pos h0] at this
      exact this.2
  · rintro ⟨H1, H2⟩ j x _ hx
    rw [ok1, Bool.and_eq_true]
    refine ⟨H1 x (List.mem_of_getElem? hx), ?_⟩
    split
    · exact H2 j x hx (by assumption)
    · rfl
theorem programOk_S {l : List TLine} : programOk l = (decide (l.length ≤ 60) && (decide ((funs l).length ≤ 6) && (headOk l && (okN l l.length 0 && chainN (fnOkS l) l l.length 0)))) := by
  unfold programOk
  rw [okN_all, chainS_all]
  cases hh : headOk l with
  | false => simp
  | true =>
    have h1 : 1 ≤ (funs l).length := by
      cases l with
      | nil => cases hh
      | cons x r =>
        have : x.fKind = 0 := by
          unfold headOk at hh
          simp only [Bool.and_eq_true, beq_iff_eq] at hh
          exact hh.1
        rw [funs, funsF, if_pos this]
        simp
    have e : (decide (1 ≤ (funs l).length ∧ (funs l).length ≤ 6)) = decide ((funs l).length ≤ 6) := by
      rw [decide_eq_decide]
      omega
    rw [e]
    generalize decide (l.length ≤ 60) = b1
    generalize decide ((funs l).length ≤ 6) = b2
    generalize l.all lineOk = b3
    generalize (funs l).all (nameFirst l) = b4
    generalize elsesOk l = b5
    generalize chainN (fnOk l) l l.length 0 = b6
    cases b1 <;> cases b2 <;> cases b3 <;> cases b4 <;> cases b5 <;> cases b6 <;> rfl
theorem s_spec_ProgramOk (l : List TLine) (hsm : smallT 1048576 (.lst 4 (l.map TLine.tr))) : Sim.Spec Try.prog 60 [tvP l] (rB (programOk l)) := by
  refine spec_of_Wo hΓ hmix Try.func60 rfl (by decide) rfl ?_
  have hl := small_nat hsm
  have hs : ∀ x ∈ l, smallR 1048576 x.tr := fun x hx => smallRs_map hsm hx
  have hlen : (l.map TLine.tr).length = l.length := by simp
  have hF := s_spec_FunctionLines l hl
  have hfl : ((funs l).map fun n : Nat => intRow n).length = (funs l).length := by simp
  rw [programOk_S]
  by_cases c1 : l.length ≤ 60
  · rw [decide_eq_true c1, Bool.true_and]
    by_cases hpos : 0 < l.length
    · obtain ⟨x0, hx0⟩ := get_of_lt hpos
      have hal : (x0.fArgs.map strRow).length = x0.fArgs.length := by simp
      have hhd := headOk_at hx0
      by_cases c2 : (funs l).length ≤ 6
      · rw [decide_eq_true c2, Bool.true_and]
        cases hh : headOk l with
        | false =>
          rw [hh] at hhd
          rw [Bool.false_and]
          repeat' ((conv => whnf); first | (with_reducible first | refine W1 ?_ | refine W2 ?_ | refine W3 ?_ | refine W4 ?_ | refine W5 ?_ | refine W6 ?_ | refine W7 ?_ | refine W8 ?_ | refine W9 ?_) | refine reg_inl ?_ | refine And.intro (Obl.out (?_ : Obl _)) ?_ | refine ifB_intro (fun h => ?_) (fun h => ?_) | refine Or.inl (call_intro (hF) (And.intro rfl trivial) ?_) | refine ⟨0, x0.tr, rfl, map_get hx0, ?_⟩ | refine Exists.intro _ (And.intro rfl ?_) | ((with_reducible show _ = _); rfl))
          all_goals try ((with_reducible refine Obl.mk ?_); first | ((with_reducible show regOk _ _ = true); kernel_rfl) | rfl | exact trivial | ((repeat' (first | exact trivial | refine And.intro ?_ ?_)); done) | decide | ((repeat' (first | exact List.forall_mem_nil _ | refine Wm rfl ?_)); done))
          all_goals try (exfalso; simp only [decide_eq_false_iff_not, decide_eq_true_eq] at *; omega)
          all_goals try (exfalso; simp_all [mainName]; done)
        | true =>
          rw [hh] at hhd
          rw [Bool.true_and]
          cases hok : okN l l.length 0 with
          | false =>
            rw [Bool.false_and]
            repeat' ((conv => whnf); first | (with_reducible first | refine W1 ?_ | refine W2 ?_ | refine W3 ?_ | refine W4 ?_ | refine W5 ?_ | refine W6 ?_ | refine W7 ?_ | refine W8 ?_ | refine W9 ?_) | refine reg_inl ?_ | refine And.intro (Obl.out (?_ : Obl _)) ?_ | refine ifB_intro (fun h => ?_) (fun h => ?_) | refine Or.inl (call_intro (hF) (And.intro rfl trivial) ?_) | refine ⟨0, x0.tr, rfl, map_get hx0, ?_⟩ | refine Exists.intro _ (And.intro rfl ?_) | ((with_reducible show _ = _); rfl))
            all_goals try ((with_reducible refine Obl.mk ?_); first | ((with_reducible show regOk _ _ = true); kernel_rfl) | rfl | exact trivial | ((repeat' (first | exact trivial | refine And.intro ?_ ?_)); done) | decide | ((repeat' (first | exact List.forall_mem_nil _ | refine Wm rfl ?_)); done))
            all_goals try (exfalso; simp only [decide_eq_false_iff_not, decide_eq_true_eq] at *; omega)
            all_goals try (exfalso; simp_all [mainName]; done)
            conv => whnf
            refine ⟨{ k : Nat // k ≤ l.length ∧ okN l (l.length - k) k = false }, fun q => ⟨[(0, vP l), (3, tI .i64 (q.1 : Int))], [], []⟩, fun q => l.length - q.1, ⟨0, by omega, by rw [Nat.sub_zero]; exact hok⟩, ?_, ?_⟩
            · skip
              repeat' ((conv => whnf); first | (with_reducible first | refine W1 ?_ | refine W2 ?_ | refine W3 ?_ | refine W4 ?_ | refine W5 ?_ | refine W6 ?_ | refine W7 ?_ | refine W8 ?_ | refine W9 ?_) | refine reg_inl ?_ | refine And.intro (Obl.out (?_ : Obl _)) ?_ | refine ifB_intro (fun h => ?_) (fun h => ?_) | refine Exists.intro _ (And.intro rfl ?_) | ((with_reducible show _ = _); rfl))
              all_goals try ((with_reducible refine Obl.mk ?_); first | ((with_reducible show regOk _ _ = true); kernel_rfl) | rfl | exact trivial | ((repeat' (first | exact trivial | refine And.intro ?_ ?_)); done) | decide | ((repeat' (first | exact List.forall_mem_nil _ | refine Wm rfl ?_)); done))
            intro ⟨k, hk, hr⟩
            dsimp only at hk hr ⊢
            by_cases hlt : k < l.length
            · obtain ⟨x, hx⟩ := get_of_lt hlt
              rw [okN_step hx, ok1] at hr
              have hL := s_spec_LineOk x (hs x (List.mem_of_getElem? hx))
              have hN := s_spec_FindFunction l x.fName hl
              have hnf2 : (findF l x.fName == (k : Int)) = nameFirst l k := by
                unfold nameFirst
                rw [hx, findF]
                dsimp only
                cases findN l 0 x.fName with
                | none => simp [endI]
                | some m => rw [Bool.eq_iff_iff]; simp [endI]; omega
              generalize findF l x.fName = ff at *
              generalize lineOk x = lo at *
              generalize nameFirst l k = nf at *
              by_cases h0 : x.fKind = 0
              · rw [if_pos h0] at hr
                repeat' ((conv => whnf); first | (with_reducible first | refine W1 ?_ | refine W2 ?_ | refine W3 ?_ | refine W4 ?_ | refine W5 ?_ | refine W6 ?_ | refine W7 ?_ | refine W8 ?_ | refine W9 ?_) | refine reg_inl ?_ | refine And.intro (Obl.out (?_ : Obl _)) ?_ | refine ifB_intro (fun h => ?_) (fun h => ?_) | refine Or.inl (call_intro (hL) (And.intro (And.intro rfl (And.intro rfl (And.intro rfl (And.intro rfl trivial)))) trivial) ?_) | refine Or.inl (call_intro (hN) (And.intro rfl (And.intro rfl trivial)) ?_) | refine ⟨k, x.tr, rfl, map_get hx, ?_⟩ | refine Exists.intro _ (And.intro rfl ?_) | ((with_reducible show _ = _); rfl))
                all_goals try ((with_reducible refine Obl.mk ?_); first | ((with_reducible show regOk _ _ = true); kernel_rfl) | rfl | exact trivial | ((repeat' (first | exact trivial | refine And.intro ?_ ?_)); done) | decide | ((repeat' (first | exact List.forall_mem_nil _ | refine Wm rfl ?_)); done))
                all_goals try (exfalso; simp only [decide_eq_false_iff_not, decide_eq_true_eq] at *; omega)
                all_goals try (exfalso; simp_all; done)
                all_goals
                  conv => whnf
                  refine ⟨⟨k + 1, by omega, by simp_all⟩, ?_, by dsimp only; omega⟩
                  repeat' ((conv => whnf); first | (with_reducible first | refine W1 ?_ | refine W2 ?_ | refine W3 ?_ | refine W4 ?_ | refine W5 ?_ | refine W6 ?_ | refine W7 ?_ | refine W8 ?_ | refine W9 ?_) | refine reg_inl ?_ | refine And.intro (Obl.out (?_ : Obl _)) ?_ | refine ifB_intro (fun h => ?_) (fun h => ?_) | refine Exists.intro _ (And.intro rfl ?_) | ((with_reducible show _ = _); rfl))
                  all_goals try ((with_reducible refine Obl.mk ?_); first | ((with_reducible show regOk _ _ = true); kernel_rfl) | rfl | exact trivial | ((repeat' (first | exact trivial | refine And.intro ?_ ?_)); done) | decide | ((repeat' (first | exact List.forall_mem_nil _ | refine Wm rfl ?_)); done))
                  all_goals try exact ⟨by dsimp only; rw [IntWalk.i64_in _ (by omega)]; rfl⟩
              · rw [if_neg h0, Bool.and_true] at hr
                repeat' ((conv => whnf); first | (with_reducible first | refine W1 ?_ | refine W2 ?_ | refine W3 ?_ | refine W4 ?_ | refine W5 ?_ | refine W6 ?_ | refine W7 ?_ | refine W8 ?_ | refine W9 ?_) | refine reg_inl ?_ | refine And.intro (Obl.out (?_ : Obl _)) ?_ | refine ifB_intro (fun h => ?_) (fun h => ?_) | refine Or.inl (call_intro (hL) (And.intro (And.intro rfl (And.intro rfl (And.intro rfl (And.intro rfl trivial)))) trivial) ?_) | refine Or.inl (call_intro (hN) (And.intro rfl (And.intro rfl trivial)) ?_) | refine ⟨k, x.tr, rfl, map_get hx, ?_⟩ | refine Exists.intro _ (And.intro rfl ?_) | ((with_reducible show _ = _); rfl))
                all_goals try ((with_reducible refine Obl.mk ?_); first | ((with_reducible show regOk _ _ = true); kernel_rfl) | rfl | exact trivial | ((repeat' (first | exact trivial | refine And.intro ?_ ?_)); done) | decide | ((repeat' (first | exact List.forall_mem_nil _ | refine Wm rfl ?_)); done))
                all_goals try (exfalso; simp only [decide_eq_false_iff_not, decide_eq_true_eq] at *; omega)
                all_goals try (exfalso; simp_all; done)
                all_goals
                  conv => whnf
                  refine ⟨⟨k + 1, by omega, by simp_all⟩, ?_, by dsimp only; omega⟩
                  repeat' ((conv => whnf); first | (with_reducible first | refine W1 ?_ | refine W2 ?_ | refine W3 ?_ | refine W4 ?_ | refine W5 ?_ | refine W6 ?_ | refine W7 ?_ | refine W8 ?_ | refine W9 ?_) | refine reg_inl ?_ | refine And.intro (Obl.out (?_ : Obl _)) ?_ | refine ifB_intro (fun h => ?_) (fun h => ?_) | refine Exists.intro _ (And.intro rfl ?_) | ((with_reducible show _ = _); rfl))
                  all_goals try ((with_reducible refine Obl.mk ?_); first | ((with_reducible show regOk _ _ = true); kernel_rfl) | rfl | exact trivial | ((repeat' (first | exact trivial | refine And.intro ?_ ?_)); done) | decide | ((repeat' (first | exact List.forall_mem_nil _ | refine Wm rfl ?_)); done))
                  all_goals try exact ⟨by dsimp only; rw [IntWalk.i64_in _ (by omega)]; rfl⟩
            · rw [show l.length - k = 0 by omega] at hr
              cases hr
          | true =>
            rw [Bool.true_and]
            obtain ⟨R, hR⟩ : ∃ R, chainN (fnOkS l) l l.length 0 = R := ⟨_, rfl⟩
            rw [hR]
            have hoka := (okN_iff (l := l) l.length 0 (by omega))
            rw [Nat.sub_zero] at hoka
            have hoka := hoka.1 hok
            repeat' ((conv => whnf); first | (with_reducible first | refine W1 ?_ | refine W2 ?_ | refine W3 ?_ | refine W4 ?_ | refine W5 ?_ | refine W6 ?_ | refine W7 ?_ | refine W8 ?_ | refine W9 ?_) | refine reg_inl ?_ | refine And.intro (Obl.out (?_ : Obl _)) ?_ | refine ifB_intro (fun h => ?_) (fun h => ?_) | refine Or.inl (call_intro (hF) (And.intro rfl trivial) ?_) | refine ⟨0, x0.tr, rfl, map_get hx0, ?_⟩ | refine Exists.intro _ (And.intro rfl ?_) | ((with_reducible show _ = _); rfl))
            all_goals try ((with_reducible refine Obl.mk ?_); first | ((with_reducible show regOk _ _ = true); kernel_rfl) | rfl | exact trivial | ((repeat' (first | exact trivial | refine And.intro ?_ ?_)); done) | decide | ((repeat' (first | exact List.forall_mem_nil _ | refine Wm rfl ?_)); done))
            all_goals try (exfalso; simp only [decide_eq_false_iff_not, decide_eq_true_eq] at *; omega)
            all_goals try (exfalso; simp_all [mainName]; done)
            conv => whnf
            refine ⟨{ k : Nat // k ≤ l.length }, fun q => ⟨[(0, vP l), (3, tI .i64 (q.1 : Int))], [], []⟩, fun q => l.length - q.1, ⟨0, by omega⟩, ?_, ?_⟩
            · skip
              repeat' ((conv => whnf); first | (with_reducible first | refine W1 ?_ | refine W2 ?_ | refine W3 ?_ | refine W4 ?_ | refine W5 ?_ | refine W6 ?_ | refine W7 ?_ | refine W8 ?_ | refine W9 ?_) | refine reg_inl ?_ | refine And.intro (Obl.out (?_ : Obl _)) ?_ | refine ifB_intro (fun h => ?_) (fun h => ?_) | refine Exists.intro _ (And.intro rfl ?_) | ((with_reducible show _ = _); rfl))
              all_goals try ((with_reducible refine Obl.mk ?_); first | ((with_reducible show regOk _ _ = true); kernel_rfl) | rfl | exact trivial | ((repeat' (first | exact trivial | refine And.intro ?_ ?_)); done) | decide | ((repeat' (first | exact List.forall_mem_nil _ | refine Wm rfl ?_)); done))
            intro ⟨k, hk⟩
            dsimp only at hk ⊢
            by_cases hlt : k < l.length
            · obtain ⟨x, hx⟩ := get_of_lt hlt
              have hr := hoka k x (by omega) hx
              rw [ok1] at hr
              have hL := s_spec_LineOk x (hs x (List.mem_of_getElem? hx))
              have hN := s_spec_FindFunction l x.fName hl
              have hnf2 : (findF l x.fName == (k : Int)) = nameFirst l k := by
                unfold nameFirst
                rw [hx, findF]
                dsimp only
                cases findN l 0 x.fName with
                | none => simp [endI]
                | some m => rw [Bool.eq_iff_iff]; simp [endI]; omega
              clear hoka hok
              generalize findF l x.fName = ff at *
              generalize lineOk x = lo at *
              generalize nameFirst l k = nf at *
              by_cases h0 : x.fKind = 0
              · rw [if_pos h0] at hr
                repeat' ((conv => whnf); first | (with_reducible first | refine W1 ?_ | refine W2 ?_ | refine W3 ?_ | refine W4 ?_ | refine W5 ?_ | refine W6 ?_ | refine W7 ?_ | refine W8 ?_ | refine W9 ?_) | refine reg_inl ?_ | refine And.intro (Obl.out (?_ : Obl _)) ?_ | refine ifB_intro (fun h => ?_) (fun h => ?_) | refine Or.inl (call_intro (hL) (And.intro (And.intro rfl (And.intro rfl (And.intro rfl (And.intro rfl trivial)))) trivial) ?_) | refine Or.inl (call_intro (hN) (And.intro rfl (And.intro rfl trivial)) ?_) | refine ⟨k, x.tr, rfl, map_get hx, ?_⟩ | refine Exists.intro _ (And.intro rfl ?_) | ((with_reducible show _ = _); rfl))
                all_goals try ((with_reducible refine Obl.mk ?_); first | ((with_reducible show regOk _ _ = true); kernel_rfl) | rfl | exact trivial | ((repeat' (first | exact trivial | refine And.intro ?_ ?_)); done) | decide | ((repeat' (first | exact List.forall_mem_nil _ | refine Wm rfl ?_)); done))
                all_goals try (exfalso; simp only [decide_eq_false_iff_not, decide_eq_true_eq] at *; omega)
                all_goals try (exfalso; simp_all; done)
                all_goals
                  conv => whnf
                  refine ⟨⟨k + 1, by omega⟩, ?_, by dsimp only; omega⟩
                  repeat' ((conv => whnf); first | (with_reducible first | refine W1 ?_ | refine W2 ?_ | refine W3 ?_ | refine W4 ?_ | refine W5 ?_ | refine W6 ?_ | refine W7 ?_ | refine W8 ?_ | refine W9 ?_) | refine reg_inl ?_ | refine And.intro (Obl.out (?_ : Obl _)) ?_ | refine ifB_intro (fun h => ?_) (fun h => ?_) | refine Exists.intro _ (And.intro rfl ?_) | ((with_reducible show _ = _); rfl))
                  all_goals try ((with_reducible refine Obl.mk ?_); first | ((with_reducible show regOk _ _ = true); kernel_rfl) | rfl | exact trivial | ((repeat' (first | exact trivial | refine And.intro ?_ ?_)); done) | decide | ((repeat' (first | exact List.forall_mem_nil _ | refine Wm rfl ?_)); done))
                  all_goals try exact ⟨by dsimp only; rw [IntWalk.i64_in _ (by omega)]; rfl⟩
              · rw [if_neg h0, Bool.and_true] at hr
                repeat' ((conv => whnf); first | (with_reducible first | refine W1 ?_ | refine W2 ?_ | refine W3 ?_ | refine W4 ?_ | refine W5 ?_ | refine W6 ?_ | refine W7 ?_ | refine W8 ?_ | refine W9 ?_) | refine reg_inl ?_ | refine And.intro (Obl.out (?_ : Obl _)) ?_ | refine ifB_intro (fun h => ?_) (fun h => ?_) | refine Or.inl (call_intro (hL) (And.intro (And.intro rfl (And.intro rfl (And.intro rfl (And.intro rfl trivial)))) trivial) ?_) | refine Or.inl (call_intro (hN) (And.intro rfl (And.intro rfl trivial)) ?_) | refine ⟨k, x.tr, rfl, map_get hx, ?_⟩ | refine Exists.intro _ (And.intro rfl ?_) | ((with_reducible show _ = _); rfl))
                all_goals try ((with_reducible refine Obl.mk ?_); first | ((with_reducible show regOk _ _ = true); kernel_rfl) | rfl | exact trivial | ((repeat' (first | exact trivial | refine And.intro ?_ ?_)); done) | decide | ((repeat' (first | exact List.forall_mem_nil _ | refine Wm rfl ?_)); done))
                all_goals try (exfalso; simp only [decide_eq_false_iff_not, decide_eq_true_eq] at *; omega)
                all_goals try (exfalso; simp_all; done)
                all_goals
                  conv => whnf
                  refine ⟨⟨k + 1, by omega⟩, ?_, by dsimp only; omega⟩
                  repeat' ((conv => whnf); first | (with_reducible first | refine W1 ?_ | refine W2 ?_ | refine W3 ?_ | refine W4 ?_ | refine W5 ?_ | refine W6 ?_ | refine W7 ?_ | refine W8 ?_ | refine W9 ?_) | refine reg_inl ?_ | refine And.intro (Obl.out (?_ : Obl _)) ?_ | refine ifB_intro (fun h => ?_) (fun h => ?_) | refine Exists.intro _ (And.intro rfl ?_) | ((with_reducible show _ = _); rfl))
                  all_goals try ((with_reducible refine Obl.mk ?_); first | ((with_reducible show regOk _ _ = true); kernel_rfl) | rfl | exact trivial | ((repeat' (first | exact trivial | refine And.intro ?_ ?_)); done) | decide | ((repeat' (first | exact List.forall_mem_nil _ | refine Wm rfl ?_)); done))
                  all_goals try exact ⟨by dsimp only; rw [IntWalk.i64_in _ (by omega)]; rfl⟩
            · skip
              repeat' ((conv => whnf); first | (with_reducible first | refine W1 ?_ | refine W2 ?_ | refine W3 ?_ | refine W4 ?_ | refine W5 ?_ | refine W6 ?_ | refine W7 ?_ | refine W8 ?_ | refine W9 ?_) | refine reg_inl ?_ | refine And.intro (Obl.out (?_ : Obl _)) ?_ | refine ifB_intro (fun h => ?_) (fun h => ?_) | refine Exists.intro _ (And.intro rfl ?_) | ((with_reducible show _ = _); rfl))
              all_goals try ((with_reducible refine Obl.mk ?_); first | ((with_reducible show regOk _ _ = true); kernel_rfl) | rfl | exact trivial | ((repeat' (first | exact trivial | refine And.intro ?_ ?_)); done) | decide | ((repeat' (first | exact List.forall_mem_nil _ | refine Wm rfl ?_)); done))
              all_goals try (exfalso; simp only [decide_eq_false_iff_not, decide_eq_true_eq] at *; omega)
              conv => whnf
              refine ⟨{ k : Nat // k ≤ l.length ∧ chainN (fnOkS l) l (l.length - k) k = R }, fun q => ⟨[(0, vP l), (4, tI .i64 (q.1 : Int))], [], []⟩, fun q => l.length - q.1, ⟨0, by omega, by rw [Nat.sub_zero]; exact hR⟩, ?_, ?_⟩
              · skip
                repeat' ((conv => whnf); first | (with_reducible first | refine W1 ?_ | refine W2 ?_ | refine W3 ?_ | refine W4 ?_ | refine W5 ?_ | refine W6 ?_ | refine W7 ?_ | refine W8 ?_ | refine W9 ?_) | refine reg_inl ?_ | refine And.intro (Obl.out (?_ : Obl _)) ?_ | refine ifB_intro (fun h => ?_) (fun h => ?_) | refine Exists.intro _ (And.intro rfl ?_) | ((with_reducible show _ = _); rfl))
                all_goals try ((with_reducible refine Obl.mk ?_); first | ((with_reducible show regOk _ _ = true); kernel_rfl) | rfl | exact trivial | ((repeat' (first | exact trivial | refine And.intro ?_ ?_)); done) | decide | ((repeat' (first | exact List.forall_mem_nil _ | refine Wm rfl ?_)); done))
              intro ⟨k, hk, hr⟩
              dsimp only at hk hr ⊢
              by_cases hlt : k < l.length
              · obtain ⟨x, hx⟩ := get_of_lt hlt
                rw [chainN_step hx (Nat.le_refl _)] at hr
                have hE := s_spec_EndOf l (k : Int) hl
                cases he : endAt l k with
                | none =>
                  rw [endOf_at, endI_none he] at hE
                  rw [he] at hr
                  subst hr
                  repeat' ((conv => whnf); first | (with_reducible first | refine W1 ?_ | refine W2 ?_ | refine W3 ?_ | refine W4 ?_ | refine W5 ?_ | refine W6 ?_ | refine W7 ?_ | refine W8 ?_ | refine W9 ?_) | refine reg_inl ?_ | refine And.intro (Obl.out (?_ : Obl _)) ?_ | refine ifB_intro (fun h => ?_) (fun h => ?_) | refine Or.inl (call_intro (hE) (And.intro rfl (And.intro rfl trivial)) ?_) | refine ⟨k, x.tr, rfl, map_get hx, ?_⟩ | refine Exists.intro _ (And.intro rfl ?_) | ((with_reducible show _ = _); rfl))
                  all_goals try ((with_reducible refine Obl.mk ?_); first | ((with_reducible show regOk _ _ = true); kernel_rfl) | rfl | exact trivial | ((repeat' (first | exact trivial | refine And.intro ?_ ?_)); done) | decide | ((repeat' (first | exact List.forall_mem_nil _ | refine Wm rfl ?_)); done))
                  all_goals try (exfalso; simp only [decide_eq_false_iff_not, decide_eq_true_eq] at *; omega)
                  all_goals try (exfalso; simp_all; done)
                | some e =>
                  obtain ⟨_, _, _, _, hke, hel⟩ := endAt_some he
                  rw [endOf_at, endI_some he] at hE
                  rw [he] at hr
                  dsimp only at hr
                  have hK := s_spec_l04Body l k e c1 hs he
                  generalize fnOkS l k e = fb at *
                  by_cases hc : x.fKind = 0 ∧ fb = true
                  · rw [if_pos hc] at hr
                    obtain ⟨d1, d2⟩ := hc
                    subst d2
                    repeat' ((conv => whnf); first | (with_reducible first | refine W1 ?_ | refine W2 ?_ | refine W3 ?_ | refine W4 ?_ | refine W5 ?_ | refine W6 ?_ | refine W7 ?_ | refine W8 ?_ | refine W9 ?_) | refine reg_inl ?_ | refine And.intro (Obl.out (?_ : Obl _)) ?_ | refine ifB_intro (fun h => ?_) (fun h => ?_) | refine Or.inl (call_intro (hE) (And.intro rfl (And.intro rfl trivial)) ?_) | refine Or.inl (call_intro (hK) (And.intro rfl (And.intro rfl (And.intro rfl trivial))) ?_) | refine ⟨k, x.tr, rfl, map_get hx, ?_⟩ | refine Exists.intro _ (And.intro rfl ?_) | ((with_reducible show _ = _); rfl))
                    all_goals try ((with_reducible refine Obl.mk ?_); first | ((with_reducible show regOk _ _ = true); kernel_rfl) | rfl | exact trivial | ((repeat' (first | exact trivial | refine And.intro ?_ ?_)); done) | decide | ((repeat' (first | exact List.forall_mem_nil _ | refine Wm rfl ?_)); done))
                    all_goals try (exfalso; simp only [decide_eq_false_iff_not, decide_eq_true_eq] at *; omega)
                    all_goals try (exfalso; simp_all; done)
                    conv => whnf
                    refine ⟨⟨e + 1, by omega, hr⟩, ?_, by dsimp only; omega⟩
                    repeat' ((conv => whnf); first | (with_reducible first | refine W1 ?_ | refine W2 ?_ | refine W3 ?_ | refine W4 ?_ | refine W5 ?_ | refine W6 ?_ | refine W7 ?_ | refine W8 ?_ | refine W9 ?_) | refine reg_inl ?_ | refine And.intro (Obl.out (?_ : Obl _)) ?_ | refine ifB_intro (fun h => ?_) (fun h => ?_) | refine Exists.intro _ (And.intro rfl ?_) | ((with_reducible show _ = _); rfl))
                    all_goals try ((with_reducible refine Obl.mk ?_); first | ((with_reducible show regOk _ _ = true); kernel_rfl) | rfl | exact trivial | ((repeat' (first | exact trivial | refine And.intro ?_ ?_)); done) | decide | ((repeat' (first | exact List.forall_mem_nil _ | refine Wm rfl ?_)); done))
                    all_goals try exact ⟨by dsimp only; rw [IntWalk.i64_in _ (by omega)]; rfl⟩
                  · rw [if_neg hc] at hr
                    subst hr
                    repeat' ((conv => whnf); first | (with_reducible first | refine W1 ?_ | refine W2 ?_ | refine W3 ?_ | refine W4 ?_ | refine W5 ?_ | refine W6 ?_ | refine W7 ?_ | refine W8 ?_ | refine W9 ?_) | refine reg_inl ?_ | refine And.intro (Obl.out (?_ : Obl _)) ?_ | refine ifB_intro (fun h => ?_) (fun h => ?_) | refine Or.inl (call_intro (hE) (And.intro rfl (And.intro rfl trivial)) ?_) | refine Or.inl (call_intro (hK) (And.intro rfl (And.intro rfl (And.intro rfl trivial))) ?_) | refine ⟨k, x.tr, rfl, map_get hx, ?_⟩ | refine Exists.intro _ (And.intro rfl ?_) | ((with_reducible show _ = _); rfl))
                    all_goals try ((with_reducible refine Obl.mk ?_); first | ((with_reducible show regOk _ _ = true); kernel_rfl) | rfl | exact trivial | ((repeat' (first | exact trivial | refine And.intro ?_ ?_)); done) | decide | ((repeat' (first | exact List.forall_mem_nil _ | refine Wm rfl ?_)); done))
                    all_goals try (exfalso; simp only [decide_eq_false_iff_not, decide_eq_true_eq] at *; omega)
                    all_goals try (exfalso; simp_all; done)
              · rw [show l.length - k = 0 by omega, chainN, decide_eq_true (by omega)] at hr
                subst hr
                repeat' ((conv => whnf); first | (with_reducible first | refine W1 ?_ | refine W2 ?_ | refine W3 ?_ | refine W4 ?_ | refine W5 ?_ | refine W6 ?_ | refine W7 ?_ | refine W8 ?_ | refine W9 ?_) | refine reg_inl ?_ | refine And.intro (Obl.out (?_ : Obl _)) ?_ | refine ifB_intro (fun h => ?_) (fun h => ?_) | refine Exists.intro _ (And.intro rfl ?_) | ((with_reducible show _ = _); rfl))
                all_goals try ((with_reducible refine Obl.mk ?_); first | ((with_reducible show regOk _ _ = true); kernel_rfl) | rfl | exact trivial | ((repeat' (first | exact trivial | refine And.intro ?_ ?_)); done) | decide | ((repeat' (first | exact List.forall_mem_nil _ | refine Wm rfl ?_)); done))
                all_goals try (exfalso; simp only [decide_eq_false_iff_not, decide_eq_true_eq] at *; omega)
      · rw [decide_eq_false c2, Bool.false_and]
        repeat' ((conv => whnf); first | (with_reducible first | refine W1 ?_ | refine W2 ?_ | refine W3 ?_ | refine W4 ?_ | refine W5 ?_ | refine W6 ?_ | refine W7 ?_ | refine W8 ?_ | refine W9 ?_) | refine reg_inl ?_ | refine And.intro (Obl.out (?_ : Obl _)) ?_ | refine ifB_intro (fun h => ?_) (fun h => ?_) | refine Or.inl (call_intro (hF) (And.intro rfl trivial) ?_) | refine ⟨0, x0.tr, rfl, map_get hx0, ?_⟩ | refine Exists.intro _ (And.intro rfl ?_) | ((with_reducible show _ = _); rfl))
        all_goals try ((with_reducible refine Obl.mk ?_); first | ((with_reducible show regOk _ _ = true); kernel_rfl) | rfl | exact trivial | ((repeat' (first | exact trivial | refine And.intro ?_ ?_)); done) | decide | ((repeat' (first | exact List.forall_mem_nil _ | refine Wm rfl ?_)); done))
        all_goals try (exfalso; simp only [decide_eq_false_iff_not, decide_eq_true_eq] at *; omega)
        all_goals try (exfalso; simp_all [mainName]; done)
    · have hnil : l = [] := List.length_eq_zero_iff.1 (by omega)
      subst hnil
      rw [show headOk ([] : List TLine) = false from rfl, Bool.false_and, Bool.and_false]
      repeat' ((conv => whnf); first | (with_reducible first | refine W1 ?_ | refine W2 ?_ | refine W3 ?_ | refine W4 ?_ | refine W5 ?_ | refine W6 ?_ | refine W7 ?_ | refine W8 ?_ | refine W9 ?_) | refine reg_inl ?_ | refine And.intro (Obl.out (?_ : Obl _)) ?_ | refine ifB_intro (fun h => ?_) (fun h => ?_) | refine Or.inl (call_intro (hF) (And.intro rfl trivial) ?_) | refine Exists.intro _ (And.intro rfl ?_) | ((with_reducible show _ = _); rfl))
      all_goals try ((with_reducible refine Obl.mk ?_); first | ((with_reducible show regOk _ _ = true); kernel_rfl) | rfl | exact trivial | ((repeat' (first | exact trivial | refine And.intro ?_ ?_)); done) | decide | ((repeat' (first | exact List.forall_mem_nil _ | refine Wm rfl ?_)); done))
      all_goals try (exfalso; simp only [decide_eq_false_iff_not, decide_eq_true_eq] at *; omega)
  · rw [decide_eq_false c1, Bool.false_and]
    repeat' ((conv => whnf); first | (with_reducible first | refine W1 ?_ | refine W2 ?_ | refine W3 ?_ | refine W4 ?_ | refine W5 ?_ | refine W6 ?_ | refine W7 ?_ | refine W8 ?_ | refine W9 ?_) | refine reg_inl ?_ | refine And.intro (Obl.out (?_ : Obl _)) ?_ | refine ifB_intro (fun h => ?_) (fun h => ?_) | refine Or.inl (call_intro (hF) (And.intro rfl trivial) ?_) | refine Exists.intro _ (And.intro rfl ?_) | ((with_reducible show _ = _); rfl))
    all_goals try ((with_reducible refine Obl.mk ?_); first | ((with_reducible show regOk _ _ = true); kernel_rfl) | rfl | exact trivial | ((repeat' (first | exact trivial | refine And.intro ?_ ?_)); done) | decide | ((repeat' (first | exact List.forall_mem_nil _ | refine Wm rfl ?_)); done))
    all_goals try (exfalso; simp only [decide_eq_false_iff_not, decide_eq_true_eq] at *; omega)
    all_goals try (exfalso; simp_all; done)
end Go.Proofs.Ytehniaekfijmiaa
