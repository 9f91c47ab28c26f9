/- Names known, functions right, programs right: in both texts. -/
import Derived.Test.YtehniaekfijmiaaFnsPd
import Derived.Test.YtehniaekfijmiaaPlB
namespace Go.Proofs.Ytehniaekfijmiaa
open Go.Sim
set_option maxRecDepth 100000
set_option maxHeartbeats 4000000
abbrev vN (l : List (List UInt8)) : AV := .r (.c (.t (.lst 1 (l.map strRow))))
theorem all_at {α : Type} {f : α → Bool} {l : List α} {k : Nat} {x : α} (hx : l[k]? = some x) : (l.drop k).all f = (f x && (l.drop (k + 1)).all f) := by
  rw [drop_at hx, List.all_cons]
theorem s_impl_exprNames (l : List TLine) (loc : List (List UInt8)) (ts : List TTok) (hl : l.length ≤ 1048576) (hloc : loc.length ≤ 4194304) (hts : ts.length ≤ 1048576) : Sim.Spec Try.prog 213 [tvP l, tvL 1 (loc.map strRow), tvL 3 (ts.map TTok.tr)] (rB (exprKnown l loc ts)) := by
  refine spec_of_W hΓ hmix Try.func213 rfl (by decide) rfl ?_
  have hlen : (ts.map TTok.tr).length = ts.length := by simp
  have hlen2 : (l.map TLine.tr).length = l.length := by simp
  obtain ⟨R, hR⟩ : ∃ R, exprKnown l loc ts = R := ⟨_, rfl⟩
  rw [hR]
  repeat' ((conv => whnf); first | refine Or.inl ?_ | refine And.intro (Obl.out (?_ : Obl _)) ?_ | refine ifB_intro (fun h => ?_) (fun h => ?_) | refine Exists.intro _ (And.intro rfl ?_) | ((with_reducible show _ = _); rfl))
  all_goals try ((with_reducible refine Obl.mk ?_); first | ((with_reducible show regOk _ _ = true); kernel_rfl) | rfl | exact trivial | ((repeat' (first | exact trivial | refine And.intro ?_ ?_)); done) | decide | ((repeat' (first | exact List.forall_mem_nil _ | refine List.forall_mem_cons.2 (And.intro rfl ?_))); done) | (refine And.intro ?_ ?_ <;> simp only [List.length_map, List.length_append, List.length_cons, List.length_nil] <;> omega))
  conv => whnf
  refine ⟨{ k : Nat // k ≤ ts.length ∧ (ts.drop k).all (tokKnown l loc) = R }, fun q => ⟨[(0, vP l), (1, vN loc), (10, .r (.c (.t (.lst 3 (ts.map TTok.tr))))), (11, tI .i64 ((ts.map TTok.tr).length : Int)), (12, tI .i64 (q.1 : Int))], [], []⟩, fun q => ts.length - q.1, ⟨0, by omega, hR⟩, ?_, ?_⟩
  · skip
    repeat' ((conv => whnf); first | refine Or.inl ?_ | refine And.intro (Obl.out (?_ : Obl _)) ?_ | refine ifB_intro (fun h => ?_) (fun h => ?_) | refine Exists.intro _ (And.intro rfl ?_) | ((with_reducible show _ = _); rfl))
    all_goals try ((with_reducible refine Obl.mk ?_); first | ((with_reducible show regOk _ _ = true); kernel_rfl) | rfl | exact trivial | ((repeat' (first | exact trivial | refine And.intro ?_ ?_)); done) | decide | ((repeat' (first | exact List.forall_mem_nil _ | refine List.forall_mem_cons.2 (And.intro rfl ?_))); done) | (refine And.intro ?_ ?_ <;> simp only [List.length_map, List.length_append, List.length_cons, List.length_nil] <;> omega))
  intro ⟨k, hk, hr⟩
  dsimp only at hk hr ⊢
  by_cases hlt : k < ts.length
  · obtain ⟨t, ht⟩ := get_of_lt hlt
    rw [all_at ht] at hr
    have hC := s_slices_ContainsS loc t.fName hloc
    have hF := s_impl_FindFunction l t.fName hl
    by_cases h1 : t.fKind = 1
    · have e1 : tokKnown l loc t = loc.contains t.fName := by unfold tokKnown; rw [if_pos h1]
      rw [e1] at hr
      cases hc : loc.contains t.fName with
      | false =>
        rw [hc] at hC hr
        rw [Bool.false_and] at hr
        subst hr
        repeat' ((conv => whnf); first | refine Or.inl ?_ | refine And.intro (Obl.out (?_ : Obl _)) ?_ | refine ifB_intro (fun h => ?_) (fun h => ?_) | refine ⟨k, t.tr, rfl, map_get ht, ?_⟩ | refine call_intro (hC) (And.intro rfl (And.intro rfl trivial)) ?_ | refine call_intro (hF) (And.intro rfl (And.intro rfl trivial)) ?_ | refine Exists.intro _ (And.intro rfl ?_) | ((with_reducible show _ = _); rfl))
        all_goals try ((with_reducible refine Obl.mk ?_); first | ((with_reducible show regOk _ _ = true); kernel_rfl) | rfl | exact trivial | ((repeat' (first | exact trivial | refine And.intro ?_ ?_)); done) | decide | ((repeat' (first | exact List.forall_mem_nil _ | refine List.forall_mem_cons.2 (And.intro rfl ?_))); done) | (refine And.intro ?_ ?_ <;> simp only [List.length_map, List.length_append, List.length_cons, List.length_nil] <;> omega))
        all_goals try (exfalso; simp only [decide_eq_false_iff_not, decide_eq_true_eq] at *; omega)
        all_goals try (exfalso; (try simp_all [within]); (try omega); done)
      | true =>
        rw [hc] at hC hr
        rw [Bool.true_and] at hr
        repeat' ((conv => whnf); first | refine Or.inl ?_ | refine And.intro (Obl.out (?_ : Obl _)) ?_ | refine ifB_intro (fun h => ?_) (fun h => ?_) | refine ⟨k, t.tr, rfl, map_get ht, ?_⟩ | refine call_intro (hC) (And.intro rfl (And.intro rfl trivial)) ?_ | refine call_intro (hF) (And.intro rfl (And.intro rfl trivial)) ?_ | refine Exists.intro _ (And.intro rfl ?_) | ((with_reducible show _ = _); rfl))
        all_goals try ((with_reducible refine Obl.mk ?_); first | ((with_reducible show regOk _ _ = true); kernel_rfl) | rfl | exact trivial | ((repeat' (first | exact trivial | refine And.intro ?_ ?_)); done) | decide | ((repeat' (first | exact List.forall_mem_nil _ | refine List.forall_mem_cons.2 (And.intro rfl ?_))); done) | (refine And.intro ?_ ?_ <;> simp only [List.length_map, List.length_append, List.length_cons, List.length_nil] <;> omega))
        all_goals try (exfalso; simp only [decide_eq_false_iff_not, decide_eq_true_eq] at *; omega)
        all_goals try (exfalso; (try simp_all [within]); (try omega); done)
        all_goals try (exfalso; simp_all; done)
        conv => whnf
        refine ⟨⟨k + 1, by omega, hr⟩, ?_, by dsimp only; omega⟩
        repeat' ((conv => whnf); first | refine Or.inl ?_ | refine And.intro (Obl.out (?_ : Obl _)) ?_ | refine ifB_intro (fun h => ?_) (fun h => ?_) | refine Exists.intro _ (And.intro rfl ?_) | ((with_reducible show _ = _); rfl))
        all_goals try ((with_reducible refine Obl.mk ?_); first | ((with_reducible show regOk _ _ = true); kernel_rfl) | rfl | exact trivial | ((repeat' (first | exact trivial | refine And.intro ?_ ?_)); done) | decide | ((repeat' (first | exact List.forall_mem_nil _ | refine List.forall_mem_cons.2 (And.intro rfl ?_))); done) | (refine And.intro ?_ ?_ <;> simp only [List.length_map, List.length_append, List.length_cons, List.length_nil] <;> omega))
        all_goals try exact ⟨by dsimp only; rw [IntWalk.i64_in _ (by omega)]; rfl⟩
    · by_cases h7 : t.fKind = 7
      · cases hf : findN l 0 t.fName with
        | none =>
          have e1 : tokKnown l loc t = false := by unfold tokKnown; rw [if_neg h1, if_pos h7, hf]
          rw [e1, Bool.false_and] at hr
          subst hr
          rw [show findF l t.fName = -1 from endI_none hf] at hF
          repeat' ((conv => whnf); first | refine Or.inl ?_ | refine And.intro (Obl.out (?_ : Obl _)) ?_ | refine ifB_intro (fun h => ?_) (fun h => ?_) | refine ⟨k, t.tr, rfl, map_get ht, ?_⟩ | refine call_intro (hC) (And.intro rfl (And.intro rfl trivial)) ?_ | refine call_intro (hF) (And.intro rfl (And.intro rfl trivial)) ?_ | refine Exists.intro _ (And.intro rfl ?_) | ((with_reducible show _ = _); rfl))
          all_goals try ((with_reducible refine Obl.mk ?_); first | ((with_reducible show regOk _ _ = true); kernel_rfl) | rfl | exact trivial | ((repeat' (first | exact trivial | refine And.intro ?_ ?_)); done) | decide | ((repeat' (first | exact List.forall_mem_nil _ | refine List.forall_mem_cons.2 (And.intro rfl ?_))); done) | (refine And.intro ?_ ?_ <;> simp only [List.length_map, List.length_append, List.length_cons, List.length_nil] <;> omega))
          all_goals try (exfalso; simp only [decide_eq_false_iff_not, decide_eq_true_eq] at *; omega)
          all_goals try (exfalso; (try simp_all [within]); (try omega); done)
        | some f =>
          obtain ⟨hfl, x, hx, hx0, _⟩ := find_some hf
          have e1 : tokKnown l loc t = ((x.fArgs.length : Int) == t.fNum) := by unfold tokKnown; rw [if_neg h1, if_pos h7, hf]; dsimp only; rw [hx]
          rw [e1] at hr
          rw [show findF l t.fName = (f : Int) from endI_some hf] at hF
          have hxl : (x.fArgs.map strRow).length = x.fArgs.length := by simp
          by_cases hn : (x.fArgs.length : Int) = t.fNum
          · rw [beq_iff_eq.2 hn, Bool.true_and] at hr
            repeat' ((conv => whnf); first | refine Or.inl ?_ | refine And.intro (Obl.out (?_ : Obl _)) ?_ | refine ifB_intro (fun h => ?_) (fun h => ?_) | refine ⟨k, t.tr, rfl, map_get ht, ?_⟩ | refine ⟨f, x.tr, rfl, map_get hx, ?_⟩ | refine call_intro (hC) (And.intro rfl (And.intro rfl trivial)) ?_ | refine call_intro (hF) (And.intro rfl (And.intro rfl trivial)) ?_ | refine Exists.intro _ (And.intro rfl ?_) | ((with_reducible show _ = _); rfl))
            all_goals try ((with_reducible refine Obl.mk ?_); first | ((with_reducible show regOk _ _ = true); kernel_rfl) | rfl | exact trivial | ((repeat' (first | exact trivial | refine And.intro ?_ ?_)); done) | decide | ((repeat' (first | exact List.forall_mem_nil _ | refine List.forall_mem_cons.2 (And.intro rfl ?_))); done) | (refine And.intro ?_ ?_ <;> simp only [List.length_map, List.length_append, List.length_cons, List.length_nil] <;> omega))
            all_goals try (exfalso; simp only [decide_eq_false_iff_not, decide_eq_true_eq] at *; omega)
            all_goals try (exfalso; (try simp_all [within]); (try omega); done)
            all_goals try (exfalso; simp_all; done)
            conv => whnf
            refine ⟨⟨k + 1, by omega, hr⟩, ?_, by dsimp only; omega⟩
            repeat' ((conv => whnf); first | refine Or.inl ?_ | refine And.intro (Obl.out (?_ : Obl _)) ?_ | refine ifB_intro (fun h => ?_) (fun h => ?_) | refine Exists.intro _ (And.intro rfl ?_) | ((with_reducible show _ = _); rfl))
            all_goals try ((with_reducible refine Obl.mk ?_); first | ((with_reducible show regOk _ _ = true); kernel_rfl) | rfl | exact trivial | ((repeat' (first | exact trivial | refine And.intro ?_ ?_)); done) | decide | ((repeat' (first | exact List.forall_mem_nil _ | refine List.forall_mem_cons.2 (And.intro rfl ?_))); done) | (refine And.intro ?_ ?_ <;> simp only [List.length_map, List.length_append, List.length_cons, List.length_nil] <;> omega))
            all_goals try exact ⟨by dsimp only; rw [IntWalk.i64_in _ (by omega)]; rfl⟩
          · rw [beq_eq_false_iff_ne.2 hn, Bool.false_and] at hr
            subst hr
            repeat' ((conv => whnf); first | refine Or.inl ?_ | refine And.intro (Obl.out (?_ : Obl _)) ?_ | refine ifB_intro (fun h => ?_) (fun h => ?_) | refine ⟨k, t.tr, rfl, map_get ht, ?_⟩ | refine ⟨f, x.tr, rfl, map_get hx, ?_⟩ | refine call_intro (hC) (And.intro rfl (And.intro rfl trivial)) ?_ | refine call_intro (hF) (And.intro rfl (And.intro rfl trivial)) ?_ | refine Exists.intro _ (And.intro rfl ?_) | ((with_reducible show _ = _); rfl))
            all_goals try ((with_reducible refine Obl.mk ?_); first | ((with_reducible show regOk _ _ = true); kernel_rfl) | rfl | exact trivial | ((repeat' (first | exact trivial | refine And.intro ?_ ?_)); done) | decide | ((repeat' (first | exact List.forall_mem_nil _ | refine List.forall_mem_cons.2 (And.intro rfl ?_))); done) | (refine And.intro ?_ ?_ <;> simp only [List.length_map, List.length_append, List.length_cons, List.length_nil] <;> omega))
            all_goals try (exfalso; simp only [decide_eq_false_iff_not, decide_eq_true_eq] at *; omega)
            all_goals try (exfalso; (try simp_all [within]); (try omega); done)
            all_goals try (exfalso; simp_all; done)
      · have e1 : tokKnown l loc t = true := by unfold tokKnown; rw [if_neg h1, if_neg h7]
        rw [e1, Bool.true_and] at hr
        repeat' ((conv => whnf); first | refine Or.inl ?_ | refine And.intro (Obl.out (?_ : Obl _)) ?_ | refine ifB_intro (fun h => ?_) (fun h => ?_) | refine ⟨k, t.tr, rfl, map_get ht, ?_⟩ | refine call_intro (hC) (And.intro rfl (And.intro rfl trivial)) ?_ | refine call_intro (hF) (And.intro rfl (And.intro rfl trivial)) ?_ | refine Exists.intro _ (And.intro rfl ?_) | ((with_reducible show _ = _); rfl))
        all_goals try ((with_reducible refine Obl.mk ?_); first | ((with_reducible show regOk _ _ = true); kernel_rfl) | rfl | exact trivial | ((repeat' (first | exact trivial | refine And.intro ?_ ?_)); done) | decide | ((repeat' (first | exact List.forall_mem_nil _ | refine List.forall_mem_cons.2 (And.intro rfl ?_))); done) | (refine And.intro ?_ ?_ <;> simp only [List.length_map, List.length_append, List.length_cons, List.length_nil] <;> omega))
        all_goals try (exfalso; simp only [decide_eq_false_iff_not, decide_eq_true_eq] at *; omega)
        all_goals try (exfalso; (try simp_all [within]); (try omega); done)
        all_goals try (exfalso; simp_all; done)
        conv => whnf
        refine ⟨⟨k + 1, by omega, hr⟩, ?_, by dsimp only; omega⟩
        repeat' ((conv => whnf); first | refine Or.inl ?_ | refine And.intro (Obl.out (?_ : Obl _)) ?_ | refine ifB_intro (fun h => ?_) (fun h => ?_) | refine Exists.intro _ (And.intro rfl ?_) | ((with_reducible show _ = _); rfl))
        all_goals try ((with_reducible refine Obl.mk ?_); first | ((with_reducible show regOk _ _ = true); kernel_rfl) | rfl | exact trivial | ((repeat' (first | exact trivial | refine And.intro ?_ ?_)); done) | decide | ((repeat' (first | exact List.forall_mem_nil _ | refine List.forall_mem_cons.2 (And.intro rfl ?_))); done) | (refine And.intro ?_ ?_ <;> simp only [List.length_map, List.length_append, List.length_cons, List.length_nil] <;> omega))
        all_goals try exact ⟨by dsimp only; rw [IntWalk.i64_in _ (by omega)]; rfl⟩
  · rw [List.drop_eq_nil_of_le (by omega), List.all_nil] at hr
    subst hr
    repeat' ((conv => whnf); first | refine Or.inl ?_ | refine And.intro (Obl.out (?_ : Obl _)) ?_ | refine ifB_intro (fun h => ?_) (fun h => ?_) | refine Exists.intro _ (And.intro rfl ?_) | ((with_reducible show _ = _); rfl))
    all_goals try ((with_reducible refine Obl.mk ?_); first | ((with_reducible show regOk _ _ = true); kernel_rfl) | rfl | exact trivial | ((repeat' (first | exact trivial | refine And.intro ?_ ?_)); done) | decide | ((repeat' (first | exact List.forall_mem_nil _ | refine List.forall_mem_cons.2 (And.intro rfl ?_))); done) | (refine And.intro ?_ ?_ <;> simp only [List.length_map, List.length_append, List.length_cons, List.length_nil] <;> omega))
    all_goals try (exfalso; simp only [decide_eq_false_iff_not, decide_eq_true_eq] at *; omega)
def natRow (n : Nat) : List Tr := intRow n
theorem lineOk_noexpr {x : TLine} (h : lineOk x = true) (hk : x.fKind = 7) : x.fExpr = [] := by
  unfold lineOk at h
  simp only [Bool.and_eq_true] at h
  have h3 := h.2.2.2
  rw [if_neg (by rw [hk]; decide)] at h3
  exact List.length_eq_zero_iff.1 (eq_of_beq h3)
def stOf (i : Nat) (st es : List Nat) : Prop := st = es ∨ st = (i - 1) :: es
theorem revTop (m : Nat) (r : List Nat) : ((m :: r).reverse.map natRow)[r.length]? = some (natRow m) := by simp
theorem StkOk.top {l : List TLine} {e i m : Nat} {r : List Nat} (h : StkOk l e i (m :: r)) : i ≤ m := h.1
theorem s_impl_functionOk (l : List TLine) (k e : Nat) (hl : l.length ≤ 60) (hs : ∀ x ∈ l, smallR 1048576 x.tr) (hok : ∀ x ∈ l, lineOk x = true) (he : endAt l k = some e) : Sim.Spec Try.prog 154 [tvP l, tvI k, tvI e] (rB (fnOk l k e)) := by
  refine spec_of_W hΓ hmix Try.func154 rfl (by decide) rfl ?_
  have hlen : (l.map TLine.tr).length = l.length := by simp
  have hL := s_impl_LocalsOf l k (by omega) hs
  obtain ⟨hloc1, hloc2⟩ := locals_le (l := l) (k := (k : Int)) (by omega) hs
  have hst0 := (endAt_some he)
  obtain ⟨x0, hx0, ho0, he0, hke, hel⟩ := hst0
  unfold fnOk
  generalize localsOf l (k : Int) = loc at *
  have hll : (loc.map strRow).length = loc.length := by simp
  by_cases h8 : loc.length ≤ 8
  · rw [decide_eq_true h8, Bool.true_and]
    obtain ⟨R, hR⟩ : ∃ R, bodyN l loc e (e - (k + 1)) (k + 1) 0 = R := ⟨_, rfl⟩
    rw [hR]
    repeat' ((conv => whnf); first | refine Or.inl ?_ | refine And.intro (Obl.out (?_ : Obl _)) ?_ | refine ifB_intro (fun h => ?_) (fun h => ?_) | refine call_intro (hL) (And.intro rfl (And.intro rfl trivial)) ?_ | refine Exists.intro _ (And.intro rfl ?_) | ((with_reducible show _ = _); rfl))
    all_goals try ((with_reducible refine Obl.mk ?_); first | ((with_reducible show regOk _ _ = true); kernel_rfl) | rfl | exact trivial | ((repeat' (first | exact trivial | refine And.intro ?_ ?_)); done) | decide | ((repeat' (first | exact List.forall_mem_nil _ | refine List.forall_mem_cons.2 (And.intro rfl ?_))); done) | (refine And.intro ?_ ?_ <;> simp only [List.length_map, List.length_append, List.length_cons, List.length_nil] <;> omega))
    all_goals try (exfalso; simp only [decide_eq_false_iff_not, decide_eq_true_eq] at *; omega)
    conv => whnf
    refine ⟨{ q : Nat × List Nat × List Nat // k < q.1 ∧ q.1 ≤ e + 1 ∧ q.2.1.length ≤ 5 ∧ (q.1 = e + 1 → R = true) ∧ (q.1 ≤ e → StkOk l e q.1 q.2.2 ∧ q.2.2.length ≤ 4 ∧ stOf q.1 q.2.1 q.2.2 ∧ bodyN l loc e (e - q.1) q.1 q.2.2.length = R) }, fun q => ⟨[(0, vP l), (2, tI .i64 (e : Int)), (7, .r (.c (.own (7, 0, 0)))), (8, .r (.c (.own (8, 0, 0)))), (9, tI .i64 (q.1.1 : Int))], [((7, 0, 0), some (.arr true 1 (loc.map strRow))), ((8, 0, 0), some (.arr false 1 (q.1.2.1.reverse.map natRow)))], [7, 8]⟩, fun q => e + 1 - q.1.1, ⟨(k + 1, [], []), by dsimp only; omega, by dsimp only; omega, by simp, fun h => by dsimp only at h; omega, fun _ => ⟨he0, by simp, .inl rfl, hR⟩⟩, ?_, ?_⟩
    · skip
      repeat' ((conv => whnf); first | refine Or.inl ?_ | refine And.intro (Obl.out (?_ : Obl _)) ?_ | refine ifB_intro (fun h => ?_) (fun h => ?_) | refine Exists.intro _ (And.intro rfl ?_) | ((with_reducible show _ = _); rfl))
      all_goals try ((with_reducible refine Obl.mk ?_); first | ((with_reducible show regOk _ _ = true); kernel_rfl) | rfl | exact trivial | ((repeat' (first | exact trivial | refine And.intro ?_ ?_)); done) | decide | ((repeat' (first | exact List.forall_mem_nil _ | refine List.forall_mem_cons.2 (And.intro rfl ?_))); done) | (refine And.intro ?_ ?_ <;> simp only [List.length_map, List.length_append, List.length_cons, List.length_nil] <;> omega))
      all_goals try exact ⟨by dsimp only; rw [IntWalk.i64_in _ (by omega)]; rfl⟩
      all_goals exact ⟨by simp⟩
    intro ⟨⟨i, st, es⟩, q1, q2, q3, q4, q5⟩
    dsimp only at q1 q2 q3 q4 q5 ⊢
    by_cases hie : i ≤ e
    · obtain ⟨y, hy⟩ := get_of_lt (l := l) (k := i) (by omega)
      obtain ⟨g1, g2, g3, g4⟩ := q5 hie
      have hE := s_impl_EndOf l (i : Int) (by omega)
      have hX := s_impl_exprNames l loc y.fExpr (by omega) (by omega) (by have := (line_small (hs y (List.mem_of_getElem? hy))).2.2.2.1; omega)
      repeat' ((conv => whnf); first | refine Or.inl ?_ | refine And.intro (Obl.out (?_ : Obl _)) ?_ | refine ifB_intro (fun h => ?_) (fun h => ?_) | refine Exists.intro _ (And.intro rfl ?_) | ((with_reducible show _ = _); rfl))
      all_goals try ((with_reducible refine Obl.mk ?_); first | ((with_reducible show regOk _ _ = true); kernel_rfl) | rfl | exact trivial | ((repeat' (first | exact trivial | refine And.intro ?_ ?_)); done) | decide | ((repeat' (first | exact List.forall_mem_nil _ | refine List.forall_mem_cons.2 (And.intro rfl ?_))); done) | (refine And.intro ?_ ?_ <;> simp only [List.length_map, List.length_append, List.length_cons, List.length_nil] <;> omega))
      all_goals try (exfalso; simp only [decide_eq_false_iff_not, decide_eq_true_eq] at *; omega)
      conv => whnf
      refine ⟨{ u : List Nat // stOf i u es }, fun q => ⟨[(0, vP l), (2, tI .i64 (e : Int)), (7, .r (.c (.own (7, 0, 0)))), (8, .r (.c (.own (8, 0, 0)))), (9, tI .i64 (i : Int))], [((7, 0, 0), some (.arr true 1 (loc.map strRow))), ((8, 0, 0), some (.arr false 1 (q.1.reverse.map natRow)))], [7, 8]⟩, fun q => q.1.length, ⟨st, g3⟩, ?_, ?_⟩
      · skip
        repeat' ((conv => whnf); first | refine Or.inl ?_ | refine And.intro (Obl.out (?_ : Obl _)) ?_ | refine ifB_intro (fun h => ?_) (fun h => ?_) | refine Exists.intro _ (And.intro rfl ?_) | ((with_reducible show _ = _); rfl))
        all_goals try ((with_reducible refine Obl.mk ?_); first | ((with_reducible show regOk _ _ = true); kernel_rfl) | rfl | exact trivial | ((repeat' (first | exact trivial | refine And.intro ?_ ?_)); done) | decide | ((repeat' (first | exact List.forall_mem_nil _ | refine List.forall_mem_cons.2 (And.intro rfl ?_))); done) | (refine And.intro ?_ ?_ <;> simp only [List.length_map, List.length_append, List.length_cons, List.length_nil] <;> omega))
      intro ⟨u, hu⟩
      dsimp only at hu ⊢
      have hul : (u.reverse.map natRow).length = u.length := by simp
      cases u with
      | nil =>
        have hes0 : es = [] := by
          rcases hu with h | h
          · exact h.symm
          · cases h
        subst hes0
        by_cases hlt : i < e
        · rw [bodyN_step hlt hy] at g4
          by_cases h0 : y.fKind = 0
          · rw [if_pos h0] at g4
            subst g4
            repeat' ((conv => whnf); first | refine Or.inl ?_ | refine And.intro (Obl.out (?_ : Obl _)) ?_ | refine ifB_intro (fun h => ?_) (fun h => ?_) | refine call_intro (hE) (And.intro rfl (And.intro rfl trivial)) ?_ | refine call_intro (hX) (And.intro rfl (And.intro rfl (And.intro rfl trivial))) ?_ | refine ⟨i, y.tr, rfl, map_get hy, ?_⟩ | refine Exists.intro _ (And.intro rfl ?_) | ((with_reducible show _ = _); rfl))
            all_goals try ((with_reducible refine Obl.mk ?_); first | ((with_reducible show regOk _ _ = true); kernel_rfl) | rfl | exact trivial | ((repeat' (first | exact trivial | refine And.intro ?_ ?_)); done) | decide | ((repeat' (first | exact List.forall_mem_nil _ | refine List.forall_mem_cons.2 (And.intro rfl ?_))); done) | (refine And.intro ?_ ?_ <;> simp only [List.length_map, List.length_append, List.length_cons, List.length_nil] <;> omega))
            all_goals try (exfalso; simp only [decide_eq_false_iff_not, decide_eq_true_eq] at *; omega)
            all_goals try (exfalso; (try simp_all [within]); (try omega); done)
          · rw [if_neg h0] at g4
            by_cases h35 : y.fKind = 3 ∨ y.fKind = 5
            · have hd : dep y ([] : List Nat).length = ([] : List Nat).length + 1 := by unfold dep; rw [if_pos h35]
              rw [hd] at g4
              obtain ⟨m', hm', him, hst'⟩ := g1.push hy (opensK_iff.2 (by omega))
              rw [endOf_at, endI_some hm'] at hE
              by_cases hc : ([] : List Nat).length + 1 ≤ 4 ∧ exprKnown l loc y.fExpr = true
              · obtain ⟨c1, c2⟩ := hc
                rw [if_pos ⟨c1, c2⟩] at g4
                rw [c2] at hX
                repeat' ((conv => whnf); first | refine Or.inl ?_ | refine And.intro (Obl.out (?_ : Obl _)) ?_ | refine ifB_intro (fun h => ?_) (fun h => ?_) | refine call_intro (hE) (And.intro rfl (And.intro rfl trivial)) ?_ | refine call_intro (hX) (And.intro rfl (And.intro rfl (And.intro rfl trivial))) ?_ | refine ⟨i, y.tr, rfl, map_get hy, ?_⟩ | refine Exists.intro _ (And.intro rfl ?_) | ((with_reducible show _ = _); rfl))
                all_goals try ((with_reducible refine Obl.mk ?_); first | ((with_reducible show regOk _ _ = true); kernel_rfl) | rfl | exact trivial | ((repeat' (first | exact trivial | refine And.intro ?_ ?_)); done) | decide | ((repeat' (first | exact List.forall_mem_nil _ | refine List.forall_mem_cons.2 (And.intro rfl ?_))); done) | (refine And.intro ?_ ?_ <;> simp only [List.length_map, List.length_append, List.length_cons, List.length_nil] <;> omega))
                all_goals try (exfalso; simp only [decide_eq_false_iff_not, decide_eq_true_eq] at *; omega)
                all_goals try (exfalso; (try simp_all [within]); (try omega); done)
                all_goals try (exfalso; simp at h; omega)
                all_goals try exact ⟨⟨by simp <;> omega, by simp <;> omega⟩⟩
                all_goals try (exfalso; simp_all; done)
                all_goals
                  conv => whnf
                  refine ⟨⟨(i + 1, m' :: ([] : List Nat), m' :: ([] : List Nat)), by dsimp only; omega, by dsimp only; omega, by simp only [List.length_cons] at *; omega, fun h => by dsimp only at h; omega, fun _ => ⟨hst', by simp only [List.length_cons] at *; omega, .inl rfl, g4⟩⟩, ?_, by dsimp only; omega⟩
                  repeat' ((conv => whnf); first | refine Or.inl ?_ | refine And.intro (Obl.out (?_ : Obl _)) ?_ | refine ifB_intro (fun h => ?_) (fun h => ?_) | refine Exists.intro _ (And.intro rfl ?_) | ((with_reducible show _ = _); rfl))
                  all_goals try ((with_reducible refine Obl.mk ?_); first | ((with_reducible show regOk _ _ = true); kernel_rfl) | rfl | exact trivial | ((repeat' (first | exact trivial | refine And.intro ?_ ?_)); done) | decide | ((repeat' (first | exact List.forall_mem_nil _ | refine List.forall_mem_cons.2 (And.intro rfl ?_))); done) | (refine And.intro ?_ ?_ <;> simp only [List.length_map, List.length_append, List.length_cons, List.length_nil] <;> omega))
                  all_goals try exact ⟨by dsimp only; rw [IntWalk.i64_in _ (by omega)]; rfl⟩
                  all_goals exact ⟨by simp [natRow, intRow]⟩
              · rw [if_neg hc] at g4
                subst g4
                cases hkn : exprKnown l loc y.fExpr with
                | true =>
                  rw [hkn] at hX hc
                  repeat' ((conv => whnf); first | refine Or.inl ?_ | refine And.intro (Obl.out (?_ : Obl _)) ?_ | refine ifB_intro (fun h => ?_) (fun h => ?_) | refine call_intro (hE) (And.intro rfl (And.intro rfl trivial)) ?_ | refine call_intro (hX) (And.intro rfl (And.intro rfl (And.intro rfl trivial))) ?_ | refine ⟨i, y.tr, rfl, map_get hy, ?_⟩ | refine Exists.intro _ (And.intro rfl ?_) | ((with_reducible show _ = _); rfl))
                  all_goals try ((with_reducible refine Obl.mk ?_); first | ((with_reducible show regOk _ _ = true); kernel_rfl) | rfl | exact trivial | ((repeat' (first | exact trivial | refine And.intro ?_ ?_)); done) | decide | ((repeat' (first | exact List.forall_mem_nil _ | refine List.forall_mem_cons.2 (And.intro rfl ?_))); done) | (refine And.intro ?_ ?_ <;> simp only [List.length_map, List.length_append, List.length_cons, List.length_nil] <;> omega))
                  all_goals try (exfalso; simp only [decide_eq_false_iff_not, decide_eq_true_eq] at *; omega)
                  all_goals try (exfalso; (try simp_all [within]); (try omega); done)
                  all_goals try exact ⟨⟨by simp <;> omega, by simp <;> omega⟩⟩
                  all_goals try (exfalso; apply hc; refine ⟨?_, rfl⟩; simp at h; omega)
                  all_goals try (exfalso; simp_all; done)
                | false =>
                  rw [hkn] at hX hc
                  repeat' ((conv => whnf); first | refine Or.inl ?_ | refine And.intro (Obl.out (?_ : Obl _)) ?_ | refine ifB_intro (fun h => ?_) (fun h => ?_) | refine call_intro (hE) (And.intro rfl (And.intro rfl trivial)) ?_ | refine call_intro (hX) (And.intro rfl (And.intro rfl (And.intro rfl trivial))) ?_ | refine ⟨i, y.tr, rfl, map_get hy, ?_⟩ | refine Exists.intro _ (And.intro rfl ?_) | ((with_reducible show _ = _); rfl))
                  all_goals try ((with_reducible refine Obl.mk ?_); first | ((with_reducible show regOk _ _ = true); kernel_rfl) | rfl | exact trivial | ((repeat' (first | exact trivial | refine And.intro ?_ ?_)); done) | decide | ((repeat' (first | exact List.forall_mem_nil _ | refine List.forall_mem_cons.2 (And.intro rfl ?_))); done) | (refine And.intro ?_ ?_ <;> simp only [List.length_map, List.length_append, List.length_cons, List.length_nil] <;> omega))
                  all_goals try (exfalso; simp only [decide_eq_false_iff_not, decide_eq_true_eq] at *; omega)
                  all_goals try (exfalso; (try simp_all [within]); (try omega); done)
                  all_goals try exact ⟨⟨by simp <;> omega, by simp <;> omega⟩⟩
                  all_goals try (exfalso; simp_all; done)
            · by_cases h7 : y.fKind = 7
              · rcases g1.pop hy h7 with ⟨_, h'⟩ | ⟨es', hes, hst'⟩
                · omega
                have hd : dep y ([] : List Nat).length = es'.length := by unfold dep; rw [if_neg h35, if_pos h7, hes]; simp
                have hl4 : es'.length ≤ 4 := by rw [hes] at g2; simp at g2; omega
                rw [hd] at g4
                cases hkn : exprKnown l loc y.fExpr with
                | true =>
                  rw [hkn] at hX g4
                  rw [if_pos ⟨hl4, rfl⟩] at g4
                  repeat' ((conv => whnf); first | refine Or.inl ?_ | refine And.intro (Obl.out (?_ : Obl _)) ?_ | refine ifB_intro (fun h => ?_) (fun h => ?_) | refine call_intro (hE) (And.intro rfl (And.intro rfl trivial)) ?_ | refine call_intro (hX) (And.intro rfl (And.intro rfl (And.intro rfl trivial))) ?_ | refine ⟨i, y.tr, rfl, map_get hy, ?_⟩ | refine Exists.intro _ (And.intro rfl ?_) | ((with_reducible show _ = _); rfl))
                  all_goals try ((with_reducible refine Obl.mk ?_); first | ((with_reducible show regOk _ _ = true); kernel_rfl) | rfl | exact trivial | ((repeat' (first | exact trivial | refine And.intro ?_ ?_)); done) | decide | ((repeat' (first | exact List.forall_mem_nil _ | refine List.forall_mem_cons.2 (And.intro rfl ?_))); done) | (refine And.intro ?_ ?_ <;> simp only [List.length_map, List.length_append, List.length_cons, List.length_nil] <;> omega))
                  all_goals try (exfalso; simp only [decide_eq_false_iff_not, decide_eq_true_eq] at *; omega)
                  all_goals try (exfalso; (try simp_all [within]); (try omega); done)
                  all_goals try (exfalso; simp at h; omega)
                  all_goals try (exfalso; simp_all; done)
                  all_goals
                    conv => whnf
                    refine ⟨⟨(i + 1, [], es'), by dsimp only; omega, by dsimp only; omega, by dsimp only; omega, fun h => by dsimp only at h; omega, fun _ => ⟨hst', hl4, .inr (by dsimp only; rw [hes]; rfl), g4⟩⟩, ?_, by dsimp only; omega⟩
                    repeat' ((conv => whnf); first | refine Or.inl ?_ | refine And.intro (Obl.out (?_ : Obl _)) ?_ | refine ifB_intro (fun h => ?_) (fun h => ?_) | refine Exists.intro _ (And.intro rfl ?_) | ((with_reducible show _ = _); rfl))
                    all_goals try ((with_reducible refine Obl.mk ?_); first | ((with_reducible show regOk _ _ = true); kernel_rfl) | rfl | exact trivial | ((repeat' (first | exact trivial | refine And.intro ?_ ?_)); done) | decide | ((repeat' (first | exact List.forall_mem_nil _ | refine List.forall_mem_cons.2 (And.intro rfl ?_))); done) | (refine And.intro ?_ ?_ <;> simp only [List.length_map, List.length_append, List.length_cons, List.length_nil] <;> omega))
                    all_goals try exact ⟨by dsimp only; rw [IntWalk.i64_in _ (by omega)]; rfl⟩
                | false =>
                  rw [hkn] at hX g4
                  rw [if_neg (by simp)] at g4
                  subst g4
                  repeat' ((conv => whnf); first | refine Or.inl ?_ | refine And.intro (Obl.out (?_ : Obl _)) ?_ | refine ifB_intro (fun h => ?_) (fun h => ?_) | refine call_intro (hE) (And.intro rfl (And.intro rfl trivial)) ?_ | refine call_intro (hX) (And.intro rfl (And.intro rfl (And.intro rfl trivial))) ?_ | refine ⟨i, y.tr, rfl, map_get hy, ?_⟩ | refine Exists.intro _ (And.intro rfl ?_) | ((with_reducible show _ = _); rfl))
                  all_goals try ((with_reducible refine Obl.mk ?_); first | ((with_reducible show regOk _ _ = true); kernel_rfl) | rfl | exact trivial | ((repeat' (first | exact trivial | refine And.intro ?_ ?_)); done) | decide | ((repeat' (first | exact List.forall_mem_nil _ | refine List.forall_mem_cons.2 (And.intro rfl ?_))); done) | (refine And.intro ?_ ?_ <;> simp only [List.length_map, List.length_append, List.length_cons, List.length_nil] <;> omega))
                  all_goals try (exfalso; simp only [decide_eq_false_iff_not, decide_eq_true_eq] at *; omega)
                  all_goals try (exfalso; (try simp_all [within]); (try omega); done)
                  all_goals try (exfalso; simp_all; done)
              · have hd : dep y ([] : List Nat).length = ([] : List Nat).length := by unfold dep; rw [if_neg h35, if_neg h7]
                have ho : opensK y.fKind = false := by
                  cases hh : opensK y.fKind with
                  | false => rfl
                  | true => rw [opensK_iff] at hh; omega
                have hst' := g1.other hy ho h7
                rw [hd] at g4
                cases hkn : exprKnown l loc y.fExpr with
                | true =>
                  rw [hkn] at hX g4
                  rw [if_pos ⟨g2, rfl⟩] at g4
                  repeat' ((conv => whnf); first | refine Or.inl ?_ | refine And.intro (Obl.out (?_ : Obl _)) ?_ | refine ifB_intro (fun h => ?_) (fun h => ?_) | refine call_intro (hE) (And.intro rfl (And.intro rfl trivial)) ?_ | refine call_intro (hX) (And.intro rfl (And.intro rfl (And.intro rfl trivial))) ?_ | refine ⟨i, y.tr, rfl, map_get hy, ?_⟩ | refine Exists.intro _ (And.intro rfl ?_) | ((with_reducible show _ = _); rfl))
                  all_goals try ((with_reducible refine Obl.mk ?_); first | ((with_reducible show regOk _ _ = true); kernel_rfl) | rfl | exact trivial | ((repeat' (first | exact trivial | refine And.intro ?_ ?_)); done) | decide | ((repeat' (first | exact List.forall_mem_nil _ | refine List.forall_mem_cons.2 (And.intro rfl ?_))); done) | (refine And.intro ?_ ?_ <;> simp only [List.length_map, List.length_append, List.length_cons, List.length_nil] <;> omega))
                  all_goals try (exfalso; simp only [decide_eq_false_iff_not, decide_eq_true_eq] at *; omega)
                  all_goals try (exfalso; (try simp_all [within]); (try omega); done)
                  all_goals try (exfalso; simp at h; omega)
                  all_goals try (exfalso; simp_all; done)
                  all_goals
                    conv => whnf
                    refine ⟨⟨(i + 1, [], []), by dsimp only; omega, by dsimp only; omega, by dsimp only; omega, fun h => by dsimp only at h; omega, fun _ => ⟨hst', g2, .inl rfl, g4⟩⟩, ?_, by dsimp only; omega⟩
                    repeat' ((conv => whnf); first | refine Or.inl ?_ | refine And.intro (Obl.out (?_ : Obl _)) ?_ | refine ifB_intro (fun h => ?_) (fun h => ?_) | refine Exists.intro _ (And.intro rfl ?_) | ((with_reducible show _ = _); rfl))
                    all_goals try ((with_reducible refine Obl.mk ?_); first | ((with_reducible show regOk _ _ = true); kernel_rfl) | rfl | exact trivial | ((repeat' (first | exact trivial | refine And.intro ?_ ?_)); done) | decide | ((repeat' (first | exact List.forall_mem_nil _ | refine List.forall_mem_cons.2 (And.intro rfl ?_))); done) | (refine And.intro ?_ ?_ <;> simp only [List.length_map, List.length_append, List.length_cons, List.length_nil] <;> omega))
                    all_goals try exact ⟨by dsimp only; rw [IntWalk.i64_in _ (by omega)]; rfl⟩
                | false =>
                  rw [hkn] at hX g4
                  rw [if_neg (by simp)] at g4
                  subst g4
                  repeat' ((conv => whnf); first | refine Or.inl ?_ | refine And.intro (Obl.out (?_ : Obl _)) ?_ | refine ifB_intro (fun h => ?_) (fun h => ?_) | refine call_intro (hE) (And.intro rfl (And.intro rfl trivial)) ?_ | refine call_intro (hX) (And.intro rfl (And.intro rfl (And.intro rfl trivial))) ?_ | refine ⟨i, y.tr, rfl, map_get hy, ?_⟩ | refine Exists.intro _ (And.intro rfl ?_) | ((with_reducible show _ = _); rfl))
                  all_goals try ((with_reducible refine Obl.mk ?_); first | ((with_reducible show regOk _ _ = true); kernel_rfl) | rfl | exact trivial | ((repeat' (first | exact trivial | refine And.intro ?_ ?_)); done) | decide | ((repeat' (first | exact List.forall_mem_nil _ | refine List.forall_mem_cons.2 (And.intro rfl ?_))); done) | (refine And.intro ?_ ?_ <;> simp only [List.length_map, List.length_append, List.length_cons, List.length_nil] <;> omega))
                  all_goals try (exfalso; simp only [decide_eq_false_iff_not, decide_eq_true_eq] at *; omega)
                  all_goals try (exfalso; (try simp_all [within]); (try omega); done)
                  all_goals try (exfalso; simp_all; done)
        · have hie' : i = e := by omega
          obtain ⟨z, hz, hz7⟩ := endAt_kind he
          rw [← hie', hy] at hz
          injection hz with hz
          subst hz
          rw [bodyN_end (by omega)] at g4
          have hkn : exprKnown l loc y.fExpr = true := by rw [lineOk_noexpr (hok y (List.mem_of_getElem? hy)) hz7]; rfl
          rw [hkn] at hX
          repeat' ((conv => whnf); first | refine Or.inl ?_ | refine And.intro (Obl.out (?_ : Obl _)) ?_ | refine ifB_intro (fun h => ?_) (fun h => ?_) | refine call_intro (hE) (And.intro rfl (And.intro rfl trivial)) ?_ | refine call_intro (hX) (And.intro rfl (And.intro rfl (And.intro rfl trivial))) ?_ | refine ⟨i, y.tr, rfl, map_get hy, ?_⟩ | refine Exists.intro _ (And.intro rfl ?_) | ((with_reducible show _ = _); rfl))
          all_goals try ((with_reducible refine Obl.mk ?_); first | ((with_reducible show regOk _ _ = true); kernel_rfl) | rfl | exact trivial | ((repeat' (first | exact trivial | refine And.intro ?_ ?_)); done) | decide | ((repeat' (first | exact List.forall_mem_nil _ | refine List.forall_mem_cons.2 (And.intro rfl ?_))); done) | (refine And.intro ?_ ?_ <;> simp only [List.length_map, List.length_append, List.length_cons, List.length_nil] <;> omega))
          all_goals try (exfalso; simp only [decide_eq_false_iff_not, decide_eq_true_eq] at *; omega)
          all_goals try (exfalso; (try simp_all [within]); (try omega); done)
          all_goals try (exfalso; simp at h; omega)
          all_goals try (exfalso; simp_all; done)
          all_goals
            conv => whnf
            refine ⟨⟨(i + 1, [], []), by dsimp only; omega, by dsimp only; omega, by dsimp only; omega, fun _ => g4.symm, fun h => by dsimp only at h; omega⟩, ?_, by dsimp only; omega⟩
            repeat' ((conv => whnf); first | refine Or.inl ?_ | refine And.intro (Obl.out (?_ : Obl _)) ?_ | refine ifB_intro (fun h => ?_) (fun h => ?_) | refine Exists.intro _ (And.intro rfl ?_) | ((with_reducible show _ = _); rfl))
            all_goals try ((with_reducible refine Obl.mk ?_); first | ((with_reducible show regOk _ _ = true); kernel_rfl) | rfl | exact trivial | ((repeat' (first | exact trivial | refine And.intro ?_ ?_)); done) | decide | ((repeat' (first | exact List.forall_mem_nil _ | refine List.forall_mem_cons.2 (And.intro rfl ?_))); done) | (refine And.intro ?_ ?_ <;> simp only [List.length_map, List.length_append, List.length_cons, List.length_nil] <;> omega))
            all_goals try exact ⟨by dsimp only; rw [IntWalk.i64_in _ (by omega)]; rfl⟩
      | cons m r =>
        have hlen3 : ((m :: r).reverse.map natRow).length = r.length + 1 := by simp
        have hrl : r.length ≤ 5 := by
          rcases hu with h | h
          · rw [← h] at g2
            simp only [List.length_cons] at g2
            omega
          · injection h with h1 h2
            rw [h2]
            omega
        have hw : IntKind.i64.wrap ((((m :: r).reverse.map natRow).length : Int) - 1) = (r.length : Int) := by rw [hlen3, IntWalk.i64_in _ (by omega)]; omega
        by_cases hm : m < i
        · have hr : r = es := by
            rcases hu with h | h
            · subst h
              have := g1.top
              omega
            · injection h
          subst hr
          repeat' ((conv => whnf); first | refine Or.inl ?_ | refine And.intro (Obl.out (?_ : Obl _)) ?_ | refine ifB_intro (fun h => ?_) (fun h => ?_) | refine ⟨r.length, hw, (by rw [hlen3]; omega), ?_⟩ | refine ⟨(natRow m), (revTop m r), ?_⟩ | refine Exists.intro _ (And.intro rfl ?_) | ((with_reducible show _ = _); rfl))
          all_goals try ((with_reducible refine Obl.mk ?_); first | ((with_reducible show regOk _ _ = true); kernel_rfl) | rfl | exact trivial | ((repeat' (first | exact trivial | refine And.intro ?_ ?_)); done) | decide | ((repeat' (first | exact List.forall_mem_nil _ | refine List.forall_mem_cons.2 (And.intro rfl ?_))); done) | (refine And.intro ?_ ?_ <;> simp only [List.length_map, List.length_append, List.length_cons, List.length_nil] <;> omega))
          all_goals try (exfalso; simp only [decide_eq_false_iff_not, decide_eq_true_eq] at *; omega)
          conv => whnf
          refine ⟨⟨r, .inl rfl⟩, ?_, by dsimp only; simp⟩
          repeat' ((conv => whnf); first | refine Or.inl ?_ | refine And.intro (Obl.out (?_ : Obl _)) ?_ | refine ifB_intro (fun h => ?_) (fun h => ?_) | refine Exists.intro _ (And.intro rfl ?_) | ((with_reducible show _ = _); rfl))
          all_goals try ((with_reducible refine Obl.mk ?_); first | ((with_reducible show regOk _ _ = true); kernel_rfl) | rfl | exact trivial | ((repeat' (first | exact trivial | refine And.intro ?_ ?_)); done) | decide | ((repeat' (first | exact List.forall_mem_nil _ | refine List.forall_mem_cons.2 (And.intro rfl ?_))); done) | (refine And.intro ?_ ?_ <;> simp only [List.length_map, List.length_append, List.length_cons, List.length_nil] <;> omega))
          all_goals try exact ⟨by simp <;> omega⟩
        · have hr : es = m :: r := by
            rcases hu with h | h
            · exact h.symm
            · injection h with h1 h2
              omega
          subst hr
          have hbk := 0
          by_cases hlt : i < e
          · rw [bodyN_step hlt hy] at g4
            by_cases h0 : y.fKind = 0
            · rw [if_pos h0] at g4
              subst g4
              repeat' ((conv => whnf); first | refine Or.inl ?_ | refine And.intro (Obl.out (?_ : Obl _)) ?_ | refine ifB_intro (fun h => ?_) (fun h => ?_) | refine ⟨r.length, hw, (by rw [hlen3]; omega), ?_⟩ | refine ⟨(natRow m), (revTop m r), ?_⟩ | refine call_intro (hE) (And.intro rfl (And.intro rfl trivial)) ?_ | refine call_intro (hX) (And.intro rfl (And.intro rfl (And.intro rfl trivial))) ?_ | refine ⟨i, y.tr, rfl, map_get hy, ?_⟩ | refine Exists.intro _ (And.intro rfl ?_) | ((with_reducible show _ = _); rfl))
              all_goals try ((with_reducible refine Obl.mk ?_); first | ((with_reducible show regOk _ _ = true); kernel_rfl) | rfl | exact trivial | ((repeat' (first | exact trivial | refine And.intro ?_ ?_)); done) | decide | ((repeat' (first | exact List.forall_mem_nil _ | refine List.forall_mem_cons.2 (And.intro rfl ?_))); done) | (refine And.intro ?_ ?_ <;> simp only [List.length_map, List.length_append, List.length_cons, List.length_nil] <;> omega))
              all_goals try (exfalso; simp only [decide_eq_false_iff_not, decide_eq_true_eq] at *; omega)
              all_goals try (exfalso; (try simp_all [within]); (try omega); done)
            · rw [if_neg h0] at g4
              by_cases h35 : y.fKind = 3 ∨ y.fKind = 5
              · have hd : dep y (m :: r).length = (m :: r).length + 1 := by unfold dep; rw [if_pos h35]
                rw [hd] at g4
                obtain ⟨m', hm', him, hst'⟩ := g1.push hy (opensK_iff.2 (by omega))
                rw [endOf_at, endI_some hm'] at hE
                by_cases hc : (m :: r).length + 1 ≤ 4 ∧ exprKnown l loc y.fExpr = true
                · obtain ⟨c1, c2⟩ := hc
                  rw [if_pos ⟨c1, c2⟩] at g4
                  rw [c2] at hX
                  repeat' ((conv => whnf); first | refine Or.inl ?_ | refine And.intro (Obl.out (?_ : Obl _)) ?_ | refine ifB_intro (fun h => ?_) (fun h => ?_) | refine ⟨r.length, hw, (by rw [hlen3]; omega), ?_⟩ | refine ⟨(natRow m), (revTop m r), ?_⟩ | refine call_intro (hE) (And.intro rfl (And.intro rfl trivial)) ?_ | refine call_intro (hX) (And.intro rfl (And.intro rfl (And.intro rfl trivial))) ?_ | refine ⟨i, y.tr, rfl, map_get hy, ?_⟩ | refine Exists.intro _ (And.intro rfl ?_) | ((with_reducible show _ = _); rfl))
                  all_goals try ((with_reducible refine Obl.mk ?_); first | ((with_reducible show regOk _ _ = true); kernel_rfl) | rfl | exact trivial | ((repeat' (first | exact trivial | refine And.intro ?_ ?_)); done) | decide | ((repeat' (first | exact List.forall_mem_nil _ | refine List.forall_mem_cons.2 (And.intro rfl ?_))); done) | (refine And.intro ?_ ?_ <;> simp only [List.length_map, List.length_append, List.length_cons, List.length_nil] <;> omega))
                  all_goals try (exfalso; simp only [decide_eq_false_iff_not, decide_eq_true_eq] at *; omega)
                  all_goals try (exfalso; (try simp_all [within]); (try omega); done)
                  all_goals try (exfalso; simp at h; omega)
                  all_goals try exact ⟨⟨by simp <;> omega, by simp <;> omega⟩⟩
                  all_goals try (exfalso; simp_all; done)
                  all_goals
                    conv => whnf
                    refine ⟨⟨(i + 1, m' :: (m :: r), m' :: (m :: r)), by dsimp only; omega, by dsimp only; omega, by simp only [List.length_cons] at *; omega, fun h => by dsimp only at h; omega, fun _ => ⟨hst', by simp only [List.length_cons] at *; omega, .inl rfl, g4⟩⟩, ?_, by dsimp only; omega⟩
                    repeat' ((conv => whnf); first | refine Or.inl ?_ | refine And.intro (Obl.out (?_ : Obl _)) ?_ | refine ifB_intro (fun h => ?_) (fun h => ?_) | refine Exists.intro _ (And.intro rfl ?_) | ((with_reducible show _ = _); rfl))
                    all_goals try ((with_reducible refine Obl.mk ?_); first | ((with_reducible show regOk _ _ = true); kernel_rfl) | rfl | exact trivial | ((repeat' (first | exact trivial | refine And.intro ?_ ?_)); done) | decide | ((repeat' (first | exact List.forall_mem_nil _ | refine List.forall_mem_cons.2 (And.intro rfl ?_))); done) | (refine And.intro ?_ ?_ <;> simp only [List.length_map, List.length_append, List.length_cons, List.length_nil] <;> omega))
                    all_goals try exact ⟨by dsimp only; rw [IntWalk.i64_in _ (by omega)]; rfl⟩
                    all_goals exact ⟨by simp [natRow, intRow]⟩
                · rw [if_neg hc] at g4
                  subst g4
                  cases hkn : exprKnown l loc y.fExpr with
                  | true =>
                    rw [hkn] at hX hc
                    repeat' ((conv => whnf); first | refine Or.inl ?_ | refine And.intro (Obl.out (?_ : Obl _)) ?_ | refine ifB_intro (fun h => ?_) (fun h => ?_) | refine ⟨r.length, hw, (by rw [hlen3]; omega), ?_⟩ | refine ⟨(natRow m), (revTop m r), ?_⟩ | refine call_intro (hE) (And.intro rfl (And.intro rfl trivial)) ?_ | refine call_intro (hX) (And.intro rfl (And.intro rfl (And.intro rfl trivial))) ?_ | refine ⟨i, y.tr, rfl, map_get hy, ?_⟩ | refine Exists.intro _ (And.intro rfl ?_) | ((with_reducible show _ = _); rfl))
                    all_goals try ((with_reducible refine Obl.mk ?_); first | ((with_reducible show regOk _ _ = true); kernel_rfl) | rfl | exact trivial | ((repeat' (first | exact trivial | refine And.intro ?_ ?_)); done) | decide | ((repeat' (first | exact List.forall_mem_nil _ | refine List.forall_mem_cons.2 (And.intro rfl ?_))); done) | (refine And.intro ?_ ?_ <;> simp only [List.length_map, List.length_append, List.length_cons, List.length_nil] <;> omega))
                    all_goals try (exfalso; simp only [decide_eq_false_iff_not, decide_eq_true_eq] at *; omega)
                    all_goals try (exfalso; (try simp_all [within]); (try omega); done)
                    all_goals try exact ⟨⟨by simp <;> omega, by simp <;> omega⟩⟩
                    all_goals try (exfalso; apply hc; refine ⟨?_, rfl⟩; simp at h; omega)
                    all_goals try (exfalso; simp_all; done)
                  | false =>
                    rw [hkn] at hX hc
                    repeat' ((conv => whnf); first | refine Or.inl ?_ | refine And.intro (Obl.out (?_ : Obl _)) ?_ | refine ifB_intro (fun h => ?_) (fun h => ?_) | refine ⟨r.length, hw, (by rw [hlen3]; omega), ?_⟩ | refine ⟨(natRow m), (revTop m r), ?_⟩ | refine call_intro (hE) (And.intro rfl (And.intro rfl trivial)) ?_ | refine call_intro (hX) (And.intro rfl (And.intro rfl (And.intro rfl trivial))) ?_ | refine ⟨i, y.tr, rfl, map_get hy, ?_⟩ | refine Exists.intro _ (And.intro rfl ?_) | ((with_reducible show _ = _); rfl))
                    all_goals try ((with_reducible refine Obl.mk ?_); first | ((with_reducible show regOk _ _ = true); kernel_rfl) | rfl | exact trivial | ((repeat' (first | exact trivial | refine And.intro ?_ ?_)); done) | decide | ((repeat' (first | exact List.forall_mem_nil _ | refine List.forall_mem_cons.2 (And.intro rfl ?_))); done) | (refine And.intro ?_ ?_ <;> simp only [List.length_map, List.length_append, List.length_cons, List.length_nil] <;> omega))
                    all_goals try (exfalso; simp only [decide_eq_false_iff_not, decide_eq_true_eq] at *; omega)
                    all_goals try (exfalso; (try simp_all [within]); (try omega); done)
                    all_goals try exact ⟨⟨by simp <;> omega, by simp <;> omega⟩⟩
                    all_goals try (exfalso; simp_all; done)
              · by_cases h7 : y.fKind = 7
                · rcases g1.pop hy h7 with ⟨_, h'⟩ | ⟨es', hes, hst'⟩
                  · omega
                  have hd : dep y (m :: r).length = es'.length := by unfold dep; rw [if_neg h35, if_pos h7, hes]; simp
                  have hl4 : es'.length ≤ 4 := by rw [hes] at g2; simp at g2; omega
                  rw [hd] at g4
                  cases hkn : exprKnown l loc y.fExpr with
                  | true =>
                    rw [hkn] at hX g4
                    rw [if_pos ⟨hl4, rfl⟩] at g4
                    repeat' ((conv => whnf); first | refine Or.inl ?_ | refine And.intro (Obl.out (?_ : Obl _)) ?_ | refine ifB_intro (fun h => ?_) (fun h => ?_) | refine ⟨r.length, hw, (by rw [hlen3]; omega), ?_⟩ | refine ⟨(natRow m), (revTop m r), ?_⟩ | refine call_intro (hE) (And.intro rfl (And.intro rfl trivial)) ?_ | refine call_intro (hX) (And.intro rfl (And.intro rfl (And.intro rfl trivial))) ?_ | refine ⟨i, y.tr, rfl, map_get hy, ?_⟩ | refine Exists.intro _ (And.intro rfl ?_) | ((with_reducible show _ = _); rfl))
                    all_goals try ((with_reducible refine Obl.mk ?_); first | ((with_reducible show regOk _ _ = true); kernel_rfl) | rfl | exact trivial | ((repeat' (first | exact trivial | refine And.intro ?_ ?_)); done) | decide | ((repeat' (first | exact List.forall_mem_nil _ | refine List.forall_mem_cons.2 (And.intro rfl ?_))); done) | (refine And.intro ?_ ?_ <;> simp only [List.length_map, List.length_append, List.length_cons, List.length_nil] <;> omega))
                    all_goals try (exfalso; simp only [decide_eq_false_iff_not, decide_eq_true_eq] at *; omega)
                    all_goals try (exfalso; (try simp_all [within]); (try omega); done)
                    all_goals try (exfalso; simp at h; omega)
                    all_goals try (exfalso; simp_all; done)
                    all_goals
                      conv => whnf
                      refine ⟨⟨(i + 1, (m :: r), es'), by dsimp only; omega, by dsimp only; omega, by dsimp only; omega, fun h => by dsimp only at h; omega, fun _ => ⟨hst', hl4, .inr (by dsimp only; rw [hes]; rfl), g4⟩⟩, ?_, by dsimp only; omega⟩
                      repeat' ((conv => whnf); first | refine Or.inl ?_ | refine And.intro (Obl.out (?_ : Obl _)) ?_ | refine ifB_intro (fun h => ?_) (fun h => ?_) | refine Exists.intro _ (And.intro rfl ?_) | ((with_reducible show _ = _); rfl))
                      all_goals try ((with_reducible refine Obl.mk ?_); first | ((with_reducible show regOk _ _ = true); kernel_rfl) | rfl | exact trivial | ((repeat' (first | exact trivial | refine And.intro ?_ ?_)); done) | decide | ((repeat' (first | exact List.forall_mem_nil _ | refine List.forall_mem_cons.2 (And.intro rfl ?_))); done) | (refine And.intro ?_ ?_ <;> simp only [List.length_map, List.length_append, List.length_cons, List.length_nil] <;> omega))
                      all_goals try exact ⟨by dsimp only; rw [IntWalk.i64_in _ (by omega)]; rfl⟩
                  | false =>
                    rw [hkn] at hX g4
                    rw [if_neg (by simp)] at g4
                    subst g4
                    repeat' ((conv => whnf); first | refine Or.inl ?_ | refine And.intro (Obl.out (?_ : Obl _)) ?_ | refine ifB_intro (fun h => ?_) (fun h => ?_) | refine ⟨r.length, hw, (by rw [hlen3]; omega), ?_⟩ | refine ⟨(natRow m), (revTop m r), ?_⟩ | refine call_intro (hE) (And.intro rfl (And.intro rfl trivial)) ?_ | refine call_intro (hX) (And.intro rfl (And.intro rfl (And.intro rfl trivial))) ?_ | refine ⟨i, y.tr, rfl, map_get hy, ?_⟩ | refine Exists.intro _ (And.intro rfl ?_) | ((with_reducible show _ = _); rfl))
                    all_goals try ((with_reducible refine Obl.mk ?_); first | ((with_reducible show regOk _ _ = true); kernel_rfl) | rfl | exact trivial | ((repeat' (first | exact trivial | refine And.intro ?_ ?_)); done) | decide | ((repeat' (first | exact List.forall_mem_nil _ | refine List.forall_mem_cons.2 (And.intro rfl ?_))); done) | (refine And.intro ?_ ?_ <;> simp only [List.length_map, List.length_append, List.length_cons, List.length_nil] <;> omega))
                    all_goals try (exfalso; simp only [decide_eq_false_iff_not, decide_eq_true_eq] at *; omega)
                    all_goals try (exfalso; (try simp_all [within]); (try omega); done)
                    all_goals try (exfalso; simp_all; done)
                · have hd : dep y (m :: r).length = (m :: r).length := by unfold dep; rw [if_neg h35, if_neg h7]
                  have ho : opensK y.fKind = false := by
                    cases hh : opensK y.fKind with
                    | false => rfl
                    | true => rw [opensK_iff] at hh; omega
                  have hst' := g1.other hy ho h7
                  rw [hd] at g4
                  cases hkn : exprKnown l loc y.fExpr with
                  | true =>
                    rw [hkn] at hX g4
                    rw [if_pos ⟨g2, rfl⟩] at g4
                    repeat' ((conv => whnf); first | refine Or.inl ?_ | refine And.intro (Obl.out (?_ : Obl _)) ?_ | refine ifB_intro (fun h => ?_) (fun h => ?_) | refine ⟨r.length, hw, (by rw [hlen3]; omega), ?_⟩ | refine ⟨(natRow m), (revTop m r), ?_⟩ | refine call_intro (hE) (And.intro rfl (And.intro rfl trivial)) ?_ | refine call_intro (hX) (And.intro rfl (And.intro rfl (And.intro rfl trivial))) ?_ | refine ⟨i, y.tr, rfl, map_get hy, ?_⟩ | refine Exists.intro _ (And.intro rfl ?_) | ((with_reducible show _ = _); rfl))
                    all_goals try ((with_reducible refine Obl.mk ?_); first | ((with_reducible show regOk _ _ = true); kernel_rfl) | rfl | exact trivial | ((repeat' (first | exact trivial | refine And.intro ?_ ?_)); done) | decide | ((repeat' (first | exact List.forall_mem_nil _ | refine List.forall_mem_cons.2 (And.intro rfl ?_))); done) | (refine And.intro ?_ ?_ <;> simp only [List.length_map, List.length_append, List.length_cons, List.length_nil] <;> omega))
                    all_goals try (exfalso; simp only [decide_eq_false_iff_not, decide_eq_true_eq] at *; omega)
                    all_goals try (exfalso; (try simp_all [within]); (try omega); done)
                    all_goals try (exfalso; simp at h; omega)
                    all_goals try (exfalso; simp_all; done)
                    all_goals
                      conv => whnf
                      refine ⟨⟨(i + 1, (m :: r), (m :: r)), by dsimp only; omega, by dsimp only; omega, by dsimp only; omega, fun h => by dsimp only at h; omega, fun _ => ⟨hst', g2, .inl rfl, g4⟩⟩, ?_, by dsimp only; omega⟩
                      repeat' ((conv => whnf); first | refine Or.inl ?_ | refine And.intro (Obl.out (?_ : Obl _)) ?_ | refine ifB_intro (fun h => ?_) (fun h => ?_) | refine Exists.intro _ (And.intro rfl ?_) | ((with_reducible show _ = _); rfl))
                      all_goals try ((with_reducible refine Obl.mk ?_); first | ((with_reducible show regOk _ _ = true); kernel_rfl) | rfl | exact trivial | ((repeat' (first | exact trivial | refine And.intro ?_ ?_)); done) | decide | ((repeat' (first | exact List.forall_mem_nil _ | refine List.forall_mem_cons.2 (And.intro rfl ?_))); done) | (refine And.intro ?_ ?_ <;> simp only [List.length_map, List.length_append, List.length_cons, List.length_nil] <;> omega))
                      all_goals try exact ⟨by dsimp only; rw [IntWalk.i64_in _ (by omega)]; rfl⟩
                  | false =>
                    rw [hkn] at hX g4
                    rw [if_neg (by simp)] at g4
                    subst g4
                    repeat' ((conv => whnf); first | refine Or.inl ?_ | refine And.intro (Obl.out (?_ : Obl _)) ?_ | refine ifB_intro (fun h => ?_) (fun h => ?_) | refine ⟨r.length, hw, (by rw [hlen3]; omega), ?_⟩ | refine ⟨(natRow m), (revTop m r), ?_⟩ | refine call_intro (hE) (And.intro rfl (And.intro rfl trivial)) ?_ | refine call_intro (hX) (And.intro rfl (And.intro rfl (And.intro rfl trivial))) ?_ | refine ⟨i, y.tr, rfl, map_get hy, ?_⟩ | refine Exists.intro _ (And.intro rfl ?_) | ((with_reducible show _ = _); rfl))
                    all_goals try ((with_reducible refine Obl.mk ?_); first | ((with_reducible show regOk _ _ = true); kernel_rfl) | rfl | exact trivial | ((repeat' (first | exact trivial | refine And.intro ?_ ?_)); done) | decide | ((repeat' (first | exact List.forall_mem_nil _ | refine List.forall_mem_cons.2 (And.intro rfl ?_))); done) | (refine And.intro ?_ ?_ <;> simp only [List.length_map, List.length_append, List.length_cons, List.length_nil] <;> omega))
                    all_goals try (exfalso; simp only [decide_eq_false_iff_not, decide_eq_true_eq] at *; omega)
                    all_goals try (exfalso; (try simp_all [within]); (try omega); done)
                    all_goals try (exfalso; simp_all; done)
          · have hie' : i = e := by omega
            obtain ⟨z, hz, hz7⟩ := endAt_kind he
            rw [← hie', hy] at hz
            injection hz with hz
            subst hz
            rw [bodyN_end (by omega)] at g4
            have hkn : exprKnown l loc y.fExpr = true := by rw [lineOk_noexpr (hok y (List.mem_of_getElem? hy)) hz7]; rfl
            rw [hkn] at hX
            repeat' ((conv => whnf); first | refine Or.inl ?_ | refine And.intro (Obl.out (?_ : Obl _)) ?_ | refine ifB_intro (fun h => ?_) (fun h => ?_) | refine ⟨r.length, hw, (by rw [hlen3]; omega), ?_⟩ | refine ⟨(natRow m), (revTop m r), ?_⟩ | refine call_intro (hE) (And.intro rfl (And.intro rfl trivial)) ?_ | refine call_intro (hX) (And.intro rfl (And.intro rfl (And.intro rfl trivial))) ?_ | refine ⟨i, y.tr, rfl, map_get hy, ?_⟩ | refine Exists.intro _ (And.intro rfl ?_) | ((with_reducible show _ = _); rfl))
            all_goals try ((with_reducible refine Obl.mk ?_); first | ((with_reducible show regOk _ _ = true); kernel_rfl) | rfl | exact trivial | ((repeat' (first | exact trivial | refine And.intro ?_ ?_)); done) | decide | ((repeat' (first | exact List.forall_mem_nil _ | refine List.forall_mem_cons.2 (And.intro rfl ?_))); done) | (refine And.intro ?_ ?_ <;> simp only [List.length_map, List.length_append, List.length_cons, List.length_nil] <;> omega))
            all_goals try (exfalso; simp only [decide_eq_false_iff_not, decide_eq_true_eq] at *; omega)
            all_goals try (exfalso; (try simp_all [within]); (try omega); done)
            all_goals try (exfalso; simp at h; omega)
            all_goals try (exfalso; simp_all; done)
            all_goals
              conv => whnf
              refine ⟨⟨(i + 1, (m :: r), (m :: r)), by dsimp only; omega, by dsimp only; omega, by dsimp only; omega, fun _ => g4.symm, fun h => by dsimp only at h; omega⟩, ?_, by dsimp only; omega⟩
              repeat' ((conv => whnf); first | refine Or.inl ?_ | refine And.intro (Obl.out (?_ : Obl _)) ?_ | refine ifB_intro (fun h => ?_) (fun h => ?_) | refine Exists.intro _ (And.intro rfl ?_) | ((with_reducible show _ = _); rfl))
              all_goals try ((with_reducible refine Obl.mk ?_); first | ((with_reducible show regOk _ _ = true); kernel_rfl) | rfl | exact trivial | ((repeat' (first | exact trivial | refine And.intro ?_ ?_)); done) | decide | ((repeat' (first | exact List.forall_mem_nil _ | refine List.forall_mem_cons.2 (And.intro rfl ?_))); done) | (refine And.intro ?_ ?_ <;> simp only [List.length_map, List.length_append, List.length_cons, List.length_nil] <;> omega))
              all_goals try exact ⟨by dsimp only; rw [IntWalk.i64_in _ (by omega)]; rfl⟩
    · rw [q4 (by omega)]
      repeat' ((conv => whnf); first | refine Or.inl ?_ | refine And.intro (Obl.out (?_ : Obl _)) ?_ | refine ifB_intro (fun h => ?_) (fun h => ?_) | refine Exists.intro _ (And.intro rfl ?_) | ((with_reducible show _ = _); rfl))
      all_goals try ((with_reducible refine Obl.mk ?_); first | ((with_reducible show regOk _ _ = true); kernel_rfl) | rfl | exact trivial | ((repeat' (first | exact trivial | refine And.intro ?_ ?_)); done) | decide | ((repeat' (first | exact List.forall_mem_nil _ | refine List.forall_mem_cons.2 (And.intro rfl ?_))); done) | (refine And.intro ?_ ?_ <;> simp only [List.length_map, List.length_append, List.length_cons, List.length_nil] <;> omega))
      all_goals try (exfalso; simp only [decide_eq_false_iff_not, decide_eq_true_eq] at *; omega)
  · rw [decide_eq_false h8, Bool.false_and]
    repeat' ((conv => whnf); first | refine Or.inl ?_ | refine And.intro (Obl.out (?_ : Obl _)) ?_ | refine ifB_intro (fun h => ?_) (fun h => ?_) | refine call_intro (hL) (And.intro rfl (And.intro rfl trivial)) ?_ | refine Exists.intro _ (And.intro rfl ?_) | ((with_reducible show _ = _); rfl))
    all_goals try ((with_reducible refine Obl.mk ?_); first | ((with_reducible show regOk _ _ = true); kernel_rfl) | rfl | exact trivial | ((repeat' (first | exact trivial | refine And.intro ?_ ?_)); done) | decide | ((repeat' (first | exact List.forall_mem_nil _ | refine List.forall_mem_cons.2 (And.intro rfl ?_))); done) | (refine And.intro ?_ ?_ <;> simp only [List.length_map, List.length_append, List.length_cons, List.length_nil] <;> omega))
    all_goals try (exfalso; simp only [decide_eq_false_iff_not, decide_eq_true_eq] at *; omega)
end Go.Proofs.Ytehniaekfijmiaa
