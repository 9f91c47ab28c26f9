/- ProgramOk of the program. -/
import Derived.Test.YtehniaekfijmiaaFnsPe
namespace Go.Proofs.Ytehniaekfijmiaa
open Go.Sim
set_option maxRecDepth 100000
set_option maxHeartbeats 4000000
abbrev nR (n : Nat) : List Tr := intRow n
theorem chainI_cons {l : List TLine} {k : Nat} {fs : List Nat} {next : Nat} : chainI l (k :: fs) next = match endAt l k with | some e => if k = next ∧ nameFirst l k = true ∧ fnOk l k e = true then chainI l fs (e + 1) else false | none => false := by rw [chainI]; cases endAt l k <;> rfl
theorem headOk_at {l : List TLine} {x : TLine} (hx : l[0]? = some x) : headOk l = (x.fKind == 0 && (x.fName == mainName && x.fArgs.length == 0)) := by
  cases l with
  | nil => cases hx
  | cons y r => rw [List.getElem?_cons_zero] at hx; injection hx with hx; subst hx; rfl
theorem elsesIn_step {l : List TLine} {k e i : Nat} {x : TLine} (hi : i < e) (hx : l[i]? = some x) : elsesIn l k e (e - i) i = ((if x.fKind = 4 then anyE l i (i - k) k else true) && elsesIn l k e (e - (i + 1)) (i + 1)) := by
  rw [show e - i = (e - (i + 1)) + 1 by omega, elsesIn, if_pos hi, hx]
theorem elses_has {l : List TLine} {i : Nat} (hi : i < l.length) : ((List.range l.length).map fun j : Nat => elseOf l (j : Int)).contains (i : Int) = anyE l i i 0 := by
  rw [Bool.eq_iff_iff, anyE_iff, List.contains_iff_mem, List.mem_map]
  constructor
  · rintro ⟨j, hj, he⟩
    rw [elseOf, if_pos (by omega), Int.toNat_natCast] at he
    cases hx : elseAt l j with
    | none => rw [hx] at he; simp only [endI] at he; omega
    | some m =>
      rw [hx] at he
      simp only [endI] at he
      have : m = i := by omega
      subst this
      obtain ⟨_, _, _, _, _, h1, _⟩ := elseAt_some hx
      exact ⟨j, by omega, by omega, hx⟩
  · rintro ⟨j, _, hj, he⟩
    refine ⟨j, by rw [List.mem_range]; omega, ?_⟩
    rw [elseOf, if_pos (by omega), Int.toNat_natCast, he]
    rfl
theorem s_impl_ProgramOk (l : List TLine) (hsm : smallT 1048576 (.lst 4 (l.map TLine.tr))) : Sim.Spec Try.prog 86 [tvP l] (rB (programOk l)) := by
  refine spec_of_W hΓ hmix Try.func86 rfl (by decide) rfl ?_
  have hl := small_nat hsm
  have hs : ∀ x ∈ l, smallR 1048576 x.tr := fun x hx => smallRs_map hsm hx
  have hlen : (l.map TLine.tr).length = l.length := by simp
  have hF := s_impl_FunctionLines l hl
  have hfl : ((funs l).map fun n : Nat => intRow n).length = (funs l).length := by simp
  have hfle : (funs l).length ≤ l.length := funsF_len l 0
  have hB := s_impl_between (((funs l).map fun n : Nat => intRow n).length : Int) 1 6
  by_cases c1 : l.length ≤ 60 ∧ (1 ≤ (funs l).length ∧ (funs l).length ≤ 6)
  · obtain ⟨c1, c2, c3⟩ := c1
    rw [within_iff.2 ⟨by rw [hfl]; omega, by rw [hfl]; omega⟩] at hB
    unfold programOk
    rw [decide_eq_true c1, decide_eq_true (show 1 ≤ (funs l).length ∧ (funs l).length ≤ 6 from ⟨c2, c3⟩), Bool.true_and, Bool.true_and]
    cases hall : l.all lineOk with
    | false =>
      rw [Bool.false_and]
      repeat' ((conv => whnf); first | refine Or.inl ?_ | refine And.intro (Obl.out (?_ : Obl _)) ?_ | refine ifB_intro (fun h => ?_) (fun h => ?_) | refine call_intro (hF) (And.intro rfl trivial) ?_ | refine call_intro (hB) (And.intro rfl (And.intro rfl (And.intro rfl trivial))) ?_ | refine Exists.intro _ (And.intro rfl ?_) | ((with_reducible show _ = _); rfl))
      all_goals try ((with_reducible refine Obl.mk ?_); first | ((with_reducible show regOk _ _ = true); kernel_rfl) | rfl | exact trivial | ((repeat' (first | exact trivial | refine And.intro ?_ ?_)); done) | decide | ((repeat' (first | exact List.forall_mem_nil _ | refine List.forall_mem_cons.2 (And.intro rfl ?_))); done) | (refine And.intro ?_ ?_ <;> simp only [List.length_map, List.length_append, List.length_cons, List.length_nil] <;> omega))
      all_goals try (exfalso; simp only [decide_eq_false_iff_not, decide_eq_true_eq] at *; omega)
      all_goals try (exfalso; (try simp_all [within]); (try omega); done)
      conv => whnf
      refine ⟨{ k : Nat // k ≤ l.length ∧ (l.drop k).all lineOk = false }, fun q => ⟨[(0, vP l), (3, .r (.c (.own (3, 0, 0)))), (25, vP l), (26, tI .i64 ((l.map TLine.tr).length : Int)), (27, tI .i64 (q.1 : Int))], [((3, 0, 0), some (.arr true 1 ((funs l).map fun n : Nat => intRow n)))], [3]⟩, fun q => l.length - q.1, ⟨0, by omega, hall⟩, ?_, ?_⟩
      · skip
        repeat' ((conv => whnf); first | refine Or.inl ?_ | refine And.intro (Obl.out (?_ : Obl _)) ?_ | refine ifB_intro (fun h => ?_) (fun h => ?_) | refine Exists.intro _ (And.intro rfl ?_) | ((with_reducible show _ = _); rfl))
        all_goals try ((with_reducible refine Obl.mk ?_); first | ((with_reducible show regOk _ _ = true); kernel_rfl) | rfl | exact trivial | ((repeat' (first | exact trivial | refine And.intro ?_ ?_)); done) | decide | ((repeat' (first | exact List.forall_mem_nil _ | refine List.forall_mem_cons.2 (And.intro rfl ?_))); done) | (refine And.intro ?_ ?_ <;> simp only [List.length_map, List.length_append, List.length_cons, List.length_nil] <;> omega))
      intro ⟨k, hk, hr⟩
      dsimp only at hk hr ⊢
      by_cases hlt : k < l.length
      · obtain ⟨x, hx⟩ := get_of_lt hlt
        rw [all_at hx] at hr
        have hL := s_impl_LineOk x (hs x (List.mem_of_getElem? hx))
        cases ho : lineOk x with
        | false =>
          rw [ho] at hL
          repeat' ((conv => whnf); first | refine Or.inl ?_ | refine And.intro (Obl.out (?_ : Obl _)) ?_ | refine ifB_intro (fun h => ?_) (fun h => ?_) | refine ⟨k, x.tr, rfl, map_get hx, ?_⟩ | refine call_intro (hL) (And.intro (And.intro rfl (And.intro rfl (And.intro rfl (And.intro rfl trivial)))) trivial) ?_ | refine Exists.intro _ (And.intro rfl ?_) | ((with_reducible show _ = _); rfl))
          all_goals try ((with_reducible refine Obl.mk ?_); first | ((with_reducible show regOk _ _ = true); kernel_rfl) | rfl | exact trivial | ((repeat' (first | exact trivial | refine And.intro ?_ ?_)); done) | decide | ((repeat' (first | exact List.forall_mem_nil _ | refine List.forall_mem_cons.2 (And.intro rfl ?_))); done) | (refine And.intro ?_ ?_ <;> simp only [List.length_map, List.length_append, List.length_cons, List.length_nil] <;> omega))
          all_goals try (exfalso; simp only [decide_eq_false_iff_not, decide_eq_true_eq] at *; omega)
          all_goals try (exfalso; (try simp_all [within]); (try omega); done)
        | true =>
          rw [ho] at hL hr
          rw [Bool.true_and] at hr
          repeat' ((conv => whnf); first | refine Or.inl ?_ | refine And.intro (Obl.out (?_ : Obl _)) ?_ | refine ifB_intro (fun h => ?_) (fun h => ?_) | refine ⟨k, x.tr, rfl, map_get hx, ?_⟩ | refine call_intro (hL) (And.intro (And.intro rfl (And.intro rfl (And.intro rfl (And.intro rfl trivial)))) trivial) ?_ | refine Exists.intro _ (And.intro rfl ?_) | ((with_reducible show _ = _); rfl))
          all_goals try ((with_reducible refine Obl.mk ?_); first | ((with_reducible show regOk _ _ = true); kernel_rfl) | rfl | exact trivial | ((repeat' (first | exact trivial | refine And.intro ?_ ?_)); done) | decide | ((repeat' (first | exact List.forall_mem_nil _ | refine List.forall_mem_cons.2 (And.intro rfl ?_))); done) | (refine And.intro ?_ ?_ <;> simp only [List.length_map, List.length_append, List.length_cons, List.length_nil] <;> omega))
          all_goals try (exfalso; simp only [decide_eq_false_iff_not, decide_eq_true_eq] at *; omega)
          all_goals try (exfalso; (try simp_all [within]); (try omega); done)
          conv => whnf
          refine ⟨⟨k + 1, by omega, hr⟩, ?_, by dsimp only; omega⟩
          repeat' ((conv => whnf); first | refine Or.inl ?_ | refine And.intro (Obl.out (?_ : Obl _)) ?_ | refine ifB_intro (fun h => ?_) (fun h => ?_) | refine Exists.intro _ (And.intro rfl ?_) | ((with_reducible show _ = _); rfl))
          all_goals try ((with_reducible refine Obl.mk ?_); first | ((with_reducible show regOk _ _ = true); kernel_rfl) | rfl | exact trivial | ((repeat' (first | exact trivial | refine And.intro ?_ ?_)); done) | decide | ((repeat' (first | exact List.forall_mem_nil _ | refine List.forall_mem_cons.2 (And.intro rfl ?_))); done) | (refine And.intro ?_ ?_ <;> simp only [List.length_map, List.length_append, List.length_cons, List.length_nil] <;> omega))
          all_goals try exact ⟨by dsimp only; rw [IntWalk.i64_in _ (by omega)]; rfl⟩
      · rw [List.drop_eq_nil_of_le (by omega)] at hr
        cases hr
    | true =>
      have hok : ∀ x ∈ l, lineOk x = true := List.all_eq_true.1 hall
      rw [Bool.true_and]
      repeat' ((conv => whnf); first | refine Or.inl ?_ | refine And.intro (Obl.out (?_ : Obl _)) ?_ | refine ifB_intro (fun h => ?_) (fun h => ?_) | refine call_intro (hF) (And.intro rfl trivial) ?_ | refine call_intro (hB) (And.intro rfl (And.intro rfl (And.intro rfl trivial))) ?_ | refine Exists.intro _ (And.intro rfl ?_) | ((with_reducible show _ = _); rfl))
      all_goals try ((with_reducible refine Obl.mk ?_); first | ((with_reducible show regOk _ _ = true); kernel_rfl) | rfl | exact trivial | ((repeat' (first | exact trivial | refine And.intro ?_ ?_)); done) | decide | ((repeat' (first | exact List.forall_mem_nil _ | refine List.forall_mem_cons.2 (And.intro rfl ?_))); done) | (refine And.intro ?_ ?_ <;> simp only [List.length_map, List.length_append, List.length_cons, List.length_nil] <;> omega))
      all_goals try (exfalso; simp only [decide_eq_false_iff_not, decide_eq_true_eq] at *; omega)
      all_goals try (exfalso; (try simp_all [within]); (try omega); done)
      conv => whnf
      refine ⟨{ k : Nat // k ≤ l.length }, fun q => ⟨[(0, vP l), (3, .r (.c (.own (3, 0, 0)))), (25, vP l), (26, tI .i64 ((l.map TLine.tr).length : Int)), (27, tI .i64 (q.1 : Int))], [((3, 0, 0), some (.arr true 1 ((funs l).map fun n : Nat => intRow n)))], [3]⟩, fun q => l.length - q.1, ⟨0, by omega⟩, ?_, ?_⟩
      · skip
        repeat' ((conv => whnf); first | refine Or.inl ?_ | refine And.intro (Obl.out (?_ : Obl _)) ?_ | refine ifB_intro (fun h => ?_) (fun h => ?_) | refine Exists.intro _ (And.intro rfl ?_) | ((with_reducible show _ = _); rfl))
        all_goals try ((with_reducible refine Obl.mk ?_); first | ((with_reducible show regOk _ _ = true); kernel_rfl) | rfl | exact trivial | ((repeat' (first | exact trivial | refine And.intro ?_ ?_)); done) | decide | ((repeat' (first | exact List.forall_mem_nil _ | refine List.forall_mem_cons.2 (And.intro rfl ?_))); done) | (refine And.intro ?_ ?_ <;> simp only [List.length_map, List.length_append, List.length_cons, List.length_nil] <;> omega))
      intro ⟨k, hk⟩
      dsimp only at hk ⊢
      by_cases hlt : k < l.length
      · obtain ⟨x, hx⟩ := get_of_lt hlt
        have hL := s_impl_LineOk x (hs x (List.mem_of_getElem? hx))
        rw [hok x (List.mem_of_getElem? hx)] at hL
        repeat' ((conv => whnf); first | refine Or.inl ?_ | refine And.intro (Obl.out (?_ : Obl _)) ?_ | refine ifB_intro (fun h => ?_) (fun h => ?_) | refine ⟨k, x.tr, rfl, map_get hx, ?_⟩ | refine call_intro (hL) (And.intro (And.intro rfl (And.intro rfl (And.intro rfl (And.intro rfl trivial)))) trivial) ?_ | refine Exists.intro _ (And.intro rfl ?_) | ((with_reducible show _ = _); rfl))
        all_goals try ((with_reducible refine Obl.mk ?_); first | ((with_reducible show regOk _ _ = true); kernel_rfl) | rfl | exact trivial | ((repeat' (first | exact trivial | refine And.intro ?_ ?_)); done) | decide | ((repeat' (first | exact List.forall_mem_nil _ | refine List.forall_mem_cons.2 (And.intro rfl ?_))); done) | (refine And.intro ?_ ?_ <;> simp only [List.length_map, List.length_append, List.length_cons, List.length_nil] <;> omega))
        all_goals try (exfalso; simp only [decide_eq_false_iff_not, decide_eq_true_eq] at *; omega)
        all_goals try (exfalso; (try simp_all [within]); (try omega); done)
        conv => whnf
        refine ⟨⟨k + 1, by omega⟩, ?_, by dsimp only; omega⟩
        repeat' ((conv => whnf); first | refine Or.inl ?_ | refine And.intro (Obl.out (?_ : Obl _)) ?_ | refine ifB_intro (fun h => ?_) (fun h => ?_) | refine Exists.intro _ (And.intro rfl ?_) | ((with_reducible show _ = _); rfl))
        all_goals try ((with_reducible refine Obl.mk ?_); first | ((with_reducible show regOk _ _ = true); kernel_rfl) | rfl | exact trivial | ((repeat' (first | exact trivial | refine And.intro ?_ ?_)); done) | decide | ((repeat' (first | exact List.forall_mem_nil _ | refine List.forall_mem_cons.2 (And.intro rfl ?_))); done) | (refine And.intro ?_ ?_ <;> simp only [List.length_map, List.length_append, List.length_cons, List.length_nil] <;> omega))
        all_goals try exact ⟨by dsimp only; rw [IntWalk.i64_in _ (by omega)]; rfl⟩
      · clear hB hF
        have hpos : 0 < l.length := by omega
        obtain ⟨x0, hx0⟩ := get_of_lt hpos
        have hal : (x0.fArgs.map strRow).length = x0.fArgs.length := by simp
        cases hho : headOk l with
        | false =>
          rw [Bool.false_and]
          rw [headOk_at hx0] at hho
          repeat' ((conv => whnf); first | refine Or.inl ?_ | refine And.intro (Obl.out (?_ : Obl _)) ?_ | refine ifB_intro (fun h => ?_) (fun h => ?_) | refine ⟨0, x0.tr, rfl, map_get hx0, ?_⟩ | refine Exists.intro _ (And.intro rfl ?_) | ((with_reducible show _ = _); rfl))
          all_goals try ((with_reducible refine Obl.mk ?_); first | ((with_reducible show regOk _ _ = true); kernel_rfl) | rfl | exact trivial | ((repeat' (first | exact trivial | refine And.intro ?_ ?_)); done) | decide | ((repeat' (first | exact List.forall_mem_nil _ | refine List.forall_mem_cons.2 (And.intro rfl ?_))); done) | (refine And.intro ?_ ?_ <;> simp only [List.length_map, List.length_append, List.length_cons, List.length_nil] <;> omega))
          all_goals try (exfalso; simp only [decide_eq_false_iff_not, decide_eq_true_eq] at *; omega)
          all_goals try (exfalso; (try simp_all [within]); (try omega); done)
          all_goals try (exfalso; simp_all [mainName]; done)
        | true =>
          rw [Bool.true_and]
          obtain ⟨R, hR⟩ : ∃ R, chainI l (funs l) 0 = R := ⟨_, rfl⟩
          rw [← chainI_all, hR]
          rw [headOk_at hx0] at hho
          repeat' ((conv => whnf); first | refine Or.inl ?_ | refine And.intro (Obl.out (?_ : Obl _)) ?_ | refine ifB_intro (fun h => ?_) (fun h => ?_) | refine ⟨0, x0.tr, rfl, map_get hx0, ?_⟩ | refine Exists.intro _ (And.intro rfl ?_) | ((with_reducible show _ = _); rfl))
          all_goals try ((with_reducible refine Obl.mk ?_); first | ((with_reducible show regOk _ _ = true); kernel_rfl) | rfl | exact trivial | ((repeat' (first | exact trivial | refine And.intro ?_ ?_)); done) | decide | ((repeat' (first | exact List.forall_mem_nil _ | refine List.forall_mem_cons.2 (And.intro rfl ?_))); done) | (refine And.intro ?_ ?_ <;> simp only [List.length_map, List.length_append, List.length_cons, List.length_nil] <;> omega))
          all_goals try (exfalso; simp only [decide_eq_false_iff_not, decide_eq_true_eq] at *; omega)
          all_goals try (exfalso; (try simp_all [within]); (try omega); done)
          all_goals try (exfalso; simp_all [mainName]; done)
          conv => whnf
          refine ⟨{ q : Nat × Nat // q.1 ≤ (funs l).length ∧ q.2 ≤ l.length ∧ chainI l ((funs l).drop q.1) q.2 = R }, fun q => ⟨[(0, vP l), (6, tI .i64 (q.1.2 : Int)), (55, .r (.c (.own (3, 0, 0)))), (56, tI .i64 (((funs l).map fun n : Nat => intRow n).length : Int)), (57, tI .i64 (q.1.1 : Int))], [((3, 0, 0), some (.arr true 1 ((funs l).map fun n : Nat => intRow n)))], [3]⟩, fun q => (funs l).length - q.1.1, ⟨(0, 0), by dsimp only; omega, by dsimp only; omega, hR⟩, ?_, ?_⟩
          · skip
            repeat' ((conv => whnf); first | refine Or.inl ?_ | refine And.intro (Obl.out (?_ : Obl _)) ?_ | refine ifB_intro (fun h => ?_) (fun h => ?_) | refine Exists.intro _ (And.intro rfl ?_) | ((with_reducible show _ = _); rfl))
            all_goals try ((with_reducible refine Obl.mk ?_); first | ((with_reducible show regOk _ _ = true); kernel_rfl) | rfl | exact trivial | ((repeat' (first | exact trivial | refine And.intro ?_ ?_)); done) | decide | ((repeat' (first | exact List.forall_mem_nil _ | refine List.forall_mem_cons.2 (And.intro rfl ?_))); done) | (refine And.intro ?_ ?_ <;> simp only [List.length_map, List.length_append, List.length_cons, List.length_nil] <;> omega))
          intro ⟨⟨j, next⟩, hj, hnx, hr⟩
          dsimp only at hj hnx hr ⊢
          by_cases hjl : j < (funs l).length
          · obtain ⟨f, hf⟩ := get_of_lt hjl
            obtain ⟨hfl2, x, hx, hx0'⟩ := funs_lt (List.mem_of_getElem? hf)
            rw [drop_at hf, chainI_cons] at hr
            have hE := s_impl_EndOf l (f : Int) hl
            have hN := s_impl_FindFunction l x.fName hl
            have hjm : j < ((funs l).map fun n : Nat => intRow n).length := by rw [hfl]; exact hjl
            cases he : endAt l f with
            | none =>
              rw [endOf_at, endI_none he] at hE
              rw [he] at hr
              subst hr
              generalize findF l x.fName = ff at *
              repeat' ((conv => whnf); first | refine seq_inl ?_ | refine reg_inl ?_ | refine And.intro (Obl.out (?_ : Obl _)) ?_ | refine ifB_intro (fun h => ?_) (fun h => ?_) | refine ⟨j, rfl, hjm, ?_⟩ | refine ⟨(nR f), (map_get hf), ?_⟩ | refine ⟨f, x.tr, rfl, map_get hx, ?_⟩ | refine Or.inl (call_intro (hE) (And.intro rfl (And.intro rfl trivial)) ?_) | refine Or.inl (call_intro (hN) (And.intro rfl (And.intro rfl trivial)) ?_) | refine Exists.intro _ (And.intro rfl ?_) | ((with_reducible show _ = _); rfl))
              all_goals try ((with_reducible refine Obl.mk ?_); first | ((with_reducible show regOk _ _ = true); kernel_rfl) | rfl | exact trivial | ((repeat' (first | exact trivial | refine And.intro ?_ ?_)); done) | decide | ((repeat' (first | exact List.forall_mem_nil _ | refine List.forall_mem_cons.2 (And.intro rfl ?_))); done) | (refine And.intro ?_ ?_ <;> simp only [List.length_map, List.length_append, List.length_cons, List.length_nil] <;> omega))
              all_goals try (exfalso; simp only [decide_eq_false_iff_not, decide_eq_true_eq] at *; omega)
              all_goals try (exfalso; (try simp_all [within]); (try omega); done)
            | some e =>
              obtain ⟨_, _, _, _, hke, hel⟩ := endAt_some he
              rw [endOf_at, endI_some he] at hE
              rw [he] at hr
              dsimp only at hr
              have hK := s_impl_functionOk l f e c1 hs hok he
              have hnf : nameFirst l f = (findN l 0 x.fName == some f) := by unfold nameFirst; rw [hx]
              have hnf2 : (findF l x.fName == (f : Int)) = nameFirst l f := by
                rw [hnf, findF]
                cases findN l 0 x.fName with
                | none => simp [endI]
                | some m => rw [Bool.eq_iff_iff]; simp [endI]; omega
              generalize findF l x.fName = ff at *
              by_cases hc : f = next ∧ nameFirst l f = true ∧ fnOk l f e = true
              · rw [if_pos hc] at hr
                obtain ⟨d1, d2, d3⟩ := hc
                rw [d2] at hnf2
                have hff := eq_of_beq hnf2
                subst hff
                rw [d3] at hK
                repeat' ((conv => whnf); first | refine seq_inl ?_ | refine reg_inl ?_ | refine And.intro (Obl.out (?_ : Obl _)) ?_ | refine ifB_intro (fun h => ?_) (fun h => ?_) | refine ⟨j, rfl, hjm, ?_⟩ | refine ⟨(nR f), (map_get hf), ?_⟩ | refine ⟨f, x.tr, rfl, map_get hx, ?_⟩ | refine Or.inl (call_intro (hE) (And.intro rfl (And.intro rfl trivial)) ?_) | refine Or.inl (call_intro (hN) (And.intro rfl (And.intro rfl trivial)) ?_) | refine Or.inl (call_intro (hK) (And.intro rfl (And.intro rfl (And.intro rfl trivial))) ?_) | refine Exists.intro _ (And.intro rfl ?_) | ((with_reducible show _ = _); rfl))
                all_goals try ((with_reducible refine Obl.mk ?_); first | ((with_reducible show regOk _ _ = true); kernel_rfl) | rfl | exact trivial | ((repeat' (first | exact trivial | refine And.intro ?_ ?_)); done) | decide | ((repeat' (first | exact List.forall_mem_nil _ | refine List.forall_mem_cons.2 (And.intro rfl ?_))); done) | (refine And.intro ?_ ?_ <;> simp only [List.length_map, List.length_append, List.length_cons, List.length_nil] <;> omega))
                all_goals try (exfalso; simp only [decide_eq_false_iff_not, decide_eq_true_eq] at *; omega)
                all_goals try (exfalso; (try simp_all [within]); (try omega); done)
                all_goals try (exfalso; simp_all; done)
                conv => whnf
                refine ⟨⟨(j + 1, e + 1), by dsimp only; omega, by dsimp only; omega, hr⟩, ?_, by dsimp only; omega⟩
                repeat' ((conv => whnf); first | refine seq_inl ?_ | refine reg_inl ?_ | refine And.intro (Obl.out (?_ : Obl _)) ?_ | refine ifB_intro (fun h => ?_) (fun h => ?_) | refine Exists.intro _ (And.intro rfl ?_) | ((with_reducible show _ = _); rfl))
                all_goals try ((with_reducible refine Obl.mk ?_); first | ((with_reducible show regOk _ _ = true); kernel_rfl) | rfl | exact trivial | ((repeat' (first | exact trivial | refine And.intro ?_ ?_)); done) | decide | ((repeat' (first | exact List.forall_mem_nil _ | refine List.forall_mem_cons.2 (And.intro rfl ?_))); done) | (refine And.intro ?_ ?_ <;> simp only [List.length_map, List.length_append, List.length_cons, List.length_nil] <;> omega))
                all_goals try exact ⟨by dsimp only; rw [IntWalk.i64_in _ (by omega)]; rfl⟩
              · rw [if_neg hc] at hr
                subst hr
                have hbad : ∀ b1 b2 : Bool, fnOk l f e = b2 → (ff == (f : Int)) = b1 → f = next → b1 = true → b2 = true → False := by
                  intro b1 b2 h1 h2 h3 h4 h5
                  subst h4; subst h5
                  exact hc ⟨h3, by rw [← hnf2]; exact h2, h1⟩
                cases hfk : fnOk l f e with
                | true =>
                  rw [hfk] at hK
                  repeat' ((conv => whnf); first | refine seq_inl ?_ | refine reg_inl ?_ | refine And.intro (Obl.out (?_ : Obl _)) ?_ | refine ifB_intro (fun h => ?_) (fun h => ?_) | refine ⟨j, rfl, hjm, ?_⟩ | refine ⟨(nR f), (map_get hf), ?_⟩ | refine ⟨f, x.tr, rfl, map_get hx, ?_⟩ | refine Or.inl (call_intro (hE) (And.intro rfl (And.intro rfl trivial)) ?_) | refine Or.inl (call_intro (hN) (And.intro rfl (And.intro rfl trivial)) ?_) | refine Or.inl (call_intro (hK) (And.intro rfl (And.intro rfl (And.intro rfl trivial))) ?_) | refine Exists.intro _ (And.intro rfl ?_) | ((with_reducible show _ = _); rfl))
                  all_goals try ((with_reducible refine Obl.mk ?_); first | ((with_reducible show regOk _ _ = true); kernel_rfl) | rfl | exact trivial | ((repeat' (first | exact trivial | refine And.intro ?_ ?_)); done) | decide | ((repeat' (first | exact List.forall_mem_nil _ | refine List.forall_mem_cons.2 (And.intro rfl ?_))); done) | (refine And.intro ?_ ?_ <;> simp only [List.length_map, List.length_append, List.length_cons, List.length_nil] <;> omega))
                  all_goals try (exfalso; simp only [decide_eq_false_iff_not, decide_eq_true_eq] at *; omega)
                  all_goals try (exfalso; (try simp_all [within]); (try omega); done)
                  all_goals (exfalso; refine hbad true true hfk ?_ ?_ rfl rfl <;> simp_all <;> omega)
                | false =>
                  rw [hfk] at hK
                  repeat' ((conv => whnf); first | refine seq_inl ?_ | refine reg_inl ?_ | refine And.intro (Obl.out (?_ : Obl _)) ?_ | refine ifB_intro (fun h => ?_) (fun h => ?_) | refine ⟨j, rfl, hjm, ?_⟩ | refine ⟨(nR f), (map_get hf), ?_⟩ | refine ⟨f, x.tr, rfl, map_get hx, ?_⟩ | refine Or.inl (call_intro (hE) (And.intro rfl (And.intro rfl trivial)) ?_) | refine Or.inl (call_intro (hN) (And.intro rfl (And.intro rfl trivial)) ?_) | refine Or.inl (call_intro (hK) (And.intro rfl (And.intro rfl (And.intro rfl trivial))) ?_) | refine Exists.intro _ (And.intro rfl ?_) | ((with_reducible show _ = _); rfl))
                  all_goals try ((with_reducible refine Obl.mk ?_); first | ((with_reducible show regOk _ _ = true); kernel_rfl) | rfl | exact trivial | ((repeat' (first | exact trivial | refine And.intro ?_ ?_)); done) | decide | ((repeat' (first | exact List.forall_mem_nil _ | refine List.forall_mem_cons.2 (And.intro rfl ?_))); done) | (refine And.intro ?_ ?_ <;> simp only [List.length_map, List.length_append, List.length_cons, List.length_nil] <;> omega))
                  all_goals try (exfalso; simp only [decide_eq_false_iff_not, decide_eq_true_eq] at *; omega)
                  all_goals try (exfalso; (try simp_all [within]); (try omega); done)
          · rw [List.drop_eq_nil_of_le (by omega), chainI] at hr
            repeat' ((conv => whnf); first | refine Or.inl ?_ | refine And.intro (Obl.out (?_ : Obl _)) ?_ | refine ifB_intro (fun h => ?_) (fun h => ?_) | refine Exists.intro _ (And.intro rfl ?_) | ((with_reducible show _ = _); rfl))
            all_goals try ((with_reducible refine Obl.mk ?_); first | ((with_reducible show regOk _ _ = true); kernel_rfl) | rfl | exact trivial | ((repeat' (first | exact trivial | refine And.intro ?_ ?_)); done) | decide | ((repeat' (first | exact List.forall_mem_nil _ | refine List.forall_mem_cons.2 (And.intro rfl ?_))); done) | (refine And.intro ?_ ?_ <;> simp only [List.length_map, List.length_append, List.length_cons, List.length_nil] <;> omega))
            all_goals try (exfalso; simp only [decide_eq_false_iff_not, decide_eq_true_eq] at *; omega)
            conv => whnf
            refine ⟨{ k : Nat // k ≤ l.length }, fun q => ⟨[(0, vP l), (6, tI .i64 (next : Int)), (10, .r (.c (.own (10, 0, 0)))), (94, tI .i64 ((l.map TLine.tr).length : Int)), (95, tI .i64 (q.1 : Int))], [((10, 0, 0), some (.arr true 1 (((List.range q.1).map fun j : Nat => elseOf l (j : Int)).map intRow)))], [10]⟩, fun q => l.length - q.1, ⟨0, by omega⟩, ?_, ?_⟩
            · skip
              repeat' ((conv => whnf); first | refine Or.inl ?_ | refine And.intro (Obl.out (?_ : Obl _)) ?_ | refine ifB_intro (fun h => ?_) (fun h => ?_) | refine Exists.intro _ (And.intro rfl ?_) | ((with_reducible show _ = _); rfl))
              all_goals try ((with_reducible refine Obl.mk ?_); first | ((with_reducible show regOk _ _ = true); kernel_rfl) | rfl | exact trivial | ((repeat' (first | exact trivial | refine And.intro ?_ ?_)); done) | decide | ((repeat' (first | exact List.forall_mem_nil _ | refine List.forall_mem_cons.2 (And.intro rfl ?_))); done) | (refine And.intro ?_ ?_ <;> simp only [List.length_map, List.length_append, List.length_cons, List.length_nil] <;> omega))
            intro ⟨k, hk⟩
            dsimp only at hk ⊢
            have hral : (((List.range k).map fun j : Nat => elseOf l (j : Int)).map intRow).length = k := by simp
            by_cases hlt : k < l.length
            · have hS := s_impl_ElseOf l (k : Int) hl
              repeat' ((conv => whnf); first | refine seq_inl ?_ | refine reg_inl ?_ | refine And.intro (Obl.out (?_ : Obl _)) ?_ | refine ifB_intro (fun h => ?_) (fun h => ?_) | refine Or.inl (call_intro (hS) (And.intro rfl (And.intro rfl trivial)) ?_) | refine Exists.intro _ (And.intro rfl ?_) | ((with_reducible show _ = _); rfl))
              all_goals try ((with_reducible refine Obl.mk ?_); first | ((with_reducible show regOk _ _ = true); kernel_rfl) | rfl | exact trivial | ((repeat' (first | exact trivial | refine And.intro ?_ ?_)); done) | decide | ((repeat' (first | exact List.forall_mem_nil _ | refine List.forall_mem_cons.2 (And.intro rfl ?_))); done) | (refine And.intro ?_ ?_ <;> simp only [List.length_map, List.length_append, List.length_cons, List.length_nil] <;> omega))
              all_goals try (exfalso; simp only [decide_eq_false_iff_not, decide_eq_true_eq] at *; omega)
              all_goals try exact ⟨⟨by simp <;> omega, by simp <;> omega⟩⟩
              conv => whnf
              refine ⟨⟨k + 1, by omega⟩, ?_, by dsimp only; omega⟩
              repeat' ((conv => whnf); first | refine seq_inl ?_ | refine reg_inl ?_ | refine And.intro (Obl.out (?_ : Obl _)) ?_ | refine ifB_intro (fun h => ?_) (fun h => ?_) | refine Exists.intro _ (And.intro rfl ?_) | ((with_reducible show _ = _); rfl))
              all_goals try ((with_reducible refine Obl.mk ?_); first | ((with_reducible show regOk _ _ = true); kernel_rfl) | rfl | exact trivial | ((repeat' (first | exact trivial | refine And.intro ?_ ?_)); done) | decide | ((repeat' (first | exact List.forall_mem_nil _ | refine List.forall_mem_cons.2 (And.intro rfl ?_))); done) | (refine And.intro ?_ ?_ <;> simp only [List.length_map, List.length_append, List.length_cons, List.length_nil] <;> omega))
              all_goals try exact ⟨by dsimp only; rw [IntWalk.i64_in _ (by omega)]; rfl⟩
              all_goals exact ⟨by simp [List.range_succ, intRow]⟩
            · have hkl : k = l.length := by omega
              subst hkl
              obtain ⟨Q, hQ⟩ : ∃ Q, elsesOk l = Q := ⟨_, rfl⟩
              rw [hQ] at hr
              rw [elsesOk] at hQ
              repeat' ((conv => whnf); first | refine Or.inl ?_ | refine And.intro (Obl.out (?_ : Obl _)) ?_ | refine ifB_intro (fun h => ?_) (fun h => ?_) | refine Exists.intro _ (And.intro rfl ?_) | ((with_reducible show _ = _); rfl))
              all_goals try ((with_reducible refine Obl.mk ?_); first | ((with_reducible show regOk _ _ = true); kernel_rfl) | rfl | exact trivial | ((repeat' (first | exact trivial | refine And.intro ?_ ?_)); done) | decide | ((repeat' (first | exact List.forall_mem_nil _ | refine List.forall_mem_cons.2 (And.intro rfl ?_))); done) | (refine And.intro ?_ ?_ <;> simp only [List.length_map, List.length_append, List.length_cons, List.length_nil] <;> omega))
              all_goals try (exfalso; simp only [decide_eq_false_iff_not, decide_eq_true_eq] at *; omega)
              conv => whnf
              refine ⟨{ k : Nat // k ≤ l.length ∧ elsesIn l 0 l.length (l.length - k) k = Q }, fun q => ⟨[(0, vP l), (6, tI .i64 (next : Int)), (10, .r (.c (.own (10, 0, 0)))), (105, vP l), (106, tI .i64 ((l.map TLine.tr).length : Int)), (107, tI .i64 (q.1 : Int))], [((10, 0, 0), some (.arr true 1 (((List.range l.length).map fun j : Nat => elseOf l (j : Int)).map intRow)))], [10]⟩, fun q => l.length - q.1, ⟨0, by omega, by rw [Nat.sub_zero]; exact hQ⟩, ?_, ?_⟩
              · skip
                repeat' ((conv => whnf); first | refine Or.inl ?_ | refine And.intro (Obl.out (?_ : Obl _)) ?_ | refine ifB_intro (fun h => ?_) (fun h => ?_) | refine Exists.intro _ (And.intro rfl ?_) | ((with_reducible show _ = _); rfl))
                all_goals try ((with_reducible refine Obl.mk ?_); first | ((with_reducible show regOk _ _ = true); kernel_rfl) | rfl | exact trivial | ((repeat' (first | exact trivial | refine And.intro ?_ ?_)); done) | decide | ((repeat' (first | exact List.forall_mem_nil _ | refine List.forall_mem_cons.2 (And.intro rfl ?_))); done) | (refine And.intro ?_ ?_ <;> simp only [List.length_map, List.length_append, List.length_cons, List.length_nil] <;> omega))
              intro ⟨k, hk, hq⟩
              dsimp only at hk hq ⊢
              by_cases hlt : k < l.length
              · obtain ⟨x, hx⟩ := get_of_lt hlt
                rw [elsesIn_step hlt hx] at hq
                have hC := s_slices_ContainsI ((List.range l.length).map fun j : Nat => elseOf l (j : Int)) (k : Int) (by simp; omega)
                rw [elses_has hlt] at hC
                by_cases h4 : x.fKind = 4
                · rw [if_pos h4, Nat.sub_zero] at hq
                  cases ha : anyE l k k 0 with
                  | false =>
                    rw [ha] at hC hq
                    rw [Bool.false_and] at hq
                    subst hq
                    rw [Bool.false_and] at hr
                    subst hr
                    repeat' ((conv => whnf); first | refine Or.inl ?_ | refine And.intro (Obl.out (?_ : Obl _)) ?_ | refine ifB_intro (fun h => ?_) (fun h => ?_) | refine ⟨k, x.tr, rfl, map_get hx, ?_⟩ | refine call_intro (hC) (And.intro rfl (And.intro rfl trivial)) ?_ | refine Exists.intro _ (And.intro rfl ?_) | ((with_reducible show _ = _); rfl))
                    all_goals try ((with_reducible refine Obl.mk ?_); first | ((with_reducible show regOk _ _ = true); kernel_rfl) | rfl | exact trivial | ((repeat' (first | exact trivial | refine And.intro ?_ ?_)); done) | decide | ((repeat' (first | exact List.forall_mem_nil _ | refine List.forall_mem_cons.2 (And.intro rfl ?_))); done) | (refine And.intro ?_ ?_ <;> simp only [List.length_map, List.length_append, List.length_cons, List.length_nil] <;> omega))
                    all_goals try (exfalso; simp only [decide_eq_false_iff_not, decide_eq_true_eq] at *; omega)
                    all_goals try (exfalso; (try simp_all [within]); (try omega); done)
                  | true =>
                    rw [ha] at hC hq
                    rw [Bool.true_and] at hq
                    repeat' ((conv => whnf); first | refine Or.inl ?_ | refine And.intro (Obl.out (?_ : Obl _)) ?_ | refine ifB_intro (fun h => ?_) (fun h => ?_) | refine ⟨k, x.tr, rfl, map_get hx, ?_⟩ | refine call_intro (hC) (And.intro rfl (And.intro rfl trivial)) ?_ | refine Exists.intro _ (And.intro rfl ?_) | ((with_reducible show _ = _); rfl))
                    all_goals try ((with_reducible refine Obl.mk ?_); first | ((with_reducible show regOk _ _ = true); kernel_rfl) | rfl | exact trivial | ((repeat' (first | exact trivial | refine And.intro ?_ ?_)); done) | decide | ((repeat' (first | exact List.forall_mem_nil _ | refine List.forall_mem_cons.2 (And.intro rfl ?_))); done) | (refine And.intro ?_ ?_ <;> simp only [List.length_map, List.length_append, List.length_cons, List.length_nil] <;> omega))
                    all_goals try (exfalso; simp only [decide_eq_false_iff_not, decide_eq_true_eq] at *; omega)
                    all_goals try (exfalso; (try simp_all [within]); (try omega); done)
                    conv => whnf
                    refine ⟨⟨k + 1, by omega, hq⟩, ?_, by dsimp only; omega⟩
                    repeat' ((conv => whnf); first | refine Or.inl ?_ | refine And.intro (Obl.out (?_ : Obl _)) ?_ | refine ifB_intro (fun h => ?_) (fun h => ?_) | refine Exists.intro _ (And.intro rfl ?_) | ((with_reducible show _ = _); rfl))
                    all_goals try ((with_reducible refine Obl.mk ?_); first | ((with_reducible show regOk _ _ = true); kernel_rfl) | rfl | exact trivial | ((repeat' (first | exact trivial | refine And.intro ?_ ?_)); done) | decide | ((repeat' (first | exact List.forall_mem_nil _ | refine List.forall_mem_cons.2 (And.intro rfl ?_))); done) | (refine And.intro ?_ ?_ <;> simp only [List.length_map, List.length_append, List.length_cons, List.length_nil] <;> omega))
                    all_goals try exact ⟨by dsimp only; rw [IntWalk.i64_in _ (by omega)]; rfl⟩
                · rw [if_neg h4, Bool.true_and] at hq
                  repeat' ((conv => whnf); first | refine Or.inl ?_ | refine And.intro (Obl.out (?_ : Obl _)) ?_ | refine ifB_intro (fun h => ?_) (fun h => ?_) | refine ⟨k, x.tr, rfl, map_get hx, ?_⟩ | refine call_intro (hC) (And.intro rfl (And.intro rfl trivial)) ?_ | refine Exists.intro _ (And.intro rfl ?_) | ((with_reducible show _ = _); rfl))
                  all_goals try ((with_reducible refine Obl.mk ?_); first | ((with_reducible show regOk _ _ = true); kernel_rfl) | rfl | exact trivial | ((repeat' (first | exact trivial | refine And.intro ?_ ?_)); done) | decide | ((repeat' (first | exact List.forall_mem_nil _ | refine List.forall_mem_cons.2 (And.intro rfl ?_))); done) | (refine And.intro ?_ ?_ <;> simp only [List.length_map, List.length_append, List.length_cons, List.length_nil] <;> omega))
                  all_goals try (exfalso; simp only [decide_eq_false_iff_not, decide_eq_true_eq] at *; omega)
                  all_goals try (exfalso; (try simp_all [within]); (try omega); done)
                  conv => whnf
                  refine ⟨⟨k + 1, by omega, hq⟩, ?_, by dsimp only; omega⟩
                  repeat' ((conv => whnf); first | refine Or.inl ?_ | refine And.intro (Obl.out (?_ : Obl _)) ?_ | refine ifB_intro (fun h => ?_) (fun h => ?_) | refine Exists.intro _ (And.intro rfl ?_) | ((with_reducible show _ = _); rfl))
                  all_goals try ((with_reducible refine Obl.mk ?_); first | ((with_reducible show regOk _ _ = true); kernel_rfl) | rfl | exact trivial | ((repeat' (first | exact trivial | refine And.intro ?_ ?_)); done) | decide | ((repeat' (first | exact List.forall_mem_nil _ | refine List.forall_mem_cons.2 (And.intro rfl ?_))); done) | (refine And.intro ?_ ?_ <;> simp only [List.length_map, List.length_append, List.length_cons, List.length_nil] <;> omega))
                  all_goals try exact ⟨by dsimp only; rw [IntWalk.i64_in _ (by omega)]; rfl⟩
              · rw [show l.length - k = 0 by omega] at hq
                have hq : true = Q := hq
                subst hq
                rw [Bool.true_and] at hr
                subst hr
                repeat' ((conv => whnf); first | refine Or.inl ?_ | refine And.intro (Obl.out (?_ : Obl _)) ?_ | refine ifB_intro (fun h => ?_) (fun h => ?_) | refine Exists.intro _ (And.intro rfl ?_) | ((with_reducible show _ = _); rfl))
                all_goals try ((with_reducible refine Obl.mk ?_); first | ((with_reducible show regOk _ _ = true); kernel_rfl) | rfl | exact trivial | ((repeat' (first | exact trivial | refine And.intro ?_ ?_)); done) | decide | ((repeat' (first | exact List.forall_mem_nil _ | refine List.forall_mem_cons.2 (And.intro rfl ?_))); done) | (refine And.intro ?_ ?_ <;> simp only [List.length_map, List.length_append, List.length_cons, List.length_nil] <;> omega))
                all_goals try (exfalso; simp only [decide_eq_false_iff_not, decide_eq_true_eq] at *; omega)
                all_goals (refine ⟨congrArg Tr.bool ?_⟩; rw [hlen, Bool.eq_iff_iff]; simp; omega)
  · have : programOk l = false := by
      unfold programOk
      by_cases h60 : l.length ≤ 60
      · rw [decide_eq_false (show ¬ (1 ≤ (funs l).length ∧ (funs l).length ≤ 6) from fun h => c1 ⟨h60, h⟩)]; simp
      · rw [decide_eq_false h60, Bool.false_and]
    rw [this]
    by_cases h60 : l.length ≤ 60
    · have hw : within (((funs l).map fun n : Nat => intRow n).length : Int) 1 6 = false := by
        cases hx : within (((funs l).map fun n : Nat => intRow n).length : Int) 1 6 with
        | false => rfl
        | true => have := within_iff.1 hx; rw [hfl] at this; exact absurd ⟨h60, by omega, by omega⟩ c1
      rw [hw] at hB
      repeat' ((conv => whnf); first | refine Or.inl ?_ | refine And.intro (Obl.out (?_ : Obl _)) ?_ | refine ifB_intro (fun h => ?_) (fun h => ?_) | refine call_intro (hF) (And.intro rfl trivial) ?_ | refine call_intro (hB) (And.intro rfl (And.intro rfl (And.intro rfl trivial))) ?_ | refine Exists.intro _ (And.intro rfl ?_) | ((with_reducible show _ = _); rfl))
      all_goals try ((with_reducible refine Obl.mk ?_); first | ((with_reducible show regOk _ _ = true); kernel_rfl) | rfl | exact trivial | ((repeat' (first | exact trivial | refine And.intro ?_ ?_)); done) | decide | ((repeat' (first | exact List.forall_mem_nil _ | refine List.forall_mem_cons.2 (And.intro rfl ?_))); done) | (refine And.intro ?_ ?_ <;> simp only [List.length_map, List.length_append, List.length_cons, List.length_nil] <;> omega))
      all_goals try (exfalso; simp only [decide_eq_false_iff_not, decide_eq_true_eq] at *; omega)
      all_goals try (exfalso; (try simp_all [within]); (try omega); done)
    · skip
      repeat' ((conv => whnf); first | refine Or.inl ?_ | refine And.intro (Obl.out (?_ : Obl _)) ?_ | refine ifB_intro (fun h => ?_) (fun h => ?_) | refine call_intro (hF) (And.intro rfl trivial) ?_ | refine call_intro (hB) (And.intro rfl (And.intro rfl (And.intro rfl trivial))) ?_ | refine Exists.intro _ (And.intro rfl ?_) | ((with_reducible show _ = _); rfl))
      all_goals try ((with_reducible refine Obl.mk ?_); first | ((with_reducible show regOk _ _ = true); kernel_rfl) | rfl | exact trivial | ((repeat' (first | exact trivial | refine And.intro ?_ ?_)); done) | decide | ((repeat' (first | exact List.forall_mem_nil _ | refine List.forall_mem_cons.2 (And.intro rfl ?_))); done) | (refine And.intro ?_ ?_ <;> simp only [List.length_map, List.length_append, List.length_cons, List.length_nil] <;> omega))
      all_goals try (exfalso; simp only [decide_eq_false_iff_not, decide_eq_true_eq] at *; omega)
      all_goals try (exfalso; (try simp_all [within]); (try omega); done)
end Go.Proofs.Ytehniaekfijmiaa
