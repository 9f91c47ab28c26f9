/- Tokens and expressions in both texts. -/
import Derived.Test.YtehniaekfijmiaaFnsL
namespace Go.Proofs.Ytehniaekfijmiaa
open Go.Sim
set_option maxRecDepth 100000
set_option maxHeartbeats 4000000
def tokOk (t : TTok) : Bool :=
  if t.fKind = 0 then within t.fNum 0 999 && t.fName == []
  else if t.fKind = 7 then within t.fNum 0 4 && nameOk t.fName
  else if t.fKind = 1 then t.fNum == 0 && nameOk t.fName
  else within t.fKind 2 6 && (t.fNum == 0 && t.fName == [])
theorem s_impl_TokOk (t : TTok) (hl : t.fName.length ≤ 1099511627775) : Sim.Spec Try.prog 243 [.agg t.tr] (rB (tokOk t)) := by
  refine spec_of_W hΓ hmix Try.func243 rfl (by decide) rfl ?_
  have hN := s_impl_NameOk t.fName hl
  unfold tokOk
  generalize nameOk t.fName = nb at *
  repeat' ((conv => whnf); first | refine Or.inl ?_ | refine And.intro (Obl.out (?_ : Obl _)) ?_ | refine ifB_intro (fun h => ?_) (fun h => ?_) | refine call_intro (s_impl_between _ _ _) (And.intro rfl (And.intro rfl (And.intro rfl trivial))) ?_ | refine call_intro (hN) (And.intro rfl trivial) ?_ | refine Exists.intro _ (And.intro rfl ?_) | ((with_reducible show _ = _); rfl))
  all_goals try ((with_reducible refine Obl.mk ?_); first | ((with_reducible show regOk _ _ = true); kernel_rfl) | rfl | exact trivial | ((repeat' (first | exact trivial | refine And.intro ?_ ?_)); done) | decide | ((repeat' (first | exact List.forall_mem_nil _ | refine List.forall_mem_cons.2 (And.intro rfl ?_))); done) | (refine And.intro ?_ ?_ <;> simp only [List.length_map, List.length_append, List.length_cons, List.length_nil] <;> omega))
  all_goals (refine ⟨congrArg Tr.bool ?_⟩; simp_all; try (intros; omega))
theorem s_spec_TokOk (t : TTok) (hl : t.fName.length ≤ 1099511627775) : Sim.Spec Try.prog 231 [.agg t.tr] (rB (tokOk t)) := by
  refine spec_of_W hΓ hmix Try.func231 rfl (by decide) rfl ?_
  have hN := s_spec_NameOk t.fName hl
  unfold tokOk
  generalize nameOk t.fName = nb at *
  repeat' ((conv => whnf); first | refine Or.inl ?_ | refine And.intro (Obl.out (?_ : Obl _)) ?_ | refine ifB_intro (fun h => ?_) (fun h => ?_) | refine call_intro (s_spec_l01In _ _ _) (And.intro rfl (And.intro rfl (And.intro rfl trivial))) ?_ | refine call_intro (hN) (And.intro rfl trivial) ?_ | refine Exists.intro _ (And.intro rfl ?_) | ((with_reducible show _ = _); rfl))
  all_goals try ((with_reducible refine Obl.mk ?_); first | ((with_reducible show regOk _ _ = true); kernel_rfl) | rfl | exact trivial | ((repeat' (first | exact trivial | refine And.intro ?_ ?_)); done) | decide | ((repeat' (first | exact List.forall_mem_nil _ | refine List.forall_mem_cons.2 (And.intro rfl ?_))); done) | (refine And.intro ?_ ?_ <;> simp only [List.length_map, List.length_append, List.length_cons, List.length_nil] <;> omega))
  all_goals (refine ⟨congrArg Tr.bool ?_⟩; simp_all [within]; (try (intros; omega)); (try ((repeat' split) <;> intros <;> omega)))
def arity (t : TTok) : Int := if tokOk t = false then -1 else if t.fKind = 7 then t.fNum else if t.fKind = 0 ∨ t.fKind = 1 then 0 else 2
theorem s_impl_Arity (t : TTok) (hl : t.fName.length ≤ 1099511627775) : Sim.Spec Try.prog 234 [.agg t.tr] (rI (arity t)) := by
  refine spec_of_W hΓ hmix Try.func234 rfl (by decide) rfl ?_
  have hT := s_impl_TokOk t hl
  unfold arity
  generalize tokOk t = nb at *
  repeat' ((conv => whnf); first | refine Or.inl ?_ | refine And.intro (Obl.out (?_ : Obl _)) ?_ | refine ifB_intro (fun h => ?_) (fun h => ?_) | refine call_intro (hT) (And.intro (And.intro rfl (And.intro rfl (And.intro rfl trivial))) trivial) ?_ | refine Exists.intro _ (And.intro rfl ?_) | ((with_reducible show _ = _); rfl))
  all_goals try ((with_reducible refine Obl.mk ?_); first | ((with_reducible show regOk _ _ = true); kernel_rfl) | rfl | exact trivial | ((repeat' (first | exact trivial | refine And.intro ?_ ?_)); done) | decide | ((repeat' (first | exact List.forall_mem_nil _ | refine List.forall_mem_cons.2 (And.intro rfl ?_))); done) | (refine And.intro ?_ ?_ <;> simp only [List.length_map, List.length_append, List.length_cons, List.length_nil] <;> omega))
  all_goals (refine ⟨congrArg (Tr.int _) ?_⟩; simp_all)
theorem s_spec_Arity (t : TTok) (hl : t.fName.length ≤ 1099511627775) : Sim.Spec Try.prog 207 [.agg t.tr] (rI (arity t)) := by
  refine spec_of_W hΓ hmix Try.func207 rfl (by decide) rfl ?_
  have hT := s_spec_TokOk t hl
  unfold arity
  generalize tokOk t = nb at *
  repeat' ((conv => whnf); first | refine Or.inl ?_ | refine And.intro (Obl.out (?_ : Obl _)) ?_ | refine ifB_intro (fun h => ?_) (fun h => ?_) | refine call_intro (hT) (And.intro (And.intro rfl (And.intro rfl (And.intro rfl trivial))) trivial) ?_ | refine Exists.intro _ (And.intro rfl ?_) | ((with_reducible show _ = _); rfl))
  all_goals try ((with_reducible refine Obl.mk ?_); first | ((with_reducible show regOk _ _ = true); kernel_rfl) | rfl | exact trivial | ((repeat' (first | exact trivial | refine And.intro ?_ ?_)); done) | decide | ((repeat' (first | exact List.forall_mem_nil _ | refine List.forall_mem_cons.2 (And.intro rfl ?_))); done) | (refine And.intro ?_ ?_ <;> simp only [List.length_map, List.length_append, List.length_cons, List.length_nil] <;> omega))
  all_goals (refine ⟨congrArg (Tr.int _) ?_⟩; simp_all)
def ar (t : TTok) : Nat := (arity t).toNat
theorem ar_eq {t : TTok} (h : tokOk t = true) : arity t = (ar t : Int) ∧ ar t ≤ 4 := by
  unfold ar arity
  rw [if_neg (by simp [h])]
  unfold tokOk at h
  split
  · rename_i h7
    rw [if_neg (by omega), if_pos h7] at h
    simp only [Bool.and_eq_true, within_iff] at h
    omega
  · split <;> omega
def endL : List TTok → Nat → Nat → Option Nat
  | _, p, 0 => some p
  | [], _, _ + 1 => none
  | t :: l, p, n + 1 => if tokOk t = true then endL l (p + 1) (n + ar t) else none
def endI (o : Option Nat) : Int := match o with | some e => e | none => -1
def exprEnd (l : List TTok) (p : Int) : Int := if 0 ≤ p then endI (endL (l.drop p.toNat) p.toNat 1) else -1
theorem endL_at {l : List TTok} {p n : Nat} {t : TTok} (h : l[p]? = some t) : endL (l.drop p) p (n + 1) = if tokOk t = true then endL (l.drop (p + 1)) (p + 1) (n + ar t) else none := by
  rw [drop_at h, endL]
abbrev EndIx (l : List TTok) (R : Int) := { q : Nat × Nat // q.1 ≤ l.length ∧ q.2 ≤ 1 + 4 * q.1 ∧ endI (endL (l.drop q.1) q.1 q.2) = R }
def toksShort (l : List TTok) : Prop := ∀ t ∈ l, t.fName.length ≤ 1099511627775
theorem s_impl_ExprEnd (l : List TTok) (p : Int) (hl : l.length ≤ 1048576) (hn : toksShort l) : Sim.Spec Try.prog 233 [tvL 3 (l.map TTok.tr), tvI p] (rI (exprEnd l p)) := by
  refine spec_of_W hΓ hmix Try.func233 rfl (by decide) rfl ?_
  have hlen : (l.map TTok.tr).length = l.length := by simp
  have hw : IntKind.i64.wrap (((l.map TTok.tr).length : Int) - 1) = (l.length : Int) - 1 := by rw [IntWalk.i64_in _ (by omega)]; omega
  by_cases hin : 0 ≤ p ∧ p < l.length
  · have hb := s_impl_between p 0 (IntKind.i64.wrap (((l.map TTok.tr).length : Int) - 1))
    rw [within_iff.2 ⟨hin.1, by rw [hw]; omega⟩] at hb
    obtain ⟨p, rfl⟩ := Int.eq_ofNat_of_zero_le hin.1
    obtain ⟨R, hR⟩ : ∃ R, exprEnd l (p : Int) = R := ⟨_, rfl⟩
    rw [hR]
    rw [exprEnd, if_pos hin.1, Int.toNat_natCast] at hR
    repeat' ((conv => whnf); first | refine Or.inl ?_ | refine And.intro (Obl.out (?_ : Obl _)) ?_ | refine ifB_intro (fun h => ?_) (fun h => ?_) | refine call_intro (hb) (And.intro rfl (And.intro rfl (And.intro rfl trivial))) ?_ | refine Exists.intro _ (And.intro rfl ?_) | ((with_reducible show _ = _); rfl))
    all_goals try ((with_reducible refine Obl.mk ?_); first | ((with_reducible show regOk _ _ = true); kernel_rfl) | rfl | exact trivial | ((repeat' (first | exact trivial | refine And.intro ?_ ?_)); done) | decide | ((repeat' (first | exact List.forall_mem_nil _ | refine List.forall_mem_cons.2 (And.intro rfl ?_))); done) | (refine And.intro ?_ ?_ <;> simp only [List.length_map, List.length_append, List.length_cons, List.length_nil] <;> omega))
    conv => whnf
    refine ⟨EndIx l R, fun q => ⟨[(0, .r (.c (.t (.lst 3 (l.map TTok.tr))))), (1, tI .i64 (q.1.1 : Int)), (5, tI .i64 (q.1.2 : Int))], [], []⟩, fun q => l.length - q.1.1, ⟨(p, 1), by omega, by omega, hR⟩, ?_, ?_⟩
    · skip
      repeat' ((conv => whnf); first | refine Or.inl ?_ | refine And.intro (Obl.out (?_ : Obl _)) ?_ | refine ifB_intro (fun h => ?_) (fun h => ?_) | refine Exists.intro _ (And.intro rfl ?_) | ((with_reducible show _ = _); rfl))
      all_goals try ((with_reducible refine Obl.mk ?_); first | ((with_reducible show regOk _ _ = true); kernel_rfl) | rfl | exact trivial | ((repeat' (first | exact trivial | refine And.intro ?_ ?_)); done) | decide | ((repeat' (first | exact List.forall_mem_nil _ | refine List.forall_mem_cons.2 (And.intro rfl ?_))); done) | (refine And.intro ?_ ?_ <;> simp only [List.length_map, List.length_append, List.length_cons, List.length_nil] <;> omega))
    intro ⟨⟨a, n⟩, ha, hn4, hr⟩
    dsimp only at ha hn4 hr ⊢
    cases n with
    | zero =>
      have : R = (a : Int) := by
        rw [← hr]
        cases l.drop a <;> rfl
      subst this
      repeat' ((conv => whnf); first | refine Or.inl ?_ | refine And.intro (Obl.out (?_ : Obl _)) ?_ | refine ifB_intro (fun h => ?_) (fun h => ?_) | refine Exists.intro _ (And.intro rfl ?_) | ((with_reducible show _ = _); rfl))
      all_goals try ((with_reducible refine Obl.mk ?_); first | ((with_reducible show regOk _ _ = true); kernel_rfl) | rfl | exact trivial | ((repeat' (first | exact trivial | refine And.intro ?_ ?_)); done) | decide | ((repeat' (first | exact List.forall_mem_nil _ | refine List.forall_mem_cons.2 (And.intro rfl ?_))); done) | (refine And.intro ?_ ?_ <;> simp only [List.length_map, List.length_append, List.length_cons, List.length_nil] <;> omega))
      all_goals try (exfalso; simp only [decide_eq_false_iff_not, decide_eq_true_eq] at *; omega)
    | succ n =>
      by_cases hlt : a < l.length
      · obtain ⟨t, ht⟩ := get_of_lt hlt
        rw [endL_at ht] at hr
        have hT := s_impl_TokOk t (hn t (List.mem_of_getElem? ht))
        have hA := s_impl_Arity t (hn t (List.mem_of_getElem? ht))
        cases hok : tokOk t with
        | false =>
          rw [hok] at hT
          rw [if_neg (by simp [hok])] at hr
          subst hr
          repeat' ((conv => whnf); first | refine Or.inl ?_ | refine And.intro (Obl.out (?_ : Obl _)) ?_ | refine ifB_intro (fun h => ?_) (fun h => ?_) | refine ⟨a, t.tr, rfl, map_get ht, ?_⟩ | refine call_intro (hT) (And.intro (And.intro rfl (And.intro rfl (And.intro rfl trivial))) trivial) ?_ | refine Exists.intro _ (And.intro rfl ?_) | ((with_reducible show _ = _); rfl))
          all_goals try ((with_reducible refine Obl.mk ?_); first | ((with_reducible show regOk _ _ = true); kernel_rfl) | rfl | exact trivial | ((repeat' (first | exact trivial | refine And.intro ?_ ?_)); done) | decide | ((repeat' (first | exact List.forall_mem_nil _ | refine List.forall_mem_cons.2 (And.intro rfl ?_))); done) | (refine And.intro ?_ ?_ <;> simp only [List.length_map, List.length_append, List.length_cons, List.length_nil] <;> omega))
          all_goals try (exfalso; simp only [decide_eq_false_iff_not, decide_eq_true_eq] at *; omega)
        | true =>
          obtain ⟨e1, e2⟩ := ar_eq hok
          rw [e1] at hA
          rw [hok] at hT
          rw [if_pos hok] at hr
          repeat' ((conv => whnf); first | refine Or.inl ?_ | refine And.intro (Obl.out (?_ : Obl _)) ?_ | refine ifB_intro (fun h => ?_) (fun h => ?_) | refine ⟨a, t.tr, rfl, map_get ht, ?_⟩ | refine call_intro (hT) (And.intro (And.intro rfl (And.intro rfl (And.intro rfl trivial))) trivial) ?_ | refine call_intro (hA) (And.intro (And.intro rfl (And.intro rfl (And.intro rfl trivial))) trivial) ?_ | refine Exists.intro _ (And.intro rfl ?_) | ((with_reducible show _ = _); rfl))
          all_goals try ((with_reducible refine Obl.mk ?_); first | ((with_reducible show regOk _ _ = true); kernel_rfl) | rfl | exact trivial | ((repeat' (first | exact trivial | refine And.intro ?_ ?_)); done) | decide | ((repeat' (first | exact List.forall_mem_nil _ | refine List.forall_mem_cons.2 (And.intro rfl ?_))); done) | (refine And.intro ?_ ?_ <;> simp only [List.length_map, List.length_append, List.length_cons, List.length_nil] <;> omega))
          all_goals try (exfalso; simp only [decide_eq_false_iff_not, decide_eq_true_eq] at *; omega)
          conv => whnf
          refine ⟨⟨(a + 1, n + ar t), by dsimp only; omega, by dsimp only; omega, hr⟩, ?_, by dsimp only; omega⟩
          repeat' ((conv => whnf); first | refine Or.inl ?_ | refine And.intro (Obl.out (?_ : Obl _)) ?_ | refine ifB_intro (fun h => ?_) (fun h => ?_) | refine Exists.intro _ (And.intro rfl ?_) | ((with_reducible show _ = _); rfl))
          all_goals try ((with_reducible refine Obl.mk ?_); first | ((with_reducible show regOk _ _ = true); kernel_rfl) | rfl | exact trivial | ((repeat' (first | exact trivial | refine And.intro ?_ ?_)); done) | decide | ((repeat' (first | exact List.forall_mem_nil _ | refine List.forall_mem_cons.2 (And.intro rfl ?_))); done) | (refine And.intro ?_ ?_ <;> simp only [List.length_map, List.length_append, List.length_cons, List.length_nil] <;> omega))
          all_goals try exact ⟨by dsimp only; rw [IntWalk.i64_in _ (by omega)]; rfl⟩
          all_goals try exact ⟨by dsimp only; congr 1; rw [IntWalk.i64_in _ (by omega)]; omega⟩
          all_goals exact ⟨congrArg (Tr.int _) (by dsimp only; simp (disch := omega) only [IntWalk.i64_in]; omega)⟩
      · rw [List.drop_eq_nil_of_le (by omega), endL] at hr
        subst hr
        repeat' ((conv => whnf); first | refine Or.inl ?_ | refine And.intro (Obl.out (?_ : Obl _)) ?_ | refine ifB_intro (fun h => ?_) (fun h => ?_) | refine Exists.intro _ (And.intro rfl ?_) | ((with_reducible show _ = _); rfl))
        all_goals try ((with_reducible refine Obl.mk ?_); first | ((with_reducible show regOk _ _ = true); kernel_rfl) | rfl | exact trivial | ((repeat' (first | exact trivial | refine And.intro ?_ ?_)); done) | decide | ((repeat' (first | exact List.forall_mem_nil _ | refine List.forall_mem_cons.2 (And.intro rfl ?_))); done) | (refine And.intro ?_ ?_ <;> simp only [List.length_map, List.length_append, List.length_cons, List.length_nil] <;> omega))
        all_goals try (exfalso; simp only [decide_eq_false_iff_not, decide_eq_true_eq] at *; omega)
  · have hb := s_impl_between p 0 (IntKind.i64.wrap (((l.map TTok.tr).length : Int) - 1))
    have hf : within p 0 (IntKind.i64.wrap (((l.map TTok.tr).length : Int) - 1)) = false := by
      cases hx : within p 0 (IntKind.i64.wrap (((l.map TTok.tr).length : Int) - 1)) with
      | false => rfl
      | true => have := within_iff.1 hx; rw [hw] at this; exact absurd ⟨this.1, by omega⟩ hin
    rw [hf] at hb
    have he : exprEnd l p = -1 := by
      unfold exprEnd
      split
      · rw [List.drop_eq_nil_of_le (by omega)]; rfl
      · rfl
    rw [he]
    repeat' ((conv => whnf); first | refine Or.inl ?_ | refine And.intro (Obl.out (?_ : Obl _)) ?_ | refine ifB_intro (fun h => ?_) (fun h => ?_) | refine call_intro (hb) (And.intro rfl (And.intro rfl (And.intro rfl trivial))) ?_ | refine Exists.intro _ (And.intro rfl ?_) | ((with_reducible show _ = _); rfl))
    all_goals try ((with_reducible refine Obl.mk ?_); first | ((with_reducible show regOk _ _ = true); kernel_rfl) | rfl | exact trivial | ((repeat' (first | exact trivial | refine And.intro ?_ ?_)); done) | decide | ((repeat' (first | exact List.forall_mem_nil _ | refine List.forall_mem_cons.2 (And.intro rfl ?_))); done) | (refine And.intro ?_ ?_ <;> simp only [List.length_map, List.length_append, List.length_cons, List.length_nil] <;> omega))
    all_goals (exfalso; simp at h; done)
theorem s_spec_ExprEnd (l : List TTok) (p : Int) (hl : l.length ≤ 1048576) (hn : toksShort l) : Sim.Spec Try.prog 225 [tvL 3 (l.map TTok.tr), tvI p] (rI (exprEnd l p)) := by
  refine spec_of_W hΓ hmix Try.func225 rfl (by decide) rfl ?_
  have hlen : (l.map TTok.tr).length = l.length := by simp
  by_cases h0 : 0 ≤ p
  · obtain ⟨p, rfl⟩ := Int.eq_ofNat_of_zero_le h0
    obtain ⟨R, hR⟩ : ∃ R, exprEnd l (p : Int) = R := ⟨_, rfl⟩
    rw [hR]
    rw [exprEnd, if_pos h0, Int.toNat_natCast] at hR
    by_cases hlp : p ≤ l.length
    · skip
      repeat' ((conv => whnf); first | refine Or.inl ?_ | refine And.intro (Obl.out (?_ : Obl _)) ?_ | refine ifB_intro (fun h => ?_) (fun h => ?_) | refine Exists.intro _ (And.intro rfl ?_) | ((with_reducible show _ = _); rfl))
      all_goals try ((with_reducible refine Obl.mk ?_); first | ((with_reducible show regOk _ _ = true); kernel_rfl) | rfl | exact trivial | ((repeat' (first | exact trivial | refine And.intro ?_ ?_)); done) | decide | ((repeat' (first | exact List.forall_mem_nil _ | refine List.forall_mem_cons.2 (And.intro rfl ?_))); done) | (refine And.intro ?_ ?_ <;> simp only [List.length_map, List.length_append, List.length_cons, List.length_nil] <;> omega))
      all_goals try (exfalso; simp only [decide_eq_false_iff_not, decide_eq_true_eq] at *; omega)
      conv => whnf
      refine ⟨EndIx l R, fun q => ⟨[(0, .r (.c (.t (.lst 3 (l.map TTok.tr))))), (1, tI .i64 (q.1.1 : Int)), (5, tI .i64 (q.1.2 : Int))], [], []⟩, fun q => l.length - q.1.1, ⟨(p, 1), by omega, by omega, hR⟩, ?_, ?_⟩
      · skip
        repeat' ((conv => whnf); first | refine Or.inl ?_ | refine And.intro (Obl.out (?_ : Obl _)) ?_ | refine ifB_intro (fun h => ?_) (fun h => ?_) | refine Exists.intro _ (And.intro rfl ?_) | ((with_reducible show _ = _); rfl))
        all_goals try ((with_reducible refine Obl.mk ?_); first | ((with_reducible show regOk _ _ = true); kernel_rfl) | rfl | exact trivial | ((repeat' (first | exact trivial | refine And.intro ?_ ?_)); done) | decide | ((repeat' (first | exact List.forall_mem_nil _ | refine List.forall_mem_cons.2 (And.intro rfl ?_))); done) | (refine And.intro ?_ ?_ <;> simp only [List.length_map, List.length_append, List.length_cons, List.length_nil] <;> omega))
      intro ⟨⟨a, n⟩, ha, hn4, hr⟩
      dsimp only at ha hn4 hr ⊢
      cases n with
      | zero =>
        have : R = (a : Int) := by
          rw [← hr]
          cases l.drop a <;> rfl
        subst this
        repeat' ((conv => whnf); first | refine Or.inl ?_ | refine And.intro (Obl.out (?_ : Obl _)) ?_ | refine ifB_intro (fun h => ?_) (fun h => ?_) | refine Exists.intro _ (And.intro rfl ?_) | ((with_reducible show _ = _); rfl))
        all_goals try ((with_reducible refine Obl.mk ?_); first | ((with_reducible show regOk _ _ = true); kernel_rfl) | rfl | exact trivial | ((repeat' (first | exact trivial | refine And.intro ?_ ?_)); done) | decide | ((repeat' (first | exact List.forall_mem_nil _ | refine List.forall_mem_cons.2 (And.intro rfl ?_))); done) | (refine And.intro ?_ ?_ <;> simp only [List.length_map, List.length_append, List.length_cons, List.length_nil] <;> omega))
        all_goals try (exfalso; simp only [decide_eq_false_iff_not, decide_eq_true_eq] at *; omega)
      | succ n =>
        by_cases hlt : a < l.length
        · obtain ⟨t, ht⟩ := get_of_lt hlt
          rw [endL_at ht] at hr
          have hT := s_spec_TokOk t (hn t (List.mem_of_getElem? ht))
          have hA := s_spec_Arity t (hn t (List.mem_of_getElem? ht))
          cases hok : tokOk t with
          | false =>
            rw [hok] at hT
            rw [if_neg (by simp [hok])] at hr
            subst hr
            repeat' ((conv => whnf); first | refine Or.inl ?_ | refine And.intro (Obl.out (?_ : Obl _)) ?_ | refine ifB_intro (fun h => ?_) (fun h => ?_) | refine ⟨a, t.tr, rfl, map_get ht, ?_⟩ | refine call_intro (hT) (And.intro (And.intro rfl (And.intro rfl (And.intro rfl trivial))) trivial) ?_ | refine Exists.intro _ (And.intro rfl ?_) | ((with_reducible show _ = _); rfl))
            all_goals try ((with_reducible refine Obl.mk ?_); first | ((with_reducible show regOk _ _ = true); kernel_rfl) | rfl | exact trivial | ((repeat' (first | exact trivial | refine And.intro ?_ ?_)); done) | decide | ((repeat' (first | exact List.forall_mem_nil _ | refine List.forall_mem_cons.2 (And.intro rfl ?_))); done) | (refine And.intro ?_ ?_ <;> simp only [List.length_map, List.length_append, List.length_cons, List.length_nil] <;> omega))
            all_goals try (exfalso; simp only [decide_eq_false_iff_not, decide_eq_true_eq] at *; omega)
          | true =>
            obtain ⟨e1, e2⟩ := ar_eq hok
            rw [e1] at hA
            rw [hok] at hT
            rw [if_pos hok] at hr
            repeat' ((conv => whnf); first | refine Or.inl ?_ | refine And.intro (Obl.out (?_ : Obl _)) ?_ | refine ifB_intro (fun h => ?_) (fun h => ?_) | refine ⟨a, t.tr, rfl, map_get ht, ?_⟩ | refine call_intro (hT) (And.intro (And.intro rfl (And.intro rfl (And.intro rfl trivial))) trivial) ?_ | refine call_intro (hA) (And.intro (And.intro rfl (And.intro rfl (And.intro rfl trivial))) trivial) ?_ | refine Exists.intro _ (And.intro rfl ?_) | ((with_reducible show _ = _); rfl))
            all_goals try ((with_reducible refine Obl.mk ?_); first | ((with_reducible show regOk _ _ = true); kernel_rfl) | rfl | exact trivial | ((repeat' (first | exact trivial | refine And.intro ?_ ?_)); done) | decide | ((repeat' (first | exact List.forall_mem_nil _ | refine List.forall_mem_cons.2 (And.intro rfl ?_))); done) | (refine And.intro ?_ ?_ <;> simp only [List.length_map, List.length_append, List.length_cons, List.length_nil] <;> omega))
            all_goals try (exfalso; simp only [decide_eq_false_iff_not, decide_eq_true_eq] at *; omega)
            conv => whnf
            refine ⟨⟨(a + 1, n + ar t), by dsimp only; omega, by dsimp only; omega, hr⟩, ?_, by dsimp only; omega⟩
            repeat' ((conv => whnf); first | refine Or.inl ?_ | refine And.intro (Obl.out (?_ : Obl _)) ?_ | refine ifB_intro (fun h => ?_) (fun h => ?_) | refine Exists.intro _ (And.intro rfl ?_) | ((with_reducible show _ = _); rfl))
            all_goals try ((with_reducible refine Obl.mk ?_); first | ((with_reducible show regOk _ _ = true); kernel_rfl) | rfl | exact trivial | ((repeat' (first | exact trivial | refine And.intro ?_ ?_)); done) | decide | ((repeat' (first | exact List.forall_mem_nil _ | refine List.forall_mem_cons.2 (And.intro rfl ?_))); done) | (refine And.intro ?_ ?_ <;> simp only [List.length_map, List.length_append, List.length_cons, List.length_nil] <;> omega))
            all_goals try exact ⟨by dsimp only; rw [IntWalk.i64_in _ (by omega)]; rfl⟩
            all_goals try exact ⟨by dsimp only; congr 1; rw [IntWalk.i64_in _ (by omega)]; omega⟩
            all_goals exact ⟨congrArg (Tr.int _) (by dsimp only; simp (disch := omega) only [IntWalk.i64_in]; omega)⟩
        · rw [List.drop_eq_nil_of_le (by omega), endL] at hr
          subst hr
          repeat' ((conv => whnf); first | refine Or.inl ?_ | refine And.intro (Obl.out (?_ : Obl _)) ?_ | refine ifB_intro (fun h => ?_) (fun h => ?_) | refine Exists.intro _ (And.intro rfl ?_) | ((with_reducible show _ = _); rfl))
          all_goals try ((with_reducible refine Obl.mk ?_); first | ((with_reducible show regOk _ _ = true); kernel_rfl) | rfl | exact trivial | ((repeat' (first | exact trivial | refine And.intro ?_ ?_)); done) | decide | ((repeat' (first | exact List.forall_mem_nil _ | refine List.forall_mem_cons.2 (And.intro rfl ?_))); done) | (refine And.intro ?_ ?_ <;> simp only [List.length_map, List.length_append, List.length_cons, List.length_nil] <;> omega))
          all_goals try (exfalso; simp only [decide_eq_false_iff_not, decide_eq_true_eq] at *; omega)
    · rw [List.drop_eq_nil_of_le (by omega), endL] at hR
      subst hR
      repeat' ((conv => whnf); first | refine Or.inl ?_ | refine And.intro (Obl.out (?_ : Obl _)) ?_ | refine ifB_intro (fun h => ?_) (fun h => ?_) | refine Exists.intro _ (And.intro rfl ?_) | ((with_reducible show _ = _); rfl))
      all_goals try ((with_reducible refine Obl.mk ?_); first | ((with_reducible show regOk _ _ = true); kernel_rfl) | rfl | exact trivial | ((repeat' (first | exact trivial | refine And.intro ?_ ?_)); done) | decide | ((repeat' (first | exact List.forall_mem_nil _ | refine List.forall_mem_cons.2 (And.intro rfl ?_))); done) | (refine And.intro ?_ ?_ <;> simp only [List.length_map, List.length_append, List.length_cons, List.length_nil] <;> omega))
      all_goals try (exfalso; simp only [decide_eq_false_iff_not, decide_eq_true_eq] at *; omega)
      conv => whnf
      refine ⟨Unit, fun q => ⟨[(0, .r (.c (.t (.lst 3 (l.map TTok.tr))))), (1, tI .i64 (p : Int)), (5, tI .i64 1)], [], []⟩, fun q => 0, (), ?_, ?_⟩
      · skip
        repeat' ((conv => whnf); first | refine Or.inl ?_ | refine And.intro (Obl.out (?_ : Obl _)) ?_ | refine ifB_intro (fun h => ?_) (fun h => ?_) | refine Exists.intro _ (And.intro rfl ?_) | ((with_reducible show _ = _); rfl))
        all_goals try ((with_reducible refine Obl.mk ?_); first | ((with_reducible show regOk _ _ = true); kernel_rfl) | rfl | exact trivial | ((repeat' (first | exact trivial | refine And.intro ?_ ?_)); done) | decide | ((repeat' (first | exact List.forall_mem_nil _ | refine List.forall_mem_cons.2 (And.intro rfl ?_))); done) | (refine And.intro ?_ ?_ <;> simp only [List.length_map, List.length_append, List.length_cons, List.length_nil] <;> omega))
      intro q
      repeat' ((conv => whnf); first | refine Or.inl ?_ | refine And.intro (Obl.out (?_ : Obl _)) ?_ | refine ifB_intro (fun h => ?_) (fun h => ?_) | refine Exists.intro _ (And.intro rfl ?_) | ((with_reducible show _ = _); rfl))
      all_goals try ((with_reducible refine Obl.mk ?_); first | ((with_reducible show regOk _ _ = true); kernel_rfl) | rfl | exact trivial | ((repeat' (first | exact trivial | refine And.intro ?_ ?_)); done) | decide | ((repeat' (first | exact List.forall_mem_nil _ | refine List.forall_mem_cons.2 (And.intro rfl ?_))); done) | (refine And.intro ?_ ?_ <;> simp only [List.length_map, List.length_append, List.length_cons, List.length_nil] <;> omega))
      all_goals try (exfalso; simp only [decide_eq_false_iff_not, decide_eq_true_eq] at *; omega)
  · have he : exprEnd l p = -1 := by rw [exprEnd, if_neg h0]
    rw [he]
    repeat' ((conv => whnf); first | refine Or.inl ?_ | refine And.intro (Obl.out (?_ : Obl _)) ?_ | refine ifB_intro (fun h => ?_) (fun h => ?_) | refine Exists.intro _ (And.intro rfl ?_) | ((with_reducible show _ = _); rfl))
    all_goals try ((with_reducible refine Obl.mk ?_); first | ((with_reducible show regOk _ _ = true); kernel_rfl) | rfl | exact trivial | ((repeat' (first | exact trivial | refine And.intro ?_ ?_)); done) | decide | ((repeat' (first | exact List.forall_mem_nil _ | refine List.forall_mem_cons.2 (And.intro rfl ?_))); done) | (refine And.intro ?_ ?_ <;> simp only [List.length_map, List.length_append, List.length_cons, List.length_nil] <;> omega))
    all_goals try (exfalso; simp only [decide_eq_false_iff_not, decide_eq_true_eq] at *; omega)
def exprOk (l : List TTok) : Bool := decide (l.length ≤ 20) && (decide (0 < l.length) && exprEnd l 0 == (l.length : Int))
theorem s_impl_ExprOk (l : List TTok) (hl : l.length ≤ 1048576) (hn : toksShort l) : Sim.Spec Try.prog 210 [tvL 3 (l.map TTok.tr)] (rB (exprOk l)) := by
  refine spec_of_W hΓ hmix Try.func210 rfl (by decide) rfl ?_
  have hlen : (l.map TTok.tr).length = l.length := by simp
  have hE := s_impl_ExprEnd l 0 hl hn
  unfold exprOk
  generalize exprEnd l 0 = e at *
  repeat' ((conv => whnf); first | refine Or.inl ?_ | refine And.intro (Obl.out (?_ : Obl _)) ?_ | refine ifB_intro (fun h => ?_) (fun h => ?_) | refine call_intro (hE) (And.intro rfl (And.intro rfl trivial)) ?_ | refine Exists.intro _ (And.intro rfl ?_) | ((with_reducible show _ = _); rfl))
  all_goals try ((with_reducible refine Obl.mk ?_); first | ((with_reducible show regOk _ _ = true); kernel_rfl) | rfl | exact trivial | ((repeat' (first | exact trivial | refine And.intro ?_ ?_)); done) | decide | ((repeat' (first | exact List.forall_mem_nil _ | refine List.forall_mem_cons.2 (And.intro rfl ?_))); done) | (refine And.intro ?_ ?_ <;> simp only [List.length_map, List.length_append, List.length_cons, List.length_nil] <;> omega))
  all_goals (refine ⟨congrArg Tr.bool ?_⟩; simp_all; try omega)
theorem s_spec_ExprOk (l : List TTok) (hl : l.length ≤ 1048576) (hn : toksShort l) : Sim.Spec Try.prog 183 [tvL 3 (l.map TTok.tr)] (rB (exprOk l)) := by
  refine spec_of_W hΓ hmix Try.func183 rfl (by decide) rfl ?_
  have hlen : (l.map TTok.tr).length = l.length := by simp
  have hE := s_spec_ExprEnd l 0 hl hn
  unfold exprOk
  generalize exprEnd l 0 = e at *
  repeat' ((conv => whnf); first | refine Or.inl ?_ | refine And.intro (Obl.out (?_ : Obl _)) ?_ | refine ifB_intro (fun h => ?_) (fun h => ?_) | refine call_intro (hE) (And.intro rfl (And.intro rfl trivial)) ?_ | refine Exists.intro _ (And.intro rfl ?_) | ((with_reducible show _ = _); rfl))
  all_goals try ((with_reducible refine Obl.mk ?_); first | ((with_reducible show regOk _ _ = true); kernel_rfl) | rfl | exact trivial | ((repeat' (first | exact trivial | refine And.intro ?_ ?_)); done) | decide | ((repeat' (first | exact List.forall_mem_nil _ | refine List.forall_mem_cons.2 (And.intro rfl ?_))); done) | (refine And.intro ?_ ?_ <;> simp only [List.length_map, List.length_append, List.length_cons, List.length_nil] <;> omega))
  all_goals (refine ⟨congrArg Tr.bool ?_⟩; simp_all; try omega)
end Go.Proofs.Ytehniaekfijmiaa
