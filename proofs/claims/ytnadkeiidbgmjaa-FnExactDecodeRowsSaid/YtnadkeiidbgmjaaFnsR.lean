/- OpSize, RulesOf in both texts. -/
import Derived.Test.YtnadkeiidbgmjaaFnsQ
namespace Go.Proofs.Ytnadkeiidbgmjaa
open Go.Sim
set_option maxRecDepth 100000
set_option maxHeartbeats 4000000
def opArg (c : Int) : Int × Bool :=
  if c = 0 then (4, true) else if c = 1 ∨ c = 2 ∨ c = 3 ∨ c = 4 ∨ c = 10 ∨ c = 11 then (2, true)
  else if c = 16 then (2, false) else if c = 12 ∨ c = 13 ∨ c = 14 ∨ c = 15 then (1, false) else (0, false)
def opSize (c : Int) : Int := if within c 0 17 then (opArg c).1 + 1 else 0
theorem opArg_le (c : Int) : 0 ≤ (opArg c).1 ∧ (opArg c).1 ≤ 4 := by
  unfold opArg
  repeat' split
  all_goals simp
theorem opSize_le (c : Int) : 0 ≤ opSize c ∧ opSize c ≤ 5 := by
  have := opArg_le c
  unfold opSize
  split <;> omega
abbrev rArg (c : Int) : Res := .tup [.c (.t (.int .i64 (opArg c).1)), .c (.t (.bool (opArg c).2))]
theorem s_impl_argument (c : Int) : Sim.Spec Try.prog 166 [tvI c] (rArg c) := by
  refine spec_of_W hΓ hmix Try.func166 rfl (by decide) rfl ?_
  repeat' (
    (conv => whnf)
    first
    | refine Or.inl ?_
    | refine And.intro (Obl.out (?_ : Obl _)) ?_
    | refine ifB_intro (fun h => ?_) (fun h => ?_)
    | refine Exists.intro _ (And.intro rfl ?_)
    | ((with_reducible show _ = _); rfl))
  all_goals try (
    (with_reducible refine Obl.mk ?_)
    first
    | ((with_reducible show regOk _ _ = true); kernel_rfl)
    | rfl
    | exact trivial
    | ((repeat' (first | exact trivial | refine And.intro ?_ ?_)); done)
    | decide
    | (intro r hr; simp only [List.mem_cons, List.not_mem_nil, or_false] at hr; first | (subst hr; rfl) | (rcases hr with rfl | rfl <;> rfl) | (rcases hr with rfl | rfl | rfl <;> rfl) | (rcases hr with rfl | rfl | rfl | rfl <;> rfl))
    | (refine And.intro ?_ ?_ <;> simp only [List.length_map, List.length_append, List.length_cons, List.length_nil] <;> omega))
  all_goals (refine ⟨?_⟩; simp_all [opArg])
theorem s_spec_l07Width (c : Int) : Sim.Spec Try.prog 165 [tvI c] (rArg c) := by
  refine spec_of_W hΓ hmix Try.func165 rfl (by decide) rfl ?_
  repeat' (
    (conv => whnf)
    first
    | refine Or.inl ?_
    | refine And.intro (Obl.out (?_ : Obl _)) ?_
    | refine ifB_intro (fun h => ?_) (fun h => ?_)
    | refine Exists.intro _ (And.intro rfl ?_)
    | ((with_reducible show _ = _); rfl))
  all_goals try (
    (with_reducible refine Obl.mk ?_)
    first
    | ((with_reducible show regOk _ _ = true); kernel_rfl)
    | rfl
    | exact trivial
    | ((repeat' (first | exact trivial | refine And.intro ?_ ?_)); done)
    | decide
    | (intro r hr; simp only [List.mem_cons, List.not_mem_nil, or_false] at hr; first | (subst hr; rfl) | (rcases hr with rfl | rfl <;> rfl) | (rcases hr with rfl | rfl | rfl <;> rfl) | (rcases hr with rfl | rfl | rfl | rfl <;> rfl))
    | (refine And.intro ?_ ?_ <;> simp only [List.length_map, List.length_append, List.length_cons, List.length_nil] <;> omega))
  all_goals (refine ⟨?_⟩; simp_all [opArg])
theorem s_impl_OpSize (c : Int) : Sim.Spec Try.prog 112 [tvI c] (rI (opSize c)) := by
  refine spec_of_W hΓ hmix Try.func112 rfl (by decide) rfl ?_
  have hb := s_impl_between c 0 17
  have ha := s_impl_argument c
  have hle := opArg_le c
  unfold opSize
  cases hw : within c 0 17 with
  | false =>
    rw [hw] at hb
    repeat' (
      (conv => whnf)
      first
      | refine Or.inl ?_
      | refine And.intro (Obl.out (?_ : Obl _)) ?_
      | refine ifB_intro (fun h => ?_) (fun h => ?_)
      | refine call_intro (hb) (And.intro rfl (And.intro rfl (And.intro rfl trivial))) ?_
      | refine Exists.intro _ (And.intro rfl ?_)
      | ((with_reducible show _ = _); rfl))
    all_goals try (
      (with_reducible refine Obl.mk ?_)
      first
      | ((with_reducible show regOk _ _ = true); kernel_rfl)
      | rfl
      | exact trivial
      | ((repeat' (first | exact trivial | refine And.intro ?_ ?_)); done)
      | decide
      | (intro r hr; simp only [List.mem_cons, List.not_mem_nil, or_false] at hr; first | (subst hr; rfl) | (rcases hr with rfl | rfl <;> rfl) | (rcases hr with rfl | rfl | rfl <;> rfl) | (rcases hr with rfl | rfl | rfl | rfl <;> rfl))
      | (refine And.intro ?_ ?_ <;> simp only [List.length_map, List.length_append, List.length_cons, List.length_nil] <;> omega))
  | true =>
    rw [hw] at hb
    repeat' (
      (conv => whnf)
      first
      | refine Or.inl ?_
      | refine And.intro (Obl.out (?_ : Obl _)) ?_
      | refine ifB_intro (fun h => ?_) (fun h => ?_)
      | refine call_intro (hb) (And.intro rfl (And.intro rfl (And.intro rfl trivial))) ?_
      | refine call_intro (ha) (And.intro rfl trivial) ?_
      | refine Exists.intro _ (And.intro rfl ?_)
      | ((with_reducible show _ = _); rfl))
    all_goals try (
      (with_reducible refine Obl.mk ?_)
      first
      | ((with_reducible show regOk _ _ = true); kernel_rfl)
      | rfl
      | exact trivial
      | ((repeat' (first | exact trivial | refine And.intro ?_ ?_)); done)
      | decide
      | (intro r hr; simp only [List.mem_cons, List.not_mem_nil, or_false] at hr; first | (subst hr; rfl) | (rcases hr with rfl | rfl <;> rfl) | (rcases hr with rfl | rfl | rfl <;> rfl) | (rcases hr with rfl | rfl | rfl | rfl <;> rfl))
      | (refine And.intro ?_ ?_ <;> simp only [List.length_map, List.length_append, List.length_cons, List.length_nil] <;> omega))
    exact ⟨by rw [IntWalk.i64_in _ (by omega)]; rfl⟩
theorem s_spec_OpSize (c : Int) : Sim.Spec Try.prog 110 [tvI c] (rI (opSize c)) := by
  refine spec_of_W hΓ hmix Try.func110 rfl (by decide) rfl ?_
  have hb := s_spec_l01In c 0 17
  have ha := s_spec_l07Width c
  have hle := opArg_le c
  unfold opSize
  cases hw : within c 0 17 with
  | false =>
    rw [hw] at hb
    repeat' (
      (conv => whnf)
      first
      | refine Or.inl ?_
      | refine And.intro (Obl.out (?_ : Obl _)) ?_
      | refine ifB_intro (fun h => ?_) (fun h => ?_)
      | refine call_intro (hb) (And.intro rfl (And.intro rfl (And.intro rfl trivial))) ?_
      | refine Exists.intro _ (And.intro rfl ?_)
      | ((with_reducible show _ = _); rfl))
    all_goals try (
      (with_reducible refine Obl.mk ?_)
      first
      | ((with_reducible show regOk _ _ = true); kernel_rfl)
      | rfl
      | exact trivial
      | ((repeat' (first | exact trivial | refine And.intro ?_ ?_)); done)
      | decide
      | (intro r hr; simp only [List.mem_cons, List.not_mem_nil, or_false] at hr; first | (subst hr; rfl) | (rcases hr with rfl | rfl <;> rfl) | (rcases hr with rfl | rfl | rfl <;> rfl) | (rcases hr with rfl | rfl | rfl | rfl <;> rfl))
      | (refine And.intro ?_ ?_ <;> simp only [List.length_map, List.length_append, List.length_cons, List.length_nil] <;> omega))
  | true =>
    rw [hw] at hb
    repeat' (
      (conv => whnf)
      first
      | refine Or.inl ?_
      | refine And.intro (Obl.out (?_ : Obl _)) ?_
      | refine ifB_intro (fun h => ?_) (fun h => ?_)
      | refine call_intro (hb) (And.intro rfl (And.intro rfl (And.intro rfl trivial))) ?_
      | refine call_intro (ha) (And.intro rfl trivial) ?_
      | refine Exists.intro _ (And.intro rfl ?_)
      | ((with_reducible show _ = _); rfl))
    all_goals try (
      (with_reducible refine Obl.mk ?_)
      first
      | ((with_reducible show regOk _ _ = true); kernel_rfl)
      | rfl
      | exact trivial
      | ((repeat' (first | exact trivial | refine And.intro ?_ ?_)); done)
      | decide
      | (intro r hr; simp only [List.mem_cons, List.not_mem_nil, or_false] at hr; first | (subst hr; rfl) | (rcases hr with rfl | rfl <;> rfl) | (rcases hr with rfl | rfl | rfl <;> rfl) | (rcases hr with rfl | rfl | rfl | rfl <;> rfl))
      | (refine And.intro ?_ ?_ <;> simp only [List.length_map, List.length_append, List.length_cons, List.length_nil] <;> omega))
    exact ⟨by rw [IntWalk.i64_in _ (by omega), Int.add_comm]; rfl⟩
def near (l : List TPlace) : Bool := l.all fun x => within x.fOffset 0 1000000
theorem near_at {l : List TPlace} {k : Nat} {x : TPlace} (hx : l[k]? = some x) : near (l.drop k) = (within x.fOffset 0 1000000 && near (l.drop (k + 1))) := by
  rw [drop_at hx, near, List.all_cons]; rfl
theorem near_mem {l : List TPlace} (h : near l = true) : ∀ x ∈ l, 0 ≤ x.fOffset ∧ x.fOffset ≤ 1000000 := fun x hx => within_iff.1 (List.all_eq_true.1 h x hx)
theorem s_spec_l12Near (l : List TPlace) (hl : l.length ≤ 1048576) : Sim.Spec Try.prog 109 [tvL 8 (l.map TPlace.tr)] (rB (near l)) := by
  refine spec_of_W hΓ hmix Try.func109 rfl (by decide) rfl ?_
  have hlen : (l.map TPlace.tr).length = l.length := by simp
  repeat' (
    (conv => whnf)
    first
    | refine Or.inl ?_
    | refine And.intro (Obl.out (?_ : Obl _)) ?_
    | refine ifB_intro (fun h => ?_) (fun h => ?_)
    | refine Exists.intro _ (And.intro rfl ?_)
    | ((with_reducible show _ = _); rfl))
  all_goals try (
    (with_reducible refine Obl.mk ?_)
    first
    | ((with_reducible show regOk _ _ = true); kernel_rfl)
    | rfl
    | exact trivial
    | ((repeat' (first | exact trivial | refine And.intro ?_ ?_)); done)
    | decide
    | (intro r hr; simp only [List.mem_cons, List.not_mem_nil, or_false] at hr; first | (subst hr; rfl) | (rcases hr with rfl | rfl <;> rfl) | (rcases hr with rfl | rfl | rfl <;> rfl) | (rcases hr with rfl | rfl | rfl | rfl <;> rfl))
    | (refine And.intro ?_ ?_ <;> simp only [List.length_map, List.length_append, List.length_cons, List.length_nil] <;> omega))
  conv => whnf
  refine ⟨{ k : Nat // k ≤ l.length ∧ near (l.drop k) = near l }, fun k => ⟨[(0, .r (.c (.t (.lst 8 (l.map TPlace.tr))))), (3, tI .i64 (k.1 : Int))], [], []⟩, fun k => l.length - k.1, ⟨0, by omega, rfl⟩, ?_, ?_⟩
  · skip
    repeat' (
      (conv => whnf)
      first
      | refine Or.inl ?_
      | refine And.intro (Obl.out (?_ : Obl _)) ?_
      | refine ifB_intro (fun h => ?_) (fun h => ?_)
      | refine Exists.intro _ (And.intro rfl ?_)
      | ((with_reducible show _ = _); rfl))
    all_goals try (
      (with_reducible refine Obl.mk ?_)
      first
      | ((with_reducible show regOk _ _ = true); kernel_rfl)
      | rfl
      | exact trivial
      | ((repeat' (first | exact trivial | refine And.intro ?_ ?_)); done)
      | decide
      | (intro r hr; simp only [List.mem_cons, List.not_mem_nil, or_false] at hr; first | (subst hr; rfl) | (rcases hr with rfl | rfl <;> rfl) | (rcases hr with rfl | rfl | rfl <;> rfl) | (rcases hr with rfl | rfl | rfl | rfl <;> rfl))
      | (refine And.intro ?_ ?_ <;> simp only [List.length_map, List.length_append, List.length_cons, List.length_nil] <;> omega))
  intro ⟨k, hk, hr⟩
  dsimp only
  by_cases hlt : k < l.length
  · obtain ⟨x, hx⟩ := get_of_lt hlt
    have hb := s_spec_l01In x.fOffset 0 1000000
    rw [near_at hx] at hr
    cases hw : within x.fOffset 0 1000000 with
    | false =>
      rw [hw] at hb hr
      repeat' (
        (conv => whnf)
        first
        | refine Or.inl ?_
        | refine And.intro (Obl.out (?_ : Obl _)) ?_
        | refine ifB_intro (fun h => ?_) (fun h => ?_)
        | refine ⟨k, x.tr, rfl, map_get hx, ?_⟩
        | refine call_intro (hb) (And.intro rfl (And.intro rfl (And.intro rfl trivial))) ?_
        | refine Exists.intro _ (And.intro rfl ?_)
        | ((with_reducible show _ = _); rfl))
      all_goals try (
        (with_reducible refine Obl.mk ?_)
        first
        | ((with_reducible show regOk _ _ = true); kernel_rfl)
        | rfl
        | exact trivial
        | ((repeat' (first | exact trivial | refine And.intro ?_ ?_)); done)
        | decide
        | (intro r hr; simp only [List.mem_cons, List.not_mem_nil, or_false] at hr; first | (subst hr; rfl) | (rcases hr with rfl | rfl <;> rfl) | (rcases hr with rfl | rfl | rfl <;> rfl) | (rcases hr with rfl | rfl | rfl | rfl <;> rfl))
        | (refine And.intro ?_ ?_ <;> simp only [List.length_map, List.length_append, List.length_cons, List.length_nil] <;> omega))
      all_goals try (exfalso; simp only [decide_eq_false_iff_not, decide_eq_true_eq] at *; omega)
      all_goals exact ⟨by rw [← hr]; rfl⟩
    | true =>
      rw [hw, Bool.true_and] at hr
      rw [hw] at hb
      repeat' (
        (conv => whnf)
        first
        | refine Or.inl ?_
        | refine And.intro (Obl.out (?_ : Obl _)) ?_
        | refine ifB_intro (fun h => ?_) (fun h => ?_)
        | refine ⟨k, x.tr, rfl, map_get hx, ?_⟩
        | refine call_intro (hb) (And.intro rfl (And.intro rfl (And.intro rfl trivial))) ?_
        | refine Exists.intro _ (And.intro rfl ?_)
        | ((with_reducible show _ = _); rfl))
      all_goals try (
        (with_reducible refine Obl.mk ?_)
        first
        | ((with_reducible show regOk _ _ = true); kernel_rfl)
        | rfl
        | exact trivial
        | ((repeat' (first | exact trivial | refine And.intro ?_ ?_)); done)
        | decide
        | (intro r hr; simp only [List.mem_cons, List.not_mem_nil, or_false] at hr; first | (subst hr; rfl) | (rcases hr with rfl | rfl <;> rfl) | (rcases hr with rfl | rfl | rfl <;> rfl) | (rcases hr with rfl | rfl | rfl | rfl <;> rfl))
        | (refine And.intro ?_ ?_ <;> simp only [List.length_map, List.length_append, List.length_cons, List.length_nil] <;> omega))
      all_goals try (exfalso; simp only [decide_eq_false_iff_not, decide_eq_true_eq] at *; omega)
      conv => whnf
      refine ⟨⟨k + 1, by omega, hr⟩, ?_, by dsimp only; omega⟩
      repeat' (
        (conv => whnf)
        first
        | refine Or.inl ?_
        | refine And.intro (Obl.out (?_ : Obl _)) ?_
        | refine ifB_intro (fun h => ?_) (fun h => ?_)
        | refine Exists.intro _ (And.intro rfl ?_)
        | ((with_reducible show _ = _); rfl))
      all_goals try (
        (with_reducible refine Obl.mk ?_)
        first
        | ((with_reducible show regOk _ _ = true); kernel_rfl)
        | rfl
        | exact trivial
        | ((repeat' (first | exact trivial | refine And.intro ?_ ?_)); done)
        | decide
        | (intro r hr; simp only [List.mem_cons, List.not_mem_nil, or_false] at hr; first | (subst hr; rfl) | (rcases hr with rfl | rfl <;> rfl) | (rcases hr with rfl | rfl | rfl <;> rfl) | (rcases hr with rfl | rfl | rfl | rfl <;> rfl))
        | (refine And.intro ?_ ?_ <;> simp only [List.length_map, List.length_append, List.length_cons, List.length_nil] <;> omega))
      all_goals try exact ⟨by dsimp only; rw [IntWalk.i64_in _ (by omega)]; rfl⟩
  · have hge : l.length ≤ k := by omega
    rw [List.drop_eq_nil_of_le hge] at hr
    repeat' (
      (conv => whnf)
      first
      | refine Or.inl ?_
      | refine And.intro (Obl.out (?_ : Obl _)) ?_
      | refine ifB_intro (fun h => ?_) (fun h => ?_)
      | refine Exists.intro _ (And.intro rfl ?_)
      | ((with_reducible show _ = _); rfl))
    all_goals try (
      (with_reducible refine Obl.mk ?_)
      first
      | ((with_reducible show regOk _ _ = true); kernel_rfl)
      | rfl
      | exact trivial
      | ((repeat' (first | exact trivial | refine And.intro ?_ ?_)); done)
      | decide
      | (intro r hr; simp only [List.mem_cons, List.not_mem_nil, or_false] at hr; first | (subst hr; rfl) | (rcases hr with rfl | rfl <;> rfl) | (rcases hr with rfl | rfl | rfl <;> rfl) | (rcases hr with rfl | rfl | rfl | rfl <;> rfl))
      | (refine And.intro ?_ ?_ <;> simp only [List.length_map, List.length_append, List.length_cons, List.length_nil] <;> omega))
    all_goals try (exfalso; simp only [decide_eq_false_iff_not, decide_eq_true_eq] at *; omega)
    exact ⟨by rw [← hr]; rfl⟩
def ruleOf (x : TPlace) : TRule := ⟨x.fOffset, x.fOffset + opSize x.fItem.fOp.fCode, x.fItem.fEntered, x.fItem.fDepth⟩
def joins (r s : TRule) : Bool := r.fEnd == s.fStart && (r.fFrame == s.fFrame && r.fDepth == s.fDepth)
def addRule (acc : List TRule) (s : TRule) : List TRule := match acc.getLast? with
  | some r => if joins r s then acc.dropLast ++ [⟨r.fStart, s.fEnd, r.fFrame, r.fDepth⟩] else acc ++ [s]
  | none => [s]
def rulesOf (l : List TPlace) : List TRule := if near l then l.foldl (fun a x => addRule a (ruleOf x)) [] else []
theorem nil_or_snoc {α : Type} (l : List α) : l = [] ∨ ∃ ini r, l = ini ++ [r] := by
  rcases List.eq_nil_or_concat l with h | ⟨a, b, h⟩
  · exact .inl h
  · exact .inr ⟨a, b, by rw [h, List.concat_eq_append]⟩
theorem addRule_snoc (ini : List TRule) (r s : TRule) : addRule (ini ++ [r]) s = if joins r s then ini ++ [⟨r.fStart, s.fEnd, r.fFrame, r.fDepth⟩] else ini ++ [r] ++ [s] := by
  simp [addRule]
theorem addRule_len (acc : List TRule) (s : TRule) : (addRule acc s).length ≤ acc.length + 1 := by
  rcases nil_or_snoc acc with rfl | ⟨ini, r, rfl⟩
  · simp [addRule]
  · rw [addRule_snoc]
    split <;> simp
abbrev RulIx (l : List TPlace) := { q : Nat × List TRule // q.1 ≤ l.length ∧ q.2.length ≤ q.1 ∧ (l.drop q.1).foldl (fun a x => addRule a (ruleOf x)) q.2 = l.foldl (fun a x => addRule a (ruleOf x)) [] }
theorem s_impl_RulesOf (l : List TPlace) (hl : l.length ≤ 1048576) : Sim.Spec Try.prog 53 [tvL 8 (l.map TPlace.tr)] (rL 4 ((rulesOf l).map TRule.tr)) := by
  refine spec_of_W hΓ hmix Try.func53 rfl (by decide) rfl ?_
  have hlen : (l.map TPlace.tr).length = l.length := by simp
  unfold rulesOf
  repeat' (
    (conv => whnf)
    first
    | refine Or.inl ?_
    | refine And.intro (Obl.out (?_ : Obl _)) ?_
    | refine ifB_intro (fun h => ?_) (fun h => ?_)
    | refine Exists.intro _ (And.intro rfl ?_)
    | ((with_reducible show _ = _); rfl))
  all_goals try (
    (with_reducible refine Obl.mk ?_)
    first
    | ((with_reducible show regOk _ _ = true); kernel_rfl)
    | rfl
    | exact trivial
    | ((repeat' (first | exact trivial | refine And.intro ?_ ?_)); done)
    | decide
    | (intro r hr; simp only [List.mem_cons, List.not_mem_nil, or_false] at hr; first | (subst hr; rfl) | (rcases hr with rfl | rfl <;> rfl) | (rcases hr with rfl | rfl | rfl <;> rfl) | (rcases hr with rfl | rfl | rfl | rfl <;> rfl))
    | (refine And.intro ?_ ?_ <;> simp only [List.length_map, List.length_append, List.length_cons, List.length_nil] <;> omega))
  conv => whnf
  refine ⟨{ k : Nat // k ≤ l.length ∧ near (l.drop k) = near l }, fun k => ⟨[(0, .r (.c (.t (.lst 8 (l.map TPlace.tr))))), (2, .r (.c (.nils 0))), (10, .r (.c (.t (.lst 8 (l.map TPlace.tr))))), (11, tI .i64 ((l.map TPlace.tr).length : Int)), (12, tI .i64 (k.1 : Int))], [], []⟩, fun k => l.length - k.1, ⟨0, by omega, rfl⟩, ?_, ?_⟩
  · skip
    repeat' (
      (conv => whnf)
      first
      | refine Or.inl ?_
      | refine And.intro (Obl.out (?_ : Obl _)) ?_
      | refine ifB_intro (fun h => ?_) (fun h => ?_)
      | refine Exists.intro _ (And.intro rfl ?_)
      | ((with_reducible show _ = _); rfl))
    all_goals try (
      (with_reducible refine Obl.mk ?_)
      first
      | ((with_reducible show regOk _ _ = true); kernel_rfl)
      | rfl
      | exact trivial
      | ((repeat' (first | exact trivial | refine And.intro ?_ ?_)); done)
      | decide
      | (intro r hr; simp only [List.mem_cons, List.not_mem_nil, or_false] at hr; first | (subst hr; rfl) | (rcases hr with rfl | rfl <;> rfl) | (rcases hr with rfl | rfl | rfl <;> rfl) | (rcases hr with rfl | rfl | rfl | rfl <;> rfl))
      | (refine And.intro ?_ ?_ <;> simp only [List.length_map, List.length_append, List.length_cons, List.length_nil] <;> omega))
  intro ⟨k, hk, hr⟩
  dsimp only
  by_cases hlt : k < l.length
  · obtain ⟨x, hx⟩ := get_of_lt hlt
    have hb := s_impl_between x.fOffset 0 1000000
    rw [near_at hx] at hr
    cases hw : within x.fOffset 0 1000000 with
    | false =>
      rw [hw] at hb hr
      rw [if_neg (by rw [← hr]; simp)]
      repeat' (
        (conv => whnf)
        first
        | refine Or.inl ?_
        | refine And.intro (Obl.out (?_ : Obl _)) ?_
        | refine ifB_intro (fun h => ?_) (fun h => ?_)
        | refine ⟨k, x.tr, rfl, map_get hx, ?_⟩
        | refine call_intro (hb) (And.intro rfl (And.intro rfl (And.intro rfl trivial))) ?_
        | refine Exists.intro _ (And.intro rfl ?_)
        | ((with_reducible show _ = _); rfl))
      all_goals try (
        (with_reducible refine Obl.mk ?_)
        first
        | ((with_reducible show regOk _ _ = true); kernel_rfl)
        | rfl
        | exact trivial
        | ((repeat' (first | exact trivial | refine And.intro ?_ ?_)); done)
        | decide
        | (intro r hr; simp only [List.mem_cons, List.not_mem_nil, or_false] at hr; first | (subst hr; rfl) | (rcases hr with rfl | rfl <;> rfl) | (rcases hr with rfl | rfl | rfl <;> rfl) | (rcases hr with rfl | rfl | rfl | rfl <;> rfl))
        | (refine And.intro ?_ ?_ <;> simp only [List.length_map, List.length_append, List.length_cons, List.length_nil] <;> omega))
      all_goals try (exfalso; simp only [decide_eq_false_iff_not, decide_eq_true_eq] at *; omega)
    | true =>
      rw [hw, Bool.true_and] at hr
      rw [hw] at hb
      repeat' (
        (conv => whnf)
        first
        | refine Or.inl ?_
        | refine And.intro (Obl.out (?_ : Obl _)) ?_
        | refine ifB_intro (fun h => ?_) (fun h => ?_)
        | refine ⟨k, x.tr, rfl, map_get hx, ?_⟩
        | refine call_intro (hb) (And.intro rfl (And.intro rfl (And.intro rfl trivial))) ?_
        | refine Exists.intro _ (And.intro rfl ?_)
        | ((with_reducible show _ = _); rfl))
      all_goals try (
        (with_reducible refine Obl.mk ?_)
        first
        | ((with_reducible show regOk _ _ = true); kernel_rfl)
        | rfl
        | exact trivial
        | ((repeat' (first | exact trivial | refine And.intro ?_ ?_)); done)
        | decide
        | (intro r hr; simp only [List.mem_cons, List.not_mem_nil, or_false] at hr; first | (subst hr; rfl) | (rcases hr with rfl | rfl <;> rfl) | (rcases hr with rfl | rfl | rfl <;> rfl) | (rcases hr with rfl | rfl | rfl | rfl <;> rfl))
        | (refine And.intro ?_ ?_ <;> simp only [List.length_map, List.length_append, List.length_cons, List.length_nil] <;> omega))
      all_goals try (exfalso; simp only [decide_eq_false_iff_not, decide_eq_true_eq] at *; omega)
      all_goals (
        conv => whnf
        refine ⟨⟨k + 1, by omega, hr⟩, ?_, by dsimp only; omega⟩
        repeat' (
          (conv => whnf)
          first
          | refine Or.inl ?_
          | refine And.intro (Obl.out (?_ : Obl _)) ?_
          | refine ifB_intro (fun h => ?_) (fun h => ?_)
          | refine Exists.intro _ (And.intro rfl ?_)
          | ((with_reducible show _ = _); rfl))
        all_goals try (
          (with_reducible refine Obl.mk ?_)
          first
          | ((with_reducible show regOk _ _ = true); kernel_rfl)
          | rfl
          | exact trivial
          | ((repeat' (first | exact trivial | refine And.intro ?_ ?_)); done)
          | decide
          | (intro r hr; simp only [List.mem_cons, List.not_mem_nil, or_false] at hr; first | (subst hr; rfl) | (rcases hr with rfl | rfl <;> rfl) | (rcases hr with rfl | rfl | rfl <;> rfl) | (rcases hr with rfl | rfl | rfl | rfl <;> rfl))
          | (refine And.intro ?_ ?_ <;> simp only [List.length_map, List.length_append, List.length_cons, List.length_nil] <;> omega))
        all_goals try exact ⟨by dsimp only; rw [IntWalk.i64_in _ (by omega)]; rfl⟩)
  · have hge : l.length ≤ k := by omega
    rw [List.drop_eq_nil_of_le hge] at hr
    have hn : near l = true := by rw [← hr]; rfl
    have hmem := near_mem hn
    rw [if_pos hn]
    repeat' (
      (conv => whnf)
      first
      | refine Or.inl ?_
      | refine And.intro (Obl.out (?_ : Obl _)) ?_
      | refine ifB_intro (fun h => ?_) (fun h => ?_)
      | refine Exists.intro _ (And.intro rfl ?_)
      | ((with_reducible show _ = _); rfl))
    all_goals try (
      (with_reducible refine Obl.mk ?_)
      first
      | ((with_reducible show regOk _ _ = true); kernel_rfl)
      | rfl
      | exact trivial
      | ((repeat' (first | exact trivial | refine And.intro ?_ ?_)); done)
      | decide
      | (intro r hr; simp only [List.mem_cons, List.not_mem_nil, or_false] at hr; first | (subst hr; rfl) | (rcases hr with rfl | rfl <;> rfl) | (rcases hr with rfl | rfl | rfl <;> rfl) | (rcases hr with rfl | rfl | rfl | rfl <;> rfl))
      | (refine And.intro ?_ ?_ <;> simp only [List.length_map, List.length_append, List.length_cons, List.length_nil] <;> omega))
    all_goals try (exfalso; simp only [decide_eq_false_iff_not, decide_eq_true_eq] at *; omega)
    conv => whnf
    refine ⟨RulIx l, fun q => ⟨[(5, .r (.c (.own (21, 0, 0)))), (22, .r (.c (.t (.lst 8 (l.map TPlace.tr))))), (23, tI .i64 ((l.map TPlace.tr).length : Int)), (24, tI .i64 (q.1.1 : Int))], [((21, 0, 0), some (.arr true 4 (q.1.2.map TRule.tr)))], [21]⟩, fun q => l.length - q.1.1, ⟨(0, []), by simp, by simp, by simp⟩, ?_, ?_⟩
    · skip
      repeat' (
        (conv => whnf)
        first
        | refine Or.inl ?_
        | refine And.intro (Obl.out (?_ : Obl _)) ?_
        | refine ifB_intro (fun h => ?_) (fun h => ?_)
        | refine Exists.intro _ (And.intro rfl ?_)
        | ((with_reducible show _ = _); rfl))
      all_goals try (
        (with_reducible refine Obl.mk ?_)
        first
        | ((with_reducible show regOk _ _ = true); kernel_rfl)
        | rfl
        | exact trivial
        | ((repeat' (first | exact trivial | refine And.intro ?_ ?_)); done)
        | decide
        | (intro r hr; simp only [List.mem_cons, List.not_mem_nil, or_false] at hr; first | (subst hr; rfl) | (rcases hr with rfl | rfl <;> rfl) | (rcases hr with rfl | rfl | rfl <;> rfl) | (rcases hr with rfl | rfl | rfl | rfl <;> rfl))
        | (refine And.intro ?_ ?_ <;> simp only [List.length_map, List.length_append, List.length_cons, List.length_nil] <;> omega))
    intro ⟨⟨k, acc⟩, hk, hal, hr⟩
    dsimp only at hk hal hr ⊢
    by_cases hlt : k < l.length
    · obtain ⟨x, hx⟩ := get_of_lt hlt
      have hxm := hmem x (List.mem_of_getElem? hx)
      have hz := opSize_le x.fItem.fOp.fCode
      have ho := s_impl_OpSize x.fItem.fOp.fCode
      have hru : ruleOf x = ⟨x.fOffset, x.fOffset + opSize x.fItem.fOp.fCode, x.fItem.fEntered, x.fItem.fDepth⟩ := rfl
      have hw1 : IntKind.i64.wrap (x.fOffset + opSize x.fItem.fOp.fCode) = x.fOffset + opSize x.fItem.fOp.fCode := IntWalk.i64_in _ (by omega)
      rw [drop_at hx, List.foldl_cons] at hr
      have hal2 := addRule_len acc (ruleOf x)
      rcases nil_or_snoc acc with rfl | ⟨ini, r, rfl⟩
      · skip
        repeat' (
          (conv => whnf)
          first
          | refine Or.inl ?_
          | refine And.intro (Obl.out (?_ : Obl _)) ?_
          | refine ifB_intro (fun h => ?_) (fun h => ?_)
          | refine ⟨k, x.tr, rfl, map_get hx, ?_⟩
          | refine call_intro (ho) (And.intro rfl trivial) ?_
          | refine Exists.intro _ (And.intro rfl ?_)
          | ((with_reducible show _ = _); rfl))
        all_goals try (
          (with_reducible refine Obl.mk ?_)
          first
          | ((with_reducible show regOk _ _ = true); kernel_rfl)
          | rfl
          | exact trivial
          | ((repeat' (first | exact trivial | refine And.intro ?_ ?_)); done)
          | decide
          | (intro r hr; simp only [List.mem_cons, List.not_mem_nil, or_false] at hr; first | (subst hr; rfl) | (rcases hr with rfl | rfl <;> rfl) | (rcases hr with rfl | rfl | rfl <;> rfl) | (rcases hr with rfl | rfl | rfl | rfl <;> rfl))
          | (refine And.intro ?_ ?_ <;> simp only [List.length_map, List.length_append, List.length_cons, List.length_nil] <;> omega))
        all_goals try (exfalso; simp only [decide_eq_false_iff_not, decide_eq_true_eq] at *; omega)
        all_goals try exact ⟨⟨by simp, by simp⟩⟩
        conv => whnf
        refine ⟨⟨(k + 1, addRule [] (ruleOf x)), by dsimp only; omega, by dsimp only; simp only [List.length_nil] at hal2; omega, hr⟩, ?_, by dsimp only; omega⟩
        repeat' (
          (conv => whnf)
          first
          | refine Or.inl ?_
          | refine And.intro (Obl.out (?_ : Obl _)) ?_
          | refine ifB_intro (fun h => ?_) (fun h => ?_)
          | refine Exists.intro _ (And.intro rfl ?_)
          | ((with_reducible show _ = _); rfl))
        all_goals try (
          (with_reducible refine Obl.mk ?_)
          first
          | ((with_reducible show regOk _ _ = true); kernel_rfl)
          | rfl
          | exact trivial
          | ((repeat' (first | exact trivial | refine And.intro ?_ ?_)); done)
          | decide
          | (intro r hr; simp only [List.mem_cons, List.not_mem_nil, or_false] at hr; first | (subst hr; rfl) | (rcases hr with rfl | rfl <;> rfl) | (rcases hr with rfl | rfl | rfl <;> rfl) | (rcases hr with rfl | rfl | rfl | rfl <;> rfl))
          | (refine And.intro ?_ ?_ <;> simp only [List.length_map, List.length_append, List.length_cons, List.length_nil] <;> omega))
        all_goals try exact ⟨by dsimp only; rw [IntWalk.i64_in _ (by omega)]; rfl⟩
        all_goals exact ⟨by dsimp only; rw [hw1]; rfl⟩
      · have hil : ini.length + 1 ≤ k := by simpa using hal
        have hwn : IntKind.i64.wrap ((((ini ++ [r]).map TRule.tr).length : Nat) - 1 : Int) = (ini.length : Int) := by
          rw [List.length_map, List.length_append, List.length_singleton, IntWalk.i64_in _ (by omega)]; omega
        have hgr : ((ini ++ [r]).map TRule.tr)[ini.length]? = some r.tr := by rw [List.map_append]; exact mid_get (by simp)
        rw [addRule_snoc] at hr hal2
        repeat' (
          (conv => whnf)
          first
          | refine Or.inl ?_
          | refine And.intro (Obl.out (?_ : Obl _)) ?_
          | refine ifB_intro (fun h => ?_) (fun h => ?_)
          | refine ⟨k, x.tr, rfl, map_get hx, ?_⟩
          | refine call_intro (ho) (And.intro rfl trivial) ?_
          | refine ⟨ini.length, hwn, ?_⟩
          | refine ⟨r.tr, hgr, ?_⟩
          | refine Exists.intro _ (And.intro rfl ?_)
          | ((with_reducible show _ = _); rfl))
        all_goals try (
          (with_reducible refine Obl.mk ?_)
          first
          | ((with_reducible show regOk _ _ = true); kernel_rfl)
          | rfl
          | exact trivial
          | ((repeat' (first | exact trivial | refine And.intro ?_ ?_)); done)
          | decide
          | (intro r hr; simp only [List.mem_cons, List.not_mem_nil, or_false] at hr; first | (subst hr; rfl) | (rcases hr with rfl | rfl <;> rfl) | (rcases hr with rfl | rfl | rfl <;> rfl) | (rcases hr with rfl | rfl | rfl | rfl <;> rfl))
          | (refine And.intro ?_ ?_ <;> simp only [List.length_map, List.length_append, List.length_cons, List.length_nil] <;> omega))
        all_goals try (exfalso; simp only [decide_eq_false_iff_not, decide_eq_true_eq] at *; omega)
        all_goals try (exfalso; have h' := of_decide_eq_false h; rw [List.length_map, List.length_append, List.length_singleton] at h'; omega; done)
        all_goals try exact ⟨by simp⟩
        all_goals try exact ⟨⟨by simp; omega, by simp; omega⟩⟩
        all_goals conv => whnf
        all_goals first
          | (have hj : joins r (ruleOf x) = true := by simp_all [joins]
             rw [if_pos hj] at hr hal2
             refine ⟨⟨(k + 1, ini ++ [⟨r.fStart, (ruleOf x).fEnd, r.fFrame, r.fDepth⟩]), by dsimp only; omega, by simp; omega, hr⟩, ?_, by dsimp only; omega⟩)
          | (have hj : joins r (ruleOf x) = false := by simp_all [joins]
             rw [if_neg (by rw [hj]; simp)] at hr hal2
             refine ⟨⟨(k + 1, ini ++ [r] ++ [ruleOf x]), by dsimp only; omega, by simp; omega, hr⟩, ?_, by dsimp only; omega⟩)
        repeat' (
          (conv => whnf)
          first
          | refine Or.inl ?_
          | refine And.intro (Obl.out (?_ : Obl _)) ?_
          | refine ifB_intro (fun h => ?_) (fun h => ?_)
          | refine Exists.intro _ (And.intro rfl ?_)
          | ((with_reducible show _ = _); rfl))
        all_goals try (
          (with_reducible refine Obl.mk ?_)
          first
          | ((with_reducible show regOk _ _ = true); kernel_rfl)
          | rfl
          | exact trivial
          | ((repeat' (first | exact trivial | refine And.intro ?_ ?_)); done)
          | decide
          | (intro r hr; simp only [List.mem_cons, List.not_mem_nil, or_false] at hr; first | (subst hr; rfl) | (rcases hr with rfl | rfl <;> rfl) | (rcases hr with rfl | rfl | rfl <;> rfl) | (rcases hr with rfl | rfl | rfl | rfl <;> rfl))
          | (refine And.intro ?_ ?_ <;> simp only [List.length_map, List.length_append, List.length_cons, List.length_nil] <;> omega))
        all_goals try exact ⟨by dsimp only; rw [IntWalk.i64_in _ (by omega)]; rfl⟩
        all_goals first
          | exact ⟨by dsimp only; rw [hw1, hru]; simp [TRule.tr]⟩
          | exact ⟨by dsimp only; rw [hw1, hru, List.map_append, List.map_cons, List.map_nil, mid_set (by simp), List.map_append]; rfl⟩
    · have hge : l.length ≤ k := by omega
      rw [List.drop_eq_nil_of_le hge, List.foldl_nil] at hr
      repeat' (
        (conv => whnf)
        first
        | refine Or.inl ?_
        | refine And.intro (Obl.out (?_ : Obl _)) ?_
        | refine ifB_intro (fun h => ?_) (fun h => ?_)
        | refine Exists.intro _ (And.intro rfl ?_)
        | ((with_reducible show _ = _); rfl))
      all_goals try (
        (with_reducible refine Obl.mk ?_)
        first
        | ((with_reducible show regOk _ _ = true); kernel_rfl)
        | rfl
        | exact trivial
        | ((repeat' (first | exact trivial | refine And.intro ?_ ?_)); done)
        | decide
        | (intro r hr; simp only [List.mem_cons, List.not_mem_nil, or_false] at hr; first | (subst hr; rfl) | (rcases hr with rfl | rfl <;> rfl) | (rcases hr with rfl | rfl | rfl <;> rfl) | (rcases hr with rfl | rfl | rfl | rfl <;> rfl))
        | (refine And.intro ?_ ?_ <;> simp only [List.length_map, List.length_append, List.length_cons, List.length_nil] <;> omega))
      all_goals try (exfalso; simp only [decide_eq_false_iff_not, decide_eq_true_eq] at *; omega)
      all_goals exact ⟨by rw [hr]⟩
theorem s_spec_RulesOf (l : List TPlace) (hl : l.length ≤ 1048576) : Sim.Spec Try.prog 52 [tvL 8 (l.map TPlace.tr)] (rL 4 ((rulesOf l).map TRule.tr)) := by
  refine spec_of_W hΓ hmix Try.func52 rfl (by decide) rfl ?_
  have hlen : (l.map TPlace.tr).length = l.length := by simp
  have hn0 := s_spec_l12Near l hl
  unfold rulesOf
  cases hn : near l with
  | false =>
    rw [hn] at hn0
    rw [if_neg (by simp)]
    repeat' (
      (conv => whnf)
      first
      | refine Or.inl ?_
      | refine And.intro (Obl.out (?_ : Obl _)) ?_
      | refine ifB_intro (fun h => ?_) (fun h => ?_)
      | refine call_intro (hn0) (And.intro rfl trivial) ?_
      | refine Exists.intro _ (And.intro rfl ?_)
      | ((with_reducible show _ = _); rfl))
    all_goals try (
      (with_reducible refine Obl.mk ?_)
      first
      | ((with_reducible show regOk _ _ = true); kernel_rfl)
      | rfl
      | exact trivial
      | ((repeat' (first | exact trivial | refine And.intro ?_ ?_)); done)
      | decide
      | (intro r hr; simp only [List.mem_cons, List.not_mem_nil, or_false] at hr; first | (subst hr; rfl) | (rcases hr with rfl | rfl <;> rfl) | (rcases hr with rfl | rfl | rfl <;> rfl) | (rcases hr with rfl | rfl | rfl | rfl <;> rfl))
      | (refine And.intro ?_ ?_ <;> simp only [List.length_map, List.length_append, List.length_cons, List.length_nil] <;> omega))
  | true =>
    rw [hn] at hn0
    have hmem := near_mem hn
    rw [if_pos rfl]
    repeat' (
      (conv => whnf)
      first
      | refine Or.inl ?_
      | refine And.intro (Obl.out (?_ : Obl _)) ?_
      | refine ifB_intro (fun h => ?_) (fun h => ?_)
      | refine call_intro (hn0) (And.intro rfl trivial) ?_
      | refine Exists.intro _ (And.intro rfl ?_)
      | ((with_reducible show _ = _); rfl))
    all_goals try (
      (with_reducible refine Obl.mk ?_)
      first
      | ((with_reducible show regOk _ _ = true); kernel_rfl)
      | rfl
      | exact trivial
      | ((repeat' (first | exact trivial | refine And.intro ?_ ?_)); done)
      | decide
      | (intro r hr; simp only [List.mem_cons, List.not_mem_nil, or_false] at hr; first | (subst hr; rfl) | (rcases hr with rfl | rfl <;> rfl) | (rcases hr with rfl | rfl | rfl <;> rfl) | (rcases hr with rfl | rfl | rfl | rfl <;> rfl))
      | (refine And.intro ?_ ?_ <;> simp only [List.length_map, List.length_append, List.length_cons, List.length_nil] <;> omega))
    conv => whnf
    refine ⟨RulIx l, fun q => ⟨[(0, .r (.c (.t (.lst 8 (l.map TPlace.tr))))), (3, .r (.c (.own (8, 0, 0)))), (4, tI .i64 (q.1.1 : Int))], [((8, 0, 0), some (.arr true 4 (q.1.2.map TRule.tr)))], [8]⟩, fun q => l.length - q.1.1, ⟨(0, []), by simp, by simp, by simp⟩, ?_, ?_⟩
    · skip
      repeat' (
        (conv => whnf)
        first
        | refine Or.inl ?_
        | refine And.intro (Obl.out (?_ : Obl _)) ?_
        | refine ifB_intro (fun h => ?_) (fun h => ?_)
        | refine Exists.intro _ (And.intro rfl ?_)
        | ((with_reducible show _ = _); rfl))
      all_goals try (
        (with_reducible refine Obl.mk ?_)
        first
        | ((with_reducible show regOk _ _ = true); kernel_rfl)
        | rfl
        | exact trivial
        | ((repeat' (first | exact trivial | refine And.intro ?_ ?_)); done)
        | decide
        | (intro r hr; simp only [List.mem_cons, List.not_mem_nil, or_false] at hr; first | (subst hr; rfl) | (rcases hr with rfl | rfl <;> rfl) | (rcases hr with rfl | rfl | rfl <;> rfl) | (rcases hr with rfl | rfl | rfl | rfl <;> rfl))
        | (refine And.intro ?_ ?_ <;> simp only [List.length_map, List.length_append, List.length_cons, List.length_nil] <;> omega))
    intro ⟨⟨k, acc⟩, hk, hal, hr⟩
    dsimp only at hk hal hr ⊢
    by_cases hlt : k < l.length
    · obtain ⟨x, hx⟩ := get_of_lt hlt
      have hxm := hmem x (List.mem_of_getElem? hx)
      have hz := opSize_le x.fItem.fOp.fCode
      have ho := s_spec_OpSize x.fItem.fOp.fCode
      have hru : ruleOf x = ⟨x.fOffset, x.fOffset + opSize x.fItem.fOp.fCode, x.fItem.fEntered, x.fItem.fDepth⟩ := rfl
      have hw1 : IntKind.i64.wrap (x.fOffset + opSize x.fItem.fOp.fCode) = x.fOffset + opSize x.fItem.fOp.fCode := IntWalk.i64_in _ (by omega)
      rw [drop_at hx, List.foldl_cons] at hr
      have hal2 := addRule_len acc (ruleOf x)
      rcases nil_or_snoc acc with rfl | ⟨ini, r, rfl⟩
      · skip
        repeat' (
          (conv => whnf)
          first
          | refine Or.inl ?_
          | refine And.intro (Obl.out (?_ : Obl _)) ?_
          | refine ifB_intro (fun h => ?_) (fun h => ?_)
          | refine ⟨k, x.tr, rfl, map_get hx, ?_⟩
          | refine call_intro (ho) (And.intro rfl trivial) ?_
          | refine Exists.intro _ (And.intro rfl ?_)
          | ((with_reducible show _ = _); rfl))
        all_goals try (
          (with_reducible refine Obl.mk ?_)
          first
          | ((with_reducible show regOk _ _ = true); kernel_rfl)
          | rfl
          | exact trivial
          | ((repeat' (first | exact trivial | refine And.intro ?_ ?_)); done)
          | decide
          | (intro r hr; simp only [List.mem_cons, List.not_mem_nil, or_false] at hr; first | (subst hr; rfl) | (rcases hr with rfl | rfl <;> rfl) | (rcases hr with rfl | rfl | rfl <;> rfl) | (rcases hr with rfl | rfl | rfl | rfl <;> rfl))
          | (refine And.intro ?_ ?_ <;> simp only [List.length_map, List.length_append, List.length_cons, List.length_nil] <;> omega))
        all_goals try (exfalso; simp only [decide_eq_false_iff_not, decide_eq_true_eq] at *; omega)
        all_goals try exact ⟨⟨by simp, by simp⟩⟩
        conv => whnf
        refine ⟨⟨(k + 1, addRule [] (ruleOf x)), by dsimp only; omega, by dsimp only; simp only [List.length_nil] at hal2; omega, hr⟩, ?_, by dsimp only; omega⟩
        repeat' (
          (conv => whnf)
          first
          | refine Or.inl ?_
          | refine And.intro (Obl.out (?_ : Obl _)) ?_
          | refine ifB_intro (fun h => ?_) (fun h => ?_)
          | refine Exists.intro _ (And.intro rfl ?_)
          | ((with_reducible show _ = _); rfl))
        all_goals try (
          (with_reducible refine Obl.mk ?_)
          first
          | ((with_reducible show regOk _ _ = true); kernel_rfl)
          | rfl
          | exact trivial
          | ((repeat' (first | exact trivial | refine And.intro ?_ ?_)); done)
          | decide
          | (intro r hr; simp only [List.mem_cons, List.not_mem_nil, or_false] at hr; first | (subst hr; rfl) | (rcases hr with rfl | rfl <;> rfl) | (rcases hr with rfl | rfl | rfl <;> rfl) | (rcases hr with rfl | rfl | rfl | rfl <;> rfl))
          | (refine And.intro ?_ ?_ <;> simp only [List.length_map, List.length_append, List.length_cons, List.length_nil] <;> omega))
        all_goals try exact ⟨by dsimp only; rw [IntWalk.i64_in _ (by omega)]; rfl⟩
        all_goals exact ⟨by dsimp only; rw [hw1]; rfl⟩
      · have hil : ini.length + 1 ≤ k := by simpa using hal
        have hwn : IntKind.i64.wrap ((((ini ++ [r]).map TRule.tr).length : Nat) - 1 : Int) = (ini.length : Int) := by
          rw [List.length_map, List.length_append, List.length_singleton, IntWalk.i64_in _ (by omega)]; omega
        have hgr : ((ini ++ [r]).map TRule.tr)[ini.length]? = some r.tr := by rw [List.map_append]; exact mid_get (by simp)
        rw [addRule_snoc] at hr hal2
        repeat' (
          (conv => whnf)
          first
          | refine Or.inl ?_
          | refine And.intro (Obl.out (?_ : Obl _)) ?_
          | refine ifB_intro (fun h => ?_) (fun h => ?_)
          | refine ⟨k, x.tr, rfl, map_get hx, ?_⟩
          | refine call_intro (ho) (And.intro rfl trivial) ?_
          | refine ⟨ini.length, hwn, ?_⟩
          | refine ⟨r.tr, hgr, ?_⟩
          | refine Exists.intro _ (And.intro rfl ?_)
          | ((with_reducible show _ = _); rfl))
        all_goals try (
          (with_reducible refine Obl.mk ?_)
          first
          | ((with_reducible show regOk _ _ = true); kernel_rfl)
          | rfl
          | exact trivial
          | ((repeat' (first | exact trivial | refine And.intro ?_ ?_)); done)
          | decide
          | (intro r hr; simp only [List.mem_cons, List.not_mem_nil, or_false] at hr; first | (subst hr; rfl) | (rcases hr with rfl | rfl <;> rfl) | (rcases hr with rfl | rfl | rfl <;> rfl) | (rcases hr with rfl | rfl | rfl | rfl <;> rfl))
          | (refine And.intro ?_ ?_ <;> simp only [List.length_map, List.length_append, List.length_cons, List.length_nil] <;> omega))
        all_goals try (exfalso; simp only [decide_eq_false_iff_not, decide_eq_true_eq] at *; omega)
        all_goals try (exfalso; have h' := of_decide_eq_false h; rw [List.length_map, List.length_append, List.length_singleton] at h'; omega; done)
        all_goals try exact ⟨by simp⟩
        all_goals try exact ⟨⟨by simp; omega, by simp; omega⟩⟩
        all_goals conv => whnf
        all_goals first
          | (have hj : joins r (ruleOf x) = true := by simp_all [joins]
             rw [if_pos hj] at hr hal2
             refine ⟨⟨(k + 1, ini ++ [⟨r.fStart, (ruleOf x).fEnd, r.fFrame, r.fDepth⟩]), by dsimp only; omega, by simp; omega, hr⟩, ?_, by dsimp only; omega⟩)
          | (have hj : joins r (ruleOf x) = false := by simp_all [joins]
             rw [if_neg (by rw [hj]; simp)] at hr hal2
             refine ⟨⟨(k + 1, ini ++ [r] ++ [ruleOf x]), by dsimp only; omega, by simp; omega, hr⟩, ?_, by dsimp only; omega⟩)
        repeat' (
          (conv => whnf)
          first
          | refine Or.inl ?_
          | refine And.intro (Obl.out (?_ : Obl _)) ?_
          | refine ifB_intro (fun h => ?_) (fun h => ?_)
          | refine Exists.intro _ (And.intro rfl ?_)
          | ((with_reducible show _ = _); rfl))
        all_goals try (
          (with_reducible refine Obl.mk ?_)
          first
          | ((with_reducible show regOk _ _ = true); kernel_rfl)
          | rfl
          | exact trivial
          | ((repeat' (first | exact trivial | refine And.intro ?_ ?_)); done)
          | decide
          | (intro r hr; simp only [List.mem_cons, List.not_mem_nil, or_false] at hr; first | (subst hr; rfl) | (rcases hr with rfl | rfl <;> rfl) | (rcases hr with rfl | rfl | rfl <;> rfl) | (rcases hr with rfl | rfl | rfl | rfl <;> rfl))
          | (refine And.intro ?_ ?_ <;> simp only [List.length_map, List.length_append, List.length_cons, List.length_nil] <;> omega))
        all_goals try exact ⟨by dsimp only; rw [IntWalk.i64_in _ (by omega)]; rfl⟩
        all_goals first
          | exact ⟨by dsimp only; rw [hw1, hru]; simp [TRule.tr]⟩
          | exact ⟨by dsimp only; rw [hw1, hru, List.map_append, List.map_cons, List.map_nil, mid_set (by simp), List.map_append]; rfl⟩
    · have hge : l.length ≤ k := by omega
      rw [List.drop_eq_nil_of_le hge, List.foldl_nil] at hr
      repeat' (
        (conv => whnf)
        first
        | refine Or.inl ?_
        | refine And.intro (Obl.out (?_ : Obl _)) ?_
        | refine ifB_intro (fun h => ?_) (fun h => ?_)
        | refine Exists.intro _ (And.intro rfl ?_)
        | ((with_reducible show _ = _); rfl))
      all_goals try (
        (with_reducible refine Obl.mk ?_)
        first
        | ((with_reducible show regOk _ _ = true); kernel_rfl)
        | rfl
        | exact trivial
        | ((repeat' (first | exact trivial | refine And.intro ?_ ?_)); done)
        | decide
        | (intro r hr; simp only [List.mem_cons, List.not_mem_nil, or_false] at hr; first | (subst hr; rfl) | (rcases hr with rfl | rfl <;> rfl) | (rcases hr with rfl | rfl | rfl <;> rfl) | (rcases hr with rfl | rfl | rfl | rfl <;> rfl))
        | (refine And.intro ?_ ?_ <;> simp only [List.length_map, List.length_append, List.length_cons, List.length_nil] <;> omega))
      all_goals try (exfalso; simp only [decide_eq_false_iff_not, decide_eq_true_eq] at *; omega)
      all_goals exact ⟨by rw [hr]⟩
theorem rules_fold_len : ∀ (l : List TPlace) (acc : List TRule), (l.foldl (fun a x => addRule a (ruleOf x)) acc).length ≤ acc.length + l.length
  | [], acc => by simp
  | x :: l, acc => by
    have h1 := rules_fold_len l (addRule acc (ruleOf x))
    have h2 := addRule_len acc (ruleOf x)
    rw [List.foldl_cons, List.length_cons]
    omega
theorem rulesOf_len2 {l : List TPlace} (h : smallT 1048576 (.lst 8 (l.map TPlace.tr))) : (rulesOf l).length ≤ 1048576 := by
  have h1 := small_nat h
  have h2 := rules_fold_len l []
  unfold rulesOf
  split
  · simp only [List.length_nil] at h2; omega
  · simp
end Go.Proofs.Ytnadkeiidbgmjaa
