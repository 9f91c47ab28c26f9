/- Names and inline records: the contracts in both texts. -/
import Derived.Test.YtflolafbblohnaaFnsJ
namespace Go.Proofs.Ytflolafbblohnaa
open Go.Sim
set_option maxRecDepth 100000
set_option maxHeartbeats 4000000
def low (b : UInt8) : Bool := decide (97 ≤ b.toNat) && decide (b.toNat ≤ 122)
def nameOk (s : List UInt8) : Bool := s.all low && within s.length 1 8
abbrev NameIx (s : List UInt8) := { k : Nat // k ≤ s.length ∧ (s.take k).all low = true }
theorem all_take {α : Type} {p : α → Bool} {s : List α} {k : Nat} {b : α} (h : (s.take k).all p = true) (hb : s[k]? = some b) (hp : p b = true) : (s.take (k + 1)).all p = true := by
  rw [List.take_add_one, hb]
  simp_all
theorem all_bad {α : Type} {p : α → Bool} {s : List α} {k : Nat} {b : α} (hb : s[k]? = some b) (hp : p b = false) : s.all p = false := by
  rw [Bool.eq_false_iff]
  intro h
  rw [List.all_eq_true] at h
  rw [h b (List.mem_of_getElem? hb)] at hp
  cases hp
theorem s_impl_NameOk (s : List UInt8) (hl : s.length ≤ 1099511627775) : Sim.Spec Try.prog 250 [tvS s] (rB (nameOk s)) := by
  refine spec_of_W hΓ hmix Try.func250 rfl (by decide) rfl ?_
  unfold nameOk
  repeat' (
    (conv => whnf)
    first
    | refine Or.inl ?_
    | refine And.intro (Obl.out (?_ : Obl _)) ?_
    | refine ifB_intro (fun h => ?_) (fun h => ?_)
    | refine Exists.intro _ (And.intro rfl ?_)
    | ((with_reducible show _ = _); rfl))
  all_goals try (
    (with_reducible refine Obl.mk ?_)
    first
    | ((with_reducible show regOk _ _ = true); kernel_rfl)
    | ((with_reducible show eqTyOk _ _ = true); kernel_rfl)
    | rfl
    | exact trivial
    | ((repeat' (first | exact trivial | refine And.intro ?_ ?_)); done)
    | decide
    | (intro r hr; simp only [List.mem_cons, List.not_mem_nil, or_false] at hr; first | (subst hr; rfl) | (rcases hr with rfl | rfl <;> rfl) | (rcases hr with rfl | rfl | rfl <;> rfl) | (rcases hr with rfl | rfl | rfl | rfl <;> rfl))
    | (refine And.intro ?_ ?_ <;> simp only [List.length_map, List.length_append, List.length_cons, List.length_nil] <;> omega))
  conv => whnf
  refine ⟨NameIx s, fun k => ⟨[(0, tS s), (3, tI .i64 (k.1 : Int))], [], []⟩, fun k => s.length - k.1, ⟨0, by omega, rfl⟩, ?_, ?_⟩
  · skip
    repeat' (
      (conv => whnf)
      first
      | refine Or.inl ?_
      | refine And.intro (Obl.out (?_ : Obl _)) ?_
      | refine ifB_intro (fun h => ?_) (fun h => ?_)
      | refine Exists.intro _ (And.intro rfl ?_)
      | ((with_reducible show _ = _); rfl))
    all_goals try (
      (with_reducible refine Obl.mk ?_)
      first
      | ((with_reducible show regOk _ _ = true); kernel_rfl)
      | ((with_reducible show eqTyOk _ _ = true); kernel_rfl)
      | rfl
      | exact trivial
      | ((repeat' (first | exact trivial | refine And.intro ?_ ?_)); done)
      | decide
      | (intro r hr; simp only [List.mem_cons, List.not_mem_nil, or_false] at hr; first | (subst hr; rfl) | (rcases hr with rfl | rfl <;> rfl) | (rcases hr with rfl | rfl | rfl <;> rfl) | (rcases hr with rfl | rfl | rfl | rfl <;> rfl))
      | (refine And.intro ?_ ?_ <;> simp only [List.length_map, List.length_append, List.length_cons, List.length_nil] <;> omega))
  intro ⟨k, hk, hp⟩
  dsimp only
  by_cases hlt : k < s.length
  · obtain ⟨b, hb⟩ := get_of_lt hlt
    have hbl := b.toNat_lt
    cases hlo : low b with
    | false =>
      rw [all_bad hb hlo]
      unfold low at hlo
      repeat' (
        (conv => whnf)
        first
        | refine Or.inl ?_
        | refine And.intro (Obl.out (?_ : Obl _)) ?_
        | refine ifB_intro (fun h => ?_) (fun h => ?_)
        | refine ⟨k, b, rfl, hb, ?_⟩
        | refine Exists.intro _ (And.intro rfl ?_)
        | ((with_reducible show _ = _); rfl))
      all_goals try (
        (with_reducible refine Obl.mk ?_)
        first
        | ((with_reducible show regOk _ _ = true); kernel_rfl)
        | ((with_reducible show eqTyOk _ _ = true); kernel_rfl)
        | rfl
        | exact trivial
        | ((repeat' (first | exact trivial | refine And.intro ?_ ?_)); done)
        | decide
        | (intro r hr; simp only [List.mem_cons, List.not_mem_nil, or_false] at hr; first | (subst hr; rfl) | (rcases hr with rfl | rfl <;> rfl) | (rcases hr with rfl | rfl | rfl <;> rfl) | (rcases hr with rfl | rfl | rfl | rfl <;> rfl))
        | (refine And.intro ?_ ?_ <;> simp only [List.length_map, List.length_append, List.length_cons, List.length_nil] <;> omega))
      all_goals try (exfalso; simp only [decide_eq_false_iff_not, decide_eq_true_eq] at *; omega)
      all_goals (exfalso; simp at *; omega)
    | true =>
      have hnx := all_take hp hb hlo
      unfold low at hlo
      repeat' (
        (conv => whnf)
        first
        | refine Or.inl ?_
        | refine And.intro (Obl.out (?_ : Obl _)) ?_
        | refine ifB_intro (fun h => ?_) (fun h => ?_)
        | refine ⟨k, b, rfl, hb, ?_⟩
        | refine Exists.intro _ (And.intro rfl ?_)
        | ((with_reducible show _ = _); rfl))
      all_goals try (
        (with_reducible refine Obl.mk ?_)
        first
        | ((with_reducible show regOk _ _ = true); kernel_rfl)
        | ((with_reducible show eqTyOk _ _ = true); kernel_rfl)
        | rfl
        | exact trivial
        | ((repeat' (first | exact trivial | refine And.intro ?_ ?_)); done)
        | decide
        | (intro r hr; simp only [List.mem_cons, List.not_mem_nil, or_false] at hr; first | (subst hr; rfl) | (rcases hr with rfl | rfl <;> rfl) | (rcases hr with rfl | rfl | rfl <;> rfl) | (rcases hr with rfl | rfl | rfl | rfl <;> rfl))
        | (refine And.intro ?_ ?_ <;> simp only [List.length_map, List.length_append, List.length_cons, List.length_nil] <;> omega))
      all_goals try (exfalso; simp only [decide_eq_false_iff_not, decide_eq_true_eq] at *; omega)
      all_goals try (exfalso; simp at *; omega)
      conv => whnf
      refine ⟨⟨k + 1, by omega, hnx⟩, ?_, by dsimp only; omega⟩
      repeat' (
        (conv => whnf)
        first
        | refine Or.inl ?_
        | refine And.intro (Obl.out (?_ : Obl _)) ?_
        | refine ifB_intro (fun h => ?_) (fun h => ?_)
        | refine Exists.intro _ (And.intro rfl ?_)
        | ((with_reducible show _ = _); rfl))
      all_goals try (
        (with_reducible refine Obl.mk ?_)
        first
        | ((with_reducible show regOk _ _ = true); kernel_rfl)
        | ((with_reducible show eqTyOk _ _ = true); kernel_rfl)
        | rfl
        | exact trivial
        | ((repeat' (first | exact trivial | refine And.intro ?_ ?_)); done)
        | decide
        | (intro r hr; simp only [List.mem_cons, List.not_mem_nil, or_false] at hr; first | (subst hr; rfl) | (rcases hr with rfl | rfl <;> rfl) | (rcases hr with rfl | rfl | rfl <;> rfl) | (rcases hr with rfl | rfl | rfl | rfl <;> rfl))
        | (refine And.intro ?_ ?_ <;> simp only [List.length_map, List.length_append, List.length_cons, List.length_nil] <;> omega))
      all_goals try exact ⟨by dsimp only; rw [IntWalk.i64_in _ (by omega)]; rfl⟩
  · have hge : s.length ≤ k := by omega
    rw [List.take_of_length_le hge] at hp
    rw [hp]
    repeat' (
      (conv => whnf)
      first
      | refine Or.inl ?_
      | refine And.intro (Obl.out (?_ : Obl _)) ?_
      | refine ifB_intro (fun h => ?_) (fun h => ?_)
      | refine call_intro (s_impl_between _ _ _) (And.intro rfl (And.intro rfl (And.intro rfl trivial))) ?_
      | refine Exists.intro _ (And.intro rfl ?_)
      | ((with_reducible show _ = _); rfl))
    all_goals try (
      (with_reducible refine Obl.mk ?_)
      first
      | ((with_reducible show regOk _ _ = true); kernel_rfl)
      | ((with_reducible show eqTyOk _ _ = true); kernel_rfl)
      | rfl
      | exact trivial
      | ((repeat' (first | exact trivial | refine And.intro ?_ ?_)); done)
      | decide
      | (intro r hr; simp only [List.mem_cons, List.not_mem_nil, or_false] at hr; first | (subst hr; rfl) | (rcases hr with rfl | rfl <;> rfl) | (rcases hr with rfl | rfl | rfl <;> rfl) | (rcases hr with rfl | rfl | rfl | rfl <;> rfl))
      | (refine And.intro ?_ ?_ <;> simp only [List.length_map, List.length_append, List.length_cons, List.length_nil] <;> omega))
    all_goals try (exfalso; simp only [decide_eq_false_iff_not, decide_eq_true_eq] at *; omega)
theorem s_spec_NameOk (s : List UInt8) (hl : s.length ≤ 1099511627775) : Sim.Spec Try.prog 236 [tvS s] (rB (nameOk s)) := by
  refine spec_of_W hΓ hmix Try.func236 rfl (by decide) rfl ?_
  unfold nameOk
  repeat' (
    (conv => whnf)
    first
    | refine Or.inl ?_
    | refine And.intro (Obl.out (?_ : Obl _)) ?_
    | refine ifB_intro (fun h => ?_) (fun h => ?_)
    | refine Exists.intro _ (And.intro rfl ?_)
    | ((with_reducible show _ = _); rfl))
  all_goals try (
    (with_reducible refine Obl.mk ?_)
    first
    | ((with_reducible show regOk _ _ = true); kernel_rfl)
    | ((with_reducible show eqTyOk _ _ = true); kernel_rfl)
    | rfl
    | exact trivial
    | ((repeat' (first | exact trivial | refine And.intro ?_ ?_)); done)
    | decide
    | (intro r hr; simp only [List.mem_cons, List.not_mem_nil, or_false] at hr; first | (subst hr; rfl) | (rcases hr with rfl | rfl <;> rfl) | (rcases hr with rfl | rfl | rfl <;> rfl) | (rcases hr with rfl | rfl | rfl | rfl <;> rfl))
    | (refine And.intro ?_ ?_ <;> simp only [List.length_map, List.length_append, List.length_cons, List.length_nil] <;> omega))
  conv => whnf
  refine ⟨NameIx s, fun k => ⟨[(0, tS s), (3, tI .i64 (k.1 : Int))], [], []⟩, fun k => s.length - k.1, ⟨0, by omega, rfl⟩, ?_, ?_⟩
  · skip
    repeat' (
      (conv => whnf)
      first
      | refine Or.inl ?_
      | refine And.intro (Obl.out (?_ : Obl _)) ?_
      | refine ifB_intro (fun h => ?_) (fun h => ?_)
      | refine Exists.intro _ (And.intro rfl ?_)
      | ((with_reducible show _ = _); rfl))
    all_goals try (
      (with_reducible refine Obl.mk ?_)
      first
      | ((with_reducible show regOk _ _ = true); kernel_rfl)
      | ((with_reducible show eqTyOk _ _ = true); kernel_rfl)
      | rfl
      | exact trivial
      | ((repeat' (first | exact trivial | refine And.intro ?_ ?_)); done)
      | decide
      | (intro r hr; simp only [List.mem_cons, List.not_mem_nil, or_false] at hr; first | (subst hr; rfl) | (rcases hr with rfl | rfl <;> rfl) | (rcases hr with rfl | rfl | rfl <;> rfl) | (rcases hr with rfl | rfl | rfl | rfl <;> rfl))
      | (refine And.intro ?_ ?_ <;> simp only [List.length_map, List.length_append, List.length_cons, List.length_nil] <;> omega))
  intro ⟨k, hk, hp⟩
  dsimp only
  by_cases hlt : k < s.length
  · obtain ⟨b, hb⟩ := get_of_lt hlt
    have hbl := b.toNat_lt
    cases hlo : low b with
    | false =>
      rw [all_bad hb hlo]
      unfold low at hlo
      repeat' (
        (conv => whnf)
        first
        | refine Or.inl ?_
        | refine And.intro (Obl.out (?_ : Obl _)) ?_
        | refine ifB_intro (fun h => ?_) (fun h => ?_)
        | refine ⟨k, b, rfl, hb, ?_⟩
        | refine Exists.intro _ (And.intro rfl ?_)
        | ((with_reducible show _ = _); rfl))
      all_goals try (
        (with_reducible refine Obl.mk ?_)
        first
        | ((with_reducible show regOk _ _ = true); kernel_rfl)
        | ((with_reducible show eqTyOk _ _ = true); kernel_rfl)
        | rfl
        | exact trivial
        | ((repeat' (first | exact trivial | refine And.intro ?_ ?_)); done)
        | decide
        | (intro r hr; simp only [List.mem_cons, List.not_mem_nil, or_false] at hr; first | (subst hr; rfl) | (rcases hr with rfl | rfl <;> rfl) | (rcases hr with rfl | rfl | rfl <;> rfl) | (rcases hr with rfl | rfl | rfl | rfl <;> rfl))
        | (refine And.intro ?_ ?_ <;> simp only [List.length_map, List.length_append, List.length_cons, List.length_nil] <;> omega))
      all_goals try (exfalso; simp only [decide_eq_false_iff_not, decide_eq_true_eq] at *; omega)
      all_goals (exfalso; simp at *; omega)
    | true =>
      have hnx := all_take hp hb hlo
      unfold low at hlo
      repeat' (
        (conv => whnf)
        first
        | refine Or.inl ?_
        | refine And.intro (Obl.out (?_ : Obl _)) ?_
        | refine ifB_intro (fun h => ?_) (fun h => ?_)
        | refine ⟨k, b, rfl, hb, ?_⟩
        | refine Exists.intro _ (And.intro rfl ?_)
        | ((with_reducible show _ = _); rfl))
      all_goals try (
        (with_reducible refine Obl.mk ?_)
        first
        | ((with_reducible show regOk _ _ = true); kernel_rfl)
        | ((with_reducible show eqTyOk _ _ = true); kernel_rfl)
        | rfl
        | exact trivial
        | ((repeat' (first | exact trivial | refine And.intro ?_ ?_)); done)
        | decide
        | (intro r hr; simp only [List.mem_cons, List.not_mem_nil, or_false] at hr; first | (subst hr; rfl) | (rcases hr with rfl | rfl <;> rfl) | (rcases hr with rfl | rfl | rfl <;> rfl) | (rcases hr with rfl | rfl | rfl | rfl <;> rfl))
        | (refine And.intro ?_ ?_ <;> simp only [List.length_map, List.length_append, List.length_cons, List.length_nil] <;> omega))
      all_goals try (exfalso; simp only [decide_eq_false_iff_not, decide_eq_true_eq] at *; omega)
      all_goals try (exfalso; simp at *; omega)
      conv => whnf
      refine ⟨⟨k + 1, by omega, hnx⟩, ?_, by dsimp only; omega⟩
      repeat' (
        (conv => whnf)
        first
        | refine Or.inl ?_
        | refine And.intro (Obl.out (?_ : Obl _)) ?_
        | refine ifB_intro (fun h => ?_) (fun h => ?_)
        | refine Exists.intro _ (And.intro rfl ?_)
        | ((with_reducible show _ = _); rfl))
      all_goals try (
        (with_reducible refine Obl.mk ?_)
        first
        | ((with_reducible show regOk _ _ = true); kernel_rfl)
        | ((with_reducible show eqTyOk _ _ = true); kernel_rfl)
        | rfl
        | exact trivial
        | ((repeat' (first | exact trivial | refine And.intro ?_ ?_)); done)
        | decide
        | (intro r hr; simp only [List.mem_cons, List.not_mem_nil, or_false] at hr; first | (subst hr; rfl) | (rcases hr with rfl | rfl <;> rfl) | (rcases hr with rfl | rfl | rfl <;> rfl) | (rcases hr with rfl | rfl | rfl | rfl <;> rfl))
        | (refine And.intro ?_ ?_ <;> simp only [List.length_map, List.length_append, List.length_cons, List.length_nil] <;> omega))
      all_goals try exact ⟨by dsimp only; rw [IntWalk.i64_in _ (by omega)]; rfl⟩
  · have hge : s.length ≤ k := by omega
    rw [List.take_of_length_le hge] at hp
    rw [hp]
    repeat' (
      (conv => whnf)
      first
      | refine Or.inl ?_
      | refine And.intro (Obl.out (?_ : Obl _)) ?_
      | refine ifB_intro (fun h => ?_) (fun h => ?_)
      | refine call_intro (s_spec_l01In _ _ _) (And.intro rfl (And.intro rfl (And.intro rfl trivial))) ?_
      | refine Exists.intro _ (And.intro rfl ?_)
      | ((with_reducible show _ = _); rfl))
    all_goals try (
      (with_reducible refine Obl.mk ?_)
      first
      | ((with_reducible show regOk _ _ = true); kernel_rfl)
      | ((with_reducible show eqTyOk _ _ = true); kernel_rfl)
      | rfl
      | exact trivial
      | ((repeat' (first | exact trivial | refine And.intro ?_ ?_)); done)
      | decide
      | (intro r hr; simp only [List.mem_cons, List.not_mem_nil, or_false] at hr; first | (subst hr; rfl) | (rcases hr with rfl | rfl <;> rfl) | (rcases hr with rfl | rfl | rfl <;> rfl) | (rcases hr with rfl | rfl | rfl | rfl <;> rfl))
      | (refine And.intro ?_ ?_ <;> simp only [List.length_map, List.length_append, List.length_cons, List.length_nil] <;> omega))
    all_goals try (exfalso; simp only [decide_eq_false_iff_not, decide_eq_true_eq] at *; omega)
def inlineOk (x : TInline) : Bool := decide (0 ≤ x.fStart) && decide (x.fStart < x.fEnd) && decide (x.fEnd ≤ 1000000) && within x.fLevel 0 2 && within x.fLine 0 59 && nameOk x.fName
theorem s_impl_inlineOk (x : TInline) (hl : x.fName.length ≤ 1099511627775) : Sim.Spec Try.prog 239 [.agg x.tr] (rB (inlineOk x)) := by
  refine spec_of_W hΓ hmix Try.func239 rfl (by decide) rfl ?_
  unfold inlineOk
  have hn := s_impl_NameOk x.fName hl
  generalize nameOk x.fName = nb at *
  repeat' (
    (conv => whnf)
    first
    | refine Or.inl ?_
    | refine And.intro (Obl.out (?_ : Obl _)) ?_
    | refine ifB_intro (fun h => ?_) (fun h => ?_)
    | refine call_intro (s_impl_between _ _ _) (And.intro rfl (And.intro rfl (And.intro rfl trivial))) ?_
    | refine call_intro (hn) (And.intro rfl trivial) ?_
    | refine Exists.intro _ (And.intro rfl ?_)
    | ((with_reducible show _ = _); rfl))
  all_goals try (
    (with_reducible refine Obl.mk ?_)
    first
    | ((with_reducible show regOk _ _ = true); kernel_rfl)
    | ((with_reducible show eqTyOk _ _ = true); kernel_rfl)
    | rfl
    | exact trivial
    | ((repeat' (first | exact trivial | refine And.intro ?_ ?_)); done)
    | decide
    | (intro r hr; simp only [List.mem_cons, List.not_mem_nil, or_false] at hr; first | (subst hr; rfl) | (rcases hr with rfl | rfl <;> rfl) | (rcases hr with rfl | rfl | rfl <;> rfl) | (rcases hr with rfl | rfl | rfl | rfl <;> rfl))
    | (refine And.intro ?_ ?_ <;> simp only [List.length_map, List.length_append, List.length_cons, List.length_nil] <;> omega))
  all_goals (refine ⟨congrArg Tr.bool ?_⟩; simp_all; try (intros; omega))
def holds (x y : TInline) : Bool := (y.fLevel == x.fLevel - 1) && decide (y.fStart ≤ x.fStart) && decide (x.fEnd ≤ y.fEnd)
def behind (p : Option TInline) (x : TInline) : Prop := match p with
  | none => True
  | some p => p.fLevel ≤ x.fLevel ∧ (p.fLevel = x.fLevel → p.fEnd ≤ x.fStart)
instance (p : Option TInline) (x : TInline) : Decidable (behind p x) := by unfold behind; cases p <;> infer_instance
def inlOkAt (pre : List TInline) (x : TInline) : Bool := inlineOk x && decide (behind pre.getLast? x) && (x.fLevel == 0 || pre.any (holds x))
def inlinesOkF : List TInline → List TInline → Bool
  | _, [] => true
  | pre, x :: l => if inlOkAt pre x = true then inlinesOkF (pre ++ [x]) l else false
def inlinesOk (l : List TInline) : Bool := inlinesOkF [] l
theorem inlinesOk_at {l : List TInline} {k : Nat} {x : TInline} (hx : l[k]? = some x) : inlinesOkF (l.take k) (l.drop k) = if inlOkAt (l.take k) x = true then inlinesOkF (l.take (k + 1)) (l.drop (k + 1)) else false := by
  rw [drop_at hx, inlinesOkF]
  congr 2
  rw [List.take_add_one, hx]
  rfl
theorem last_take {l : List TInline} {k : Nat} (hk : k ≤ l.length) : (l.take k).getLast? = if k = 0 then none else l[k - 1]? := by
  rw [List.getLast?_eq_getElem?, List.length_take, Nat.min_eq_left hk]
  split
  · subst k; simp
  · rw [List.getElem?_take, if_pos (by omega)]
abbrev InlIx (l : List TInline) (R : Bool) := { k : Nat // k ≤ l.length ∧ inlinesOkF (l.take k) (l.drop k) = R }
abbrev InIx (l : List TInline) (k : Nat) (x : TInline) (W : Bool) := { q : Nat × Bool // q.1 ≤ k ∧ (q.2 || ((l.take k).drop q.1).any (holds x)) = W }
theorem any_at {l : List TInline} {k j : Nat} {x y : TInline} {b : Bool} (hj : j < k) (hy : l[j]? = some y) : (b || ((l.take k).drop j).any (holds x)) = ((b || holds x y) || ((l.take k).drop (j + 1)).any (holds x)) := by
  rw [drop_at (x := y) (by rw [List.getElem?_take, if_pos hj]; exact hy), List.any_cons, Bool.or_assoc]
theorem s_impl_InlinesOk (l : List TInline) (hl : l.length ≤ 1048576) (hn : ∀ x ∈ l, x.fName.length ≤ 1099511627775) : Sim.Spec Try.prog 177 [tvL 5 (l.map TInline.tr)] (rB (inlinesOk l)) := by
  refine spec_of_W hΓ hmix Try.func177 rfl (by decide) rfl ?_
  have hlen : (l.map TInline.tr).length = l.length := by simp
  obtain ⟨R, hR⟩ : ∃ R, inlinesOk l = R := ⟨_, rfl⟩
  rw [hR]
  repeat' (
    (conv => whnf)
    first
    | refine Or.inl ?_
    | refine And.intro (Obl.out (?_ : Obl _)) ?_
    | refine ifB_intro (fun h => ?_) (fun h => ?_)
    | refine Exists.intro _ (And.intro rfl ?_)
    | ((with_reducible show _ = _); rfl))
  all_goals try (
    (with_reducible refine Obl.mk ?_)
    first
    | ((with_reducible show regOk _ _ = true); kernel_rfl)
    | ((with_reducible show eqTyOk _ _ = true); kernel_rfl)
    | rfl
    | exact trivial
    | ((repeat' (first | exact trivial | refine And.intro ?_ ?_)); done)
    | decide
    | (intro r hr; simp only [List.mem_cons, List.not_mem_nil, or_false] at hr; first | (subst hr; rfl) | (rcases hr with rfl | rfl <;> rfl) | (rcases hr with rfl | rfl | rfl <;> rfl) | (rcases hr with rfl | rfl | rfl | rfl <;> rfl))
    | (refine And.intro ?_ ?_ <;> simp only [List.length_map, List.length_append, List.length_cons, List.length_nil] <;> omega))
  conv => whnf
  refine ⟨InlIx l R, fun k => ⟨[(0, .r (.c (.t (.lst 5 (l.map TInline.tr))))), (8, .r (.c (.t (.lst 5 (l.map TInline.tr))))), (9, tI .i64 ((l.map TInline.tr).length : Int)), (10, tI .i64 (k.1 : Int))], [], []⟩, fun k => l.length - k.1, ⟨0, by omega, hR⟩, ?_, ?_⟩
  · skip
    repeat' (
      (conv => whnf)
      first
      | refine Or.inl ?_
      | refine And.intro (Obl.out (?_ : Obl _)) ?_
      | refine ifB_intro (fun h => ?_) (fun h => ?_)
      | refine Exists.intro _ (And.intro rfl ?_)
      | ((with_reducible show _ = _); rfl))
    all_goals try (
      (with_reducible refine Obl.mk ?_)
      first
      | ((with_reducible show regOk _ _ = true); kernel_rfl)
      | ((with_reducible show eqTyOk _ _ = true); kernel_rfl)
      | rfl
      | exact trivial
      | ((repeat' (first | exact trivial | refine And.intro ?_ ?_)); done)
      | decide
      | (intro r hr; simp only [List.mem_cons, List.not_mem_nil, or_false] at hr; first | (subst hr; rfl) | (rcases hr with rfl | rfl <;> rfl) | (rcases hr with rfl | rfl | rfl <;> rfl) | (rcases hr with rfl | rfl | rfl | rfl <;> rfl))
      | (refine And.intro ?_ ?_ <;> simp only [List.length_map, List.length_append, List.length_cons, List.length_nil] <;> omega))
  intro ⟨k, hk, hr⟩
  dsimp only
  by_cases hlt : k < l.length
  · obtain ⟨x, hx⟩ := get_of_lt hlt
    rw [inlinesOk_at hx] at hr
    have hi := s_impl_inlineOk x (hn x (List.mem_of_getElem? hx))
    have hw : 0 < k → IntKind.i64.wrap (↑k - 1) = ((k - 1 : Nat) : Int) := fun h => by rw [IntWalk.i64_in _ (by omega)]; omega
    have hlast := last_take hk
    have htk : ((l.map TInline.tr).take k).length = k := by simp; omega
    cases hio : inlineOk x with
    | false =>
      rw [hio] at hi
      rw [if_neg (by unfold inlOkAt; rw [hio]; simp)] at hr
      subst hr
      repeat' (
        (conv => whnf)
        first
        | refine Or.inl ?_
        | refine And.intro (Obl.out (?_ : Obl _)) ?_
        | refine ifB_intro (fun h => ?_) (fun h => ?_)
        | refine ⟨k, x.tr, rfl, map_get hx, ?_⟩
        | refine call_intro (hi) (And.intro (And.intro rfl (And.intro rfl (And.intro rfl (And.intro rfl (And.intro rfl trivial))))) trivial) ?_
        | refine Exists.intro _ (And.intro rfl ?_)
        | ((with_reducible show _ = _); rfl))
      all_goals try (
        (with_reducible refine Obl.mk ?_)
        first
        | ((with_reducible show regOk _ _ = true); kernel_rfl)
        | ((with_reducible show eqTyOk _ _ = true); kernel_rfl)
        | rfl
        | exact trivial
        | ((repeat' (first | exact trivial | refine And.intro ?_ ?_)); done)
        | decide
        | (intro r hr; simp only [List.mem_cons, List.not_mem_nil, or_false] at hr; first | (subst hr; rfl) | (rcases hr with rfl | rfl <;> rfl) | (rcases hr with rfl | rfl | rfl <;> rfl) | (rcases hr with rfl | rfl | rfl | rfl <;> rfl))
        | (refine And.intro ?_ ?_ <;> simp only [List.length_map, List.length_append, List.length_cons, List.length_nil] <;> omega))
      all_goals try (exfalso; simp only [decide_eq_false_iff_not, decide_eq_true_eq] at *; omega)
    | true =>
      rw [hio] at hi
      by_cases hbh : behind (l.take k).getLast? x
      · have hcond : k = 0 ∨ (∃ p, 0 < k ∧ l[k - 1]? = some p ∧ p.fLevel < x.fLevel) ∨ (∃ p, 0 < k ∧ l[k - 1]? = some p ∧ p.fLevel = x.fLevel ∧ p.fEnd ≤ x.fStart) := by
          by_cases hk0 : k = 0
          · exact .inl hk0
          · obtain ⟨p, hp⟩ := get_of_lt (l := l) (k := k - 1) (by omega)
            rw [hlast, if_neg hk0, hp] at hbh
            by_cases he : p.fLevel = x.fLevel
            · exact .inr (.inr ⟨p, by omega, hp, he, hbh.2 he⟩)
            · exact .inr (.inl ⟨p, by omega, hp, by have := hbh.1; omega⟩)
        have hlv : 0 ≤ x.fLevel ∧ x.fLevel ≤ 2 := by
          unfold inlineOk at hio
          simp only [Bool.and_eq_true] at hio
          exact within_iff.1 hio.1.1.2
        have hwl : IntKind.i64.wrap (x.fLevel - 1) = x.fLevel - 1 := IntWalk.i64_in _ (by omega)
        have hok : inlOkAt (l.take k) x = (x.fLevel == 0 || (l.take k).any (holds x)) := by unfold inlOkAt; rw [hio, decide_eq_true hbh]; simp
        rw [hok] at hr
        obtain ⟨W, hW⟩ : ∃ W, (x.fLevel == 0 || (l.take k).any (holds x)) = W := ⟨_, rfl⟩
        rw [hW] at hr
        have hlk : (((l.map TInline.tr).take k).drop 0).length = k := by simp; omega
        rcases hcond with hk0 | ⟨p, hk0, hp, hb1⟩ | ⟨p, hk0, hp, hb1, hb2⟩
        all_goals
          repeat' (
            (conv => whnf)
            first
            | refine Or.inl ?_
            | refine And.intro (Obl.out (?_ : Obl _)) ?_
            | refine ifB_intro (fun h => ?_) (fun h => ?_)
            | refine ⟨k, x.tr, rfl, map_get hx, ?_⟩
            | refine ⟨(k - 1), p.tr, hw hk0, map_get hp, ?_⟩
            | refine call_intro (hi) (And.intro (And.intro rfl (And.intro rfl (And.intro rfl (And.intro rfl (And.intro rfl trivial))))) trivial) ?_
            | refine Exists.intro _ (And.intro rfl ?_)
            | ((with_reducible show _ = _); rfl))
          all_goals try (
            (with_reducible refine Obl.mk ?_)
            first
            | ((with_reducible show regOk _ _ = true); kernel_rfl)
            | ((with_reducible show eqTyOk _ _ = true); kernel_rfl)
            | rfl
            | exact trivial
            | ((repeat' (first | exact trivial | refine And.intro ?_ ?_)); done)
            | decide
            | (intro r hr; simp only [List.mem_cons, List.not_mem_nil, or_false] at hr; first | (subst hr; rfl) | (rcases hr with rfl | rfl <;> rfl) | (rcases hr with rfl | rfl | rfl <;> rfl) | (rcases hr with rfl | rfl | rfl | rfl <;> rfl))
            | (refine And.intro ?_ ?_ <;> simp only [List.length_map, List.length_append, List.length_cons, List.length_nil] <;> omega))
          all_goals try (exfalso; simp only [decide_eq_false_iff_not, decide_eq_true_eq] at *; omega)
          all_goals try (exfalso; (try simp_all [within]); (try omega); done)
          conv => whnf
          refine ⟨0, k, rfl, rfl, by omega, by omega, ?_⟩
          repeat' (
            (conv => whnf)
            first
            | refine Or.inl ?_
            | refine And.intro (Obl.out (?_ : Obl _)) ?_
            | refine ifB_intro (fun h => ?_) (fun h => ?_)
            | refine Exists.intro _ (And.intro rfl ?_)
            | ((with_reducible show _ = _); rfl))
          all_goals try (
            (with_reducible refine Obl.mk ?_)
            first
            | ((with_reducible show regOk _ _ = true); kernel_rfl)
            | ((with_reducible show eqTyOk _ _ = true); kernel_rfl)
            | rfl
            | exact trivial
            | ((repeat' (first | exact trivial | refine And.intro ?_ ?_)); done)
            | decide
            | (intro r hr; simp only [List.mem_cons, List.not_mem_nil, or_false] at hr; first | (subst hr; rfl) | (rcases hr with rfl | rfl <;> rfl) | (rcases hr with rfl | rfl | rfl <;> rfl) | (rcases hr with rfl | rfl | rfl | rfl <;> rfl))
            | (refine And.intro ?_ ?_ <;> simp only [List.length_map, List.length_append, List.length_cons, List.length_nil] <;> omega))
          conv => whnf
          refine ⟨InIx l k x W, fun q => ⟨[(0, .r (.c (.t (.lst 5 (l.map TInline.tr))))), (8, .r (.c (.t (.lst 5 (l.map TInline.tr))))), (9, tI .i64 ((l.map TInline.tr).length : Int)), (10, tI .i64 (k : Int)), (4, .r (.c (.ptr (4, 0, 0) 0))), (5, tB q.1.2), (60, .r (.c (.t (.lst 5 (((l.map TInline.tr).take k).drop 0))))), (61, tI .i64 ((((l.map TInline.tr).take k).drop 0).length : Int)), (62, tI .i64 (q.1.1 : Int))], [((4, 0, 0), some (.box (x.tr.map .t)))], [4]⟩, fun q => k - q.1.1, ⟨(0, x.fLevel == 0), by simp, by simpa using hW⟩, ?_, ?_⟩
          · skip
            repeat' (
              (conv => whnf)
              first
              | refine Or.inl ?_
              | refine And.intro (Obl.out (?_ : Obl _)) ?_
              | refine ifB_intro (fun h => ?_) (fun h => ?_)
              | refine Exists.intro _ (And.intro rfl ?_)
              | ((with_reducible show _ = _); rfl))
            all_goals try (
              (with_reducible refine Obl.mk ?_)
              first
              | ((with_reducible show regOk _ _ = true); kernel_rfl)
              | ((with_reducible show eqTyOk _ _ = true); kernel_rfl)
              | rfl
              | exact trivial
              | ((repeat' (first | exact trivial | refine And.intro ?_ ?_)); done)
              | decide
              | (intro r hr; simp only [List.mem_cons, List.not_mem_nil, or_false] at hr; first | (subst hr; rfl) | (rcases hr with rfl | rfl <;> rfl) | (rcases hr with rfl | rfl | rfl <;> rfl) | (rcases hr with rfl | rfl | rfl | rfl <;> rfl))
              | (refine And.intro ?_ ?_ <;> simp only [List.length_map, List.length_append, List.length_cons, List.length_nil] <;> omega))
          intro ⟨⟨j, b⟩, hj, hwi⟩
          dsimp only at hj hwi ⊢
          by_cases hjk : j < k
          · obtain ⟨y, hy⟩ := get_of_lt (l := l) (k := j) (by omega)
            have hy' : (((l.map TInline.tr).take k).drop 0)[j]? = some y.tr := by rw [List.drop_zero, List.getElem?_take, if_pos hjk]; exact map_get hy
            rw [any_at hjk hy] at hwi
            repeat' (
              (conv => whnf)
              first
              | refine Or.inl ?_
              | refine And.intro (Obl.out (?_ : Obl _)) ?_
              | refine ifB_intro (fun h => ?_) (fun h => ?_)
              | refine ⟨j, y.tr, rfl, hy', ?_⟩
              | refine Exists.intro _ (And.intro rfl ?_)
              | ((with_reducible show _ = _); rfl))
            all_goals try (
              (with_reducible refine Obl.mk ?_)
              first
              | ((with_reducible show regOk _ _ = true); kernel_rfl)
              | ((with_reducible show eqTyOk _ _ = true); kernel_rfl)
              | rfl
              | exact trivial
              | ((repeat' (first | exact trivial | refine And.intro ?_ ?_)); done)
              | decide
              | (intro r hr; simp only [List.mem_cons, List.not_mem_nil, or_false] at hr; first | (subst hr; rfl) | (rcases hr with rfl | rfl <;> rfl) | (rcases hr with rfl | rfl | rfl <;> rfl) | (rcases hr with rfl | rfl | rfl | rfl <;> rfl))
              | (refine And.intro ?_ ?_ <;> simp only [List.length_map, List.length_append, List.length_cons, List.length_nil] <;> omega))
            all_goals try (exfalso; simp only [decide_eq_false_iff_not, decide_eq_true_eq] at *; omega)
            all_goals
              conv => whnf
              refine ⟨⟨(j + 1, b || holds x y), by dsimp only; omega, hwi⟩, ?_, by dsimp only; omega⟩
              repeat' (
                (conv => whnf)
                first
                | refine Or.inl ?_
                | refine And.intro (Obl.out (?_ : Obl _)) ?_
                | refine ifB_intro (fun h => ?_) (fun h => ?_)
                | refine Exists.intro _ (And.intro rfl ?_)
                | ((with_reducible show _ = _); rfl))
              all_goals try (
                (with_reducible refine Obl.mk ?_)
                first
                | ((with_reducible show regOk _ _ = true); kernel_rfl)
                | ((with_reducible show eqTyOk _ _ = true); kernel_rfl)
                | rfl
                | exact trivial
                | ((repeat' (first | exact trivial | refine And.intro ?_ ?_)); done)
                | decide
                | (intro r hr; simp only [List.mem_cons, List.not_mem_nil, or_false] at hr; first | (subst hr; rfl) | (rcases hr with rfl | rfl <;> rfl) | (rcases hr with rfl | rfl | rfl <;> rfl) | (rcases hr with rfl | rfl | rfl | rfl <;> rfl))
                | (refine And.intro ?_ ?_ <;> simp only [List.length_map, List.length_append, List.length_cons, List.length_nil] <;> omega))
              all_goals try exact ⟨by dsimp only; rw [IntWalk.i64_in _ (by omega)]; rfl⟩
              all_goals try (
                refine ⟨congrArg Tr.bool ?_⟩
                unfold holds
                simp_all
                try (intros; omega)
                done)
          · have hge : k ≤ j := by omega
            rw [List.drop_eq_nil_of_le (by simp; omega), List.any_nil, Bool.or_false] at hwi
            subst hwi
            cases b with
            | false =>
              rw [if_neg (by simp)] at hr
              subst hr
              repeat' (
                (conv => whnf)
                first
                | refine Or.inl ?_
                | refine And.intro (Obl.out (?_ : Obl _)) ?_
                | refine ifB_intro (fun h => ?_) (fun h => ?_)
                | refine Exists.intro _ (And.intro rfl ?_)
                | ((with_reducible show _ = _); rfl))
              all_goals try (
                (with_reducible refine Obl.mk ?_)
                first
                | ((with_reducible show regOk _ _ = true); kernel_rfl)
                | ((with_reducible show eqTyOk _ _ = true); kernel_rfl)
                | rfl
                | exact trivial
                | ((repeat' (first | exact trivial | refine And.intro ?_ ?_)); done)
                | decide
                | (intro r hr; simp only [List.mem_cons, List.not_mem_nil, or_false] at hr; first | (subst hr; rfl) | (rcases hr with rfl | rfl <;> rfl) | (rcases hr with rfl | rfl | rfl <;> rfl) | (rcases hr with rfl | rfl | rfl | rfl <;> rfl))
                | (refine And.intro ?_ ?_ <;> simp only [List.length_map, List.length_append, List.length_cons, List.length_nil] <;> omega))
              all_goals try (exfalso; simp only [decide_eq_false_iff_not, decide_eq_true_eq] at *; omega)
              all_goals try (exfalso; (try simp_all [within]); (try omega); done)
            | true =>
              rw [if_pos rfl] at hr
              repeat' (
                (conv => whnf)
                first
                | refine Or.inl ?_
                | refine And.intro (Obl.out (?_ : Obl _)) ?_
                | refine ifB_intro (fun h => ?_) (fun h => ?_)
                | refine Exists.intro _ (And.intro rfl ?_)
                | ((with_reducible show _ = _); rfl))
              all_goals try (
                (with_reducible refine Obl.mk ?_)
                first
                | ((with_reducible show regOk _ _ = true); kernel_rfl)
                | ((with_reducible show eqTyOk _ _ = true); kernel_rfl)
                | rfl
                | exact trivial
                | ((repeat' (first | exact trivial | refine And.intro ?_ ?_)); done)
                | decide
                | (intro r hr; simp only [List.mem_cons, List.not_mem_nil, or_false] at hr; first | (subst hr; rfl) | (rcases hr with rfl | rfl <;> rfl) | (rcases hr with rfl | rfl | rfl <;> rfl) | (rcases hr with rfl | rfl | rfl | rfl <;> rfl))
                | (refine And.intro ?_ ?_ <;> simp only [List.length_map, List.length_append, List.length_cons, List.length_nil] <;> omega))
              all_goals try (exfalso; simp only [decide_eq_false_iff_not, decide_eq_true_eq] at *; omega)
              all_goals try (exfalso; (try simp_all [within]); (try omega); done)
              conv => whnf
              refine ⟨⟨k + 1, by omega, hr⟩, ?_, by dsimp only; omega⟩
              repeat' (
                (conv => whnf)
                first
                | refine Or.inl ?_
                | refine And.intro (Obl.out (?_ : Obl _)) ?_
                | refine ifB_intro (fun h => ?_) (fun h => ?_)
                | refine Exists.intro _ (And.intro rfl ?_)
                | ((with_reducible show _ = _); rfl))
              all_goals try (
                (with_reducible refine Obl.mk ?_)
                first
                | ((with_reducible show regOk _ _ = true); kernel_rfl)
                | ((with_reducible show eqTyOk _ _ = true); kernel_rfl)
                | rfl
                | exact trivial
                | ((repeat' (first | exact trivial | refine And.intro ?_ ?_)); done)
                | decide
                | (intro r hr; simp only [List.mem_cons, List.not_mem_nil, or_false] at hr; first | (subst hr; rfl) | (rcases hr with rfl | rfl <;> rfl) | (rcases hr with rfl | rfl | rfl <;> rfl) | (rcases hr with rfl | rfl | rfl | rfl <;> rfl))
                | (refine And.intro ?_ ?_ <;> simp only [List.length_map, List.length_append, List.length_cons, List.length_nil] <;> omega))
              all_goals try exact ⟨by dsimp only; rw [IntWalk.i64_in _ (by omega)]; rfl⟩
      · have hk0 : 0 < k := by
          rcases Nat.eq_zero_or_pos k with h | h
          · rw [hlast, if_pos h] at hbh
            exact absurd trivial hbh
          · exact h
        obtain ⟨p, hp⟩ := get_of_lt (l := l) (k := k - 1) (by omega)
        rw [if_neg (by unfold inlOkAt; rw [decide_eq_false hbh]; simp)] at hr
        rw [hlast, if_neg (by omega), hp] at hbh
        subst hr
        unfold behind at hbh
        dsimp only at hbh
        by_cases he : p.fLevel = x.fLevel
        all_goals
          repeat' (
            (conv => whnf)
            first
            | refine Or.inl ?_
            | refine And.intro (Obl.out (?_ : Obl _)) ?_
            | refine ifB_intro (fun h => ?_) (fun h => ?_)
            | refine ⟨k, x.tr, rfl, map_get hx, ?_⟩
            | refine ⟨(k - 1), p.tr, hw hk0, map_get hp, ?_⟩
            | refine call_intro (hi) (And.intro (And.intro rfl (And.intro rfl (And.intro rfl (And.intro rfl (And.intro rfl trivial))))) trivial) ?_
            | refine Exists.intro _ (And.intro rfl ?_)
            | ((with_reducible show _ = _); rfl))
          all_goals try (
            (with_reducible refine Obl.mk ?_)
            first
            | ((with_reducible show regOk _ _ = true); kernel_rfl)
            | ((with_reducible show eqTyOk _ _ = true); kernel_rfl)
            | rfl
            | exact trivial
            | ((repeat' (first | exact trivial | refine And.intro ?_ ?_)); done)
            | decide
            | (intro r hr; simp only [List.mem_cons, List.not_mem_nil, or_false] at hr; first | (subst hr; rfl) | (rcases hr with rfl | rfl <;> rfl) | (rcases hr with rfl | rfl | rfl <;> rfl) | (rcases hr with rfl | rfl | rfl | rfl <;> rfl))
            | (refine And.intro ?_ ?_ <;> simp only [List.length_map, List.length_append, List.length_cons, List.length_nil] <;> omega))
          all_goals try (exfalso; simp only [decide_eq_false_iff_not, decide_eq_true_eq] at *; omega)
          all_goals try (exfalso; (try simp_all [within]); (try omega); done)
          all_goals try (exfalso; apply hbh; (try simp_all [within]); (try omega); done)
  · have hge : l.length ≤ k := by omega
    rw [List.drop_eq_nil_of_le hge, inlinesOkF] at hr
    subst hr
    repeat' (
      (conv => whnf)
      first
      | refine Or.inl ?_
      | refine And.intro (Obl.out (?_ : Obl _)) ?_
      | refine ifB_intro (fun h => ?_) (fun h => ?_)
      | refine Exists.intro _ (And.intro rfl ?_)
      | ((with_reducible show _ = _); rfl))
    all_goals try (
      (with_reducible refine Obl.mk ?_)
      first
      | ((with_reducible show regOk _ _ = true); kernel_rfl)
      | ((with_reducible show eqTyOk _ _ = true); kernel_rfl)
      | rfl
      | exact trivial
      | ((repeat' (first | exact trivial | refine And.intro ?_ ?_)); done)
      | decide
      | (intro r hr; simp only [List.mem_cons, List.not_mem_nil, or_false] at hr; first | (subst hr; rfl) | (rcases hr with rfl | rfl <;> rfl) | (rcases hr with rfl | rfl | rfl <;> rfl) | (rcases hr with rfl | rfl | rfl | rfl <;> rfl))
      | (refine And.intro ?_ ?_ <;> simp only [List.length_map, List.length_append, List.length_cons, List.length_nil] <;> omega))
    all_goals try (exfalso; simp only [decide_eq_false_iff_not, decide_eq_true_eq] at *; omega)
theorem s_spec_InlinesOk (l : List TInline) (hl : l.length ≤ 1048576) (hn : ∀ x ∈ l, x.fName.length ≤ 1099511627775) : Sim.Spec Try.prog 164 [tvL 5 (l.map TInline.tr)] (rB (inlinesOk l)) := by
  refine spec_of_W hΓ hmix Try.func164 rfl (by decide) rfl ?_
  have hlen : (l.map TInline.tr).length = l.length := by simp
  obtain ⟨R, hR⟩ : ∃ R, inlinesOk l = R := ⟨_, rfl⟩
  rw [hR]
  repeat' (
    (conv => whnf)
    first
    | refine Or.inl ?_
    | refine And.intro (Obl.out (?_ : Obl _)) ?_
    | refine ifB_intro (fun h => ?_) (fun h => ?_)
    | refine Exists.intro _ (And.intro rfl ?_)
    | ((with_reducible show _ = _); rfl))
  all_goals try (
    (with_reducible refine Obl.mk ?_)
    first
    | ((with_reducible show regOk _ _ = true); kernel_rfl)
    | ((with_reducible show eqTyOk _ _ = true); kernel_rfl)
    | rfl
    | exact trivial
    | ((repeat' (first | exact trivial | refine And.intro ?_ ?_)); done)
    | decide
    | (intro r hr; simp only [List.mem_cons, List.not_mem_nil, or_false] at hr; first | (subst hr; rfl) | (rcases hr with rfl | rfl <;> rfl) | (rcases hr with rfl | rfl | rfl <;> rfl) | (rcases hr with rfl | rfl | rfl | rfl <;> rfl))
    | (refine And.intro ?_ ?_ <;> simp only [List.length_map, List.length_append, List.length_cons, List.length_nil] <;> omega))
  conv => whnf
  refine ⟨InlIx l R, fun k => ⟨[(0, .r (.c (.t (.lst 5 (l.map TInline.tr))))), (3, tI .i64 (k.1 : Int))], [], []⟩, fun k => l.length - k.1, ⟨0, by omega, hR⟩, ?_, ?_⟩
  · skip
    repeat' (
      (conv => whnf)
      first
      | refine Or.inl ?_
      | refine And.intro (Obl.out (?_ : Obl _)) ?_
      | refine ifB_intro (fun h => ?_) (fun h => ?_)
      | refine Exists.intro _ (And.intro rfl ?_)
      | ((with_reducible show _ = _); rfl))
    all_goals try (
      (with_reducible refine Obl.mk ?_)
      first
      | ((with_reducible show regOk _ _ = true); kernel_rfl)
      | ((with_reducible show eqTyOk _ _ = true); kernel_rfl)
      | rfl
      | exact trivial
      | ((repeat' (first | exact trivial | refine And.intro ?_ ?_)); done)
      | decide
      | (intro r hr; simp only [List.mem_cons, List.not_mem_nil, or_false] at hr; first | (subst hr; rfl) | (rcases hr with rfl | rfl <;> rfl) | (rcases hr with rfl | rfl | rfl <;> rfl) | (rcases hr with rfl | rfl | rfl | rfl <;> rfl))
      | (refine And.intro ?_ ?_ <;> simp only [List.length_map, List.length_append, List.length_cons, List.length_nil] <;> omega))
  intro ⟨k, hk, hr⟩
  dsimp only
  by_cases hlt : k < l.length
  · obtain ⟨x, hx⟩ := get_of_lt hlt
    rw [inlinesOk_at hx] at hr
    have hi := s_spec_NameOk x.fName (hn x (List.mem_of_getElem? hx))
    have hw : 0 < k → IntKind.i64.wrap (↑k - 1) = ((k - 1 : Nat) : Int) := fun h => by rw [IntWalk.i64_in _ (by omega)]; omega
    have hlast := last_take hk
    cases hio : inlineOk x with
    | false =>
      rw [if_neg (by unfold inlOkAt; rw [hio]; simp)] at hr
      subst hr
      unfold inlineOk at hio
      generalize nameOk x.fName = nb at *
      repeat' (
        (conv => whnf)
        first
        | refine Or.inl ?_
        | refine And.intro (Obl.out (?_ : Obl _)) ?_
        | refine ifB_intro (fun h => ?_) (fun h => ?_)
        | refine ⟨k, x.tr, rfl, map_get hx, ?_⟩
        | refine call_intro (hi) (And.intro rfl trivial) ?_
        | refine call_intro (s_spec_l01In _ _ _) (And.intro rfl (And.intro rfl (And.intro rfl trivial))) ?_
        | refine Exists.intro _ (And.intro rfl ?_)
        | ((with_reducible show _ = _); rfl))
      all_goals try (
        (with_reducible refine Obl.mk ?_)
        first
        | ((with_reducible show regOk _ _ = true); kernel_rfl)
        | ((with_reducible show eqTyOk _ _ = true); kernel_rfl)
        | rfl
        | exact trivial
        | ((repeat' (first | exact trivial | refine And.intro ?_ ?_)); done)
        | decide
        | (intro r hr; simp only [List.mem_cons, List.not_mem_nil, or_false] at hr; first | (subst hr; rfl) | (rcases hr with rfl | rfl <;> rfl) | (rcases hr with rfl | rfl | rfl <;> rfl) | (rcases hr with rfl | rfl | rfl | rfl <;> rfl))
        | (refine And.intro ?_ ?_ <;> simp only [List.length_map, List.length_append, List.length_cons, List.length_nil] <;> omega))
      all_goals try (exfalso; simp only [decide_eq_false_iff_not, decide_eq_true_eq] at *; omega)
      all_goals (exfalso; simp_all; try (have := hio (by omega) (by omega) (by omega); simp_all))
    | true =>
      by_cases hbh : behind (l.take k).getLast? x
      · have hcond : k = 0 ∨ (∃ p, 0 < k ∧ l[k - 1]? = some p ∧ p.fLevel < x.fLevel) ∨ (∃ p, 0 < k ∧ l[k - 1]? = some p ∧ p.fLevel = x.fLevel ∧ p.fEnd ≤ x.fStart) := by
          by_cases hk0 : k = 0
          · exact .inl hk0
          · obtain ⟨p, hp⟩ := get_of_lt (l := l) (k := k - 1) (by omega)
            rw [hlast, if_neg hk0, hp] at hbh
            by_cases he : p.fLevel = x.fLevel
            · exact .inr (.inr ⟨p, by omega, hp, he, hbh.2 he⟩)
            · exact .inr (.inl ⟨p, by omega, hp, by have := hbh.1; omega⟩)
        have hok : inlOkAt (l.take k) x = (x.fLevel == 0 || (l.take k).any (holds x)) := by unfold inlOkAt; rw [hio, decide_eq_true hbh]; simp
        rw [hok] at hr
        obtain ⟨W, hW⟩ : ∃ W, (x.fLevel == 0 || (l.take k).any (holds x)) = W := ⟨_, rfl⟩
        rw [hW] at hr
        unfold inlineOk at hio
        simp only [Bool.and_eq_true, decide_eq_true_eq] at hio
        obtain ⟨⟨⟨⟨⟨i1, i2⟩, i3⟩, i4⟩, i5⟩, i6⟩ := hio
        have hlv := within_iff.1 i4
        have hwl : IntKind.i64.wrap (x.fLevel - 1) = x.fLevel - 1 := IntWalk.i64_in _ (by omega)
        have hc1 := s_spec_l01In x.fLevel 0 2
        have hc2 := s_spec_l01In x.fLine 0 59
        rw [i4] at hc1
        rw [i5] at hc2
        rw [i6] at hi
        rcases hcond with hk0 | ⟨p, hk0, hp, hb1⟩ | ⟨p, hk0, hp, hb1, hb2⟩
        all_goals
          repeat' (
            (conv => whnf)
            first
            | refine Or.inl ?_
            | refine And.intro (Obl.out (?_ : Obl _)) ?_
            | refine ifB_intro (fun h => ?_) (fun h => ?_)
            | refine ⟨k, x.tr, rfl, map_get hx, ?_⟩
            | refine ⟨(k - 1), p.tr, hw hk0, map_get hp, ?_⟩
            | refine call_intro (hi) (And.intro rfl trivial) ?_
            | refine call_intro (hc1) (And.intro rfl (And.intro rfl (And.intro rfl trivial))) ?_
            | refine call_intro (hc2) (And.intro rfl (And.intro rfl (And.intro rfl trivial))) ?_
            | refine Exists.intro _ (And.intro rfl ?_)
            | ((with_reducible show _ = _); rfl))
          all_goals try (
            (with_reducible refine Obl.mk ?_)
            first
            | ((with_reducible show regOk _ _ = true); kernel_rfl)
            | ((with_reducible show eqTyOk _ _ = true); kernel_rfl)
            | rfl
            | exact trivial
            | ((repeat' (first | exact trivial | refine And.intro ?_ ?_)); done)
            | decide
            | (intro r hr; simp only [List.mem_cons, List.not_mem_nil, or_false] at hr; first | (subst hr; rfl) | (rcases hr with rfl | rfl <;> rfl) | (rcases hr with rfl | rfl | rfl <;> rfl) | (rcases hr with rfl | rfl | rfl | rfl <;> rfl))
            | (refine And.intro ?_ ?_ <;> simp only [List.length_map, List.length_append, List.length_cons, List.length_nil] <;> omega))
          all_goals try (exfalso; simp only [decide_eq_false_iff_not, decide_eq_true_eq] at *; omega)
          all_goals try (exfalso; (try simp_all [within]); (try omega); done)
          conv => whnf
          refine ⟨InIx l k x W, fun q => ⟨[(0, .r (.c (.t (.lst 5 (l.map TInline.tr))))), (3, tI .i64 (k : Int)), (4, .r (.c (.ptr (4, 0, 0) 0))), (5, tB q.1.2), (6, tI .i64 (q.1.1 : Int))], [((4, 0, 0), some (.box (x.tr.map .t)))], [4]⟩, fun q => k - q.1.1, ⟨(0, x.fLevel == 0), by simp, by simpa using hW⟩, ?_, ?_⟩
          · skip
            repeat' (
              (conv => whnf)
              first
              | refine Or.inl ?_
              | refine And.intro (Obl.out (?_ : Obl _)) ?_
              | refine ifB_intro (fun h => ?_) (fun h => ?_)
              | refine Exists.intro _ (And.intro rfl ?_)
              | ((with_reducible show _ = _); rfl))
            all_goals try (
              (with_reducible refine Obl.mk ?_)
              first
              | ((with_reducible show regOk _ _ = true); kernel_rfl)
              | ((with_reducible show eqTyOk _ _ = true); kernel_rfl)
              | rfl
              | exact trivial
              | ((repeat' (first | exact trivial | refine And.intro ?_ ?_)); done)
              | decide
              | (intro r hr; simp only [List.mem_cons, List.not_mem_nil, or_false] at hr; first | (subst hr; rfl) | (rcases hr with rfl | rfl <;> rfl) | (rcases hr with rfl | rfl | rfl <;> rfl) | (rcases hr with rfl | rfl | rfl | rfl <;> rfl))
              | (refine And.intro ?_ ?_ <;> simp only [List.length_map, List.length_append, List.length_cons, List.length_nil] <;> omega))
          intro ⟨⟨j, b⟩, hj, hwi⟩
          dsimp only at hj hwi ⊢
          by_cases hjk : j < k
          · obtain ⟨y, hy⟩ := get_of_lt (l := l) (k := j) (by omega)
            rw [any_at hjk hy] at hwi
            repeat' (
              (conv => whnf)
              first
              | refine Or.inl ?_
              | refine And.intro (Obl.out (?_ : Obl _)) ?_
              | refine ifB_intro (fun h => ?_) (fun h => ?_)
              | refine ⟨j, y.tr, rfl, map_get hy, ?_⟩
              | refine Exists.intro _ (And.intro rfl ?_)
              | ((with_reducible show _ = _); rfl))
            all_goals try (
              (with_reducible refine Obl.mk ?_)
              first
              | ((with_reducible show regOk _ _ = true); kernel_rfl)
              | ((with_reducible show eqTyOk _ _ = true); kernel_rfl)
              | rfl
              | exact trivial
              | ((repeat' (first | exact trivial | refine And.intro ?_ ?_)); done)
              | decide
              | (intro r hr; simp only [List.mem_cons, List.not_mem_nil, or_false] at hr; first | (subst hr; rfl) | (rcases hr with rfl | rfl <;> rfl) | (rcases hr with rfl | rfl | rfl <;> rfl) | (rcases hr with rfl | rfl | rfl | rfl <;> rfl))
              | (refine And.intro ?_ ?_ <;> simp only [List.length_map, List.length_append, List.length_cons, List.length_nil] <;> omega))
            all_goals try (exfalso; simp only [decide_eq_false_iff_not, decide_eq_true_eq] at *; omega)
            all_goals
              conv => whnf
              refine ⟨⟨(j + 1, b || holds x y), by dsimp only; omega, hwi⟩, ?_, by dsimp only; omega⟩
              repeat' (
                (conv => whnf)
                first
                | refine Or.inl ?_
                | refine And.intro (Obl.out (?_ : Obl _)) ?_
                | refine ifB_intro (fun h => ?_) (fun h => ?_)
                | refine Exists.intro _ (And.intro rfl ?_)
                | ((with_reducible show _ = _); rfl))
              all_goals try (
                (with_reducible refine Obl.mk ?_)
                first
                | ((with_reducible show regOk _ _ = true); kernel_rfl)
                | ((with_reducible show eqTyOk _ _ = true); kernel_rfl)
                | rfl
                | exact trivial
                | ((repeat' (first | exact trivial | refine And.intro ?_ ?_)); done)
                | decide
                | (intro r hr; simp only [List.mem_cons, List.not_mem_nil, or_false] at hr; first | (subst hr; rfl) | (rcases hr with rfl | rfl <;> rfl) | (rcases hr with rfl | rfl | rfl <;> rfl) | (rcases hr with rfl | rfl | rfl | rfl <;> rfl))
                | (refine And.intro ?_ ?_ <;> simp only [List.length_map, List.length_append, List.length_cons, List.length_nil] <;> omega))
              all_goals try exact ⟨by dsimp only; rw [IntWalk.i64_in _ (by omega)]; rfl⟩
              all_goals try (
                refine ⟨congrArg Tr.bool ?_⟩
                unfold holds
                simp_all
                try (intros; omega)
                done)
          · have hge : k ≤ j := by omega
            rw [List.drop_eq_nil_of_le (by simp; omega), List.any_nil, Bool.or_false] at hwi
            subst hwi
            cases b with
            | false =>
              rw [if_neg (by simp)] at hr
              subst hr
              repeat' (
                (conv => whnf)
                first
                | refine Or.inl ?_
                | refine And.intro (Obl.out (?_ : Obl _)) ?_
                | refine ifB_intro (fun h => ?_) (fun h => ?_)
                | refine Exists.intro _ (And.intro rfl ?_)
                | ((with_reducible show _ = _); rfl))
              all_goals try (
                (with_reducible refine Obl.mk ?_)
                first
                | ((with_reducible show regOk _ _ = true); kernel_rfl)
                | ((with_reducible show eqTyOk _ _ = true); kernel_rfl)
                | rfl
                | exact trivial
                | ((repeat' (first | exact trivial | refine And.intro ?_ ?_)); done)
                | decide
                | (intro r hr; simp only [List.mem_cons, List.not_mem_nil, or_false] at hr; first | (subst hr; rfl) | (rcases hr with rfl | rfl <;> rfl) | (rcases hr with rfl | rfl | rfl <;> rfl) | (rcases hr with rfl | rfl | rfl | rfl <;> rfl))
                | (refine And.intro ?_ ?_ <;> simp only [List.length_map, List.length_append, List.length_cons, List.length_nil] <;> omega))
              all_goals try (exfalso; simp only [decide_eq_false_iff_not, decide_eq_true_eq] at *; omega)
              all_goals try (exfalso; (try simp_all [within]); (try omega); done)
            | true =>
              rw [if_pos rfl] at hr
              repeat' (
                (conv => whnf)
                first
                | refine Or.inl ?_
                | refine And.intro (Obl.out (?_ : Obl _)) ?_
                | refine ifB_intro (fun h => ?_) (fun h => ?_)
                | refine Exists.intro _ (And.intro rfl ?_)
                | ((with_reducible show _ = _); rfl))
              all_goals try (
                (with_reducible refine Obl.mk ?_)
                first
                | ((with_reducible show regOk _ _ = true); kernel_rfl)
                | ((with_reducible show eqTyOk _ _ = true); kernel_rfl)
                | rfl
                | exact trivial
                | ((repeat' (first | exact trivial | refine And.intro ?_ ?_)); done)
                | decide
                | (intro r hr; simp only [List.mem_cons, List.not_mem_nil, or_false] at hr; first | (subst hr; rfl) | (rcases hr with rfl | rfl <;> rfl) | (rcases hr with rfl | rfl | rfl <;> rfl) | (rcases hr with rfl | rfl | rfl | rfl <;> rfl))
                | (refine And.intro ?_ ?_ <;> simp only [List.length_map, List.length_append, List.length_cons, List.length_nil] <;> omega))
              all_goals try (exfalso; simp only [decide_eq_false_iff_not, decide_eq_true_eq] at *; omega)
              all_goals try (exfalso; (try simp_all [within]); (try omega); done)
              conv => whnf
              refine ⟨⟨k + 1, by omega, hr⟩, ?_, by dsimp only; omega⟩
              repeat' (
                (conv => whnf)
                first
                | refine Or.inl ?_
                | refine And.intro (Obl.out (?_ : Obl _)) ?_
                | refine ifB_intro (fun h => ?_) (fun h => ?_)
                | refine Exists.intro _ (And.intro rfl ?_)
                | ((with_reducible show _ = _); rfl))
              all_goals try (
                (with_reducible refine Obl.mk ?_)
                first
                | ((with_reducible show regOk _ _ = true); kernel_rfl)
                | ((with_reducible show eqTyOk _ _ = true); kernel_rfl)
                | rfl
                | exact trivial
                | ((repeat' (first | exact trivial | refine And.intro ?_ ?_)); done)
                | decide
                | (intro r hr; simp only [List.mem_cons, List.not_mem_nil, or_false] at hr; first | (subst hr; rfl) | (rcases hr with rfl | rfl <;> rfl) | (rcases hr with rfl | rfl | rfl <;> rfl) | (rcases hr with rfl | rfl | rfl | rfl <;> rfl))
                | (refine And.intro ?_ ?_ <;> simp only [List.length_map, List.length_append, List.length_cons, List.length_nil] <;> omega))
              all_goals try exact ⟨by dsimp only; rw [IntWalk.i64_in _ (by omega)]; rfl⟩
      · have hk0 : 0 < k := by
          rcases Nat.eq_zero_or_pos k with h | h
          · rw [hlast, if_pos h] at hbh
            exact absurd trivial hbh
          · exact h
        obtain ⟨p, hp⟩ := get_of_lt (l := l) (k := k - 1) (by omega)
        rw [if_neg (by unfold inlOkAt; rw [decide_eq_false hbh]; simp)] at hr
        rw [hlast, if_neg (by omega), hp] at hbh
        subst hr
        unfold behind at hbh
        dsimp only at hbh
        unfold inlineOk at hio
        simp only [Bool.and_eq_true, decide_eq_true_eq] at hio
        obtain ⟨⟨⟨⟨⟨i1, i2⟩, i3⟩, i4⟩, i5⟩, i6⟩ := hio
        have hc1 := s_spec_l01In x.fLevel 0 2
        have hc2 := s_spec_l01In x.fLine 0 59
        rw [i4] at hc1
        rw [i5] at hc2
        rw [i6] at hi
        by_cases he : p.fLevel = x.fLevel
        all_goals
          repeat' (
            (conv => whnf)
            first
            | refine Or.inl ?_
            | refine And.intro (Obl.out (?_ : Obl _)) ?_
            | refine ifB_intro (fun h => ?_) (fun h => ?_)
            | refine ⟨k, x.tr, rfl, map_get hx, ?_⟩
            | refine ⟨(k - 1), p.tr, hw hk0, map_get hp, ?_⟩
            | refine call_intro (hi) (And.intro rfl trivial) ?_
            | refine call_intro (hc1) (And.intro rfl (And.intro rfl (And.intro rfl trivial))) ?_
            | refine call_intro (hc2) (And.intro rfl (And.intro rfl (And.intro rfl trivial))) ?_
            | refine Exists.intro _ (And.intro rfl ?_)
            | ((with_reducible show _ = _); rfl))
          all_goals try (
            (with_reducible refine Obl.mk ?_)
            first
            | ((with_reducible show regOk _ _ = true); kernel_rfl)
            | ((with_reducible show eqTyOk _ _ = true); kernel_rfl)
            | rfl
            | exact trivial
            | ((repeat' (first | exact trivial | refine And.intro ?_ ?_)); done)
            | decide
            | (intro r hr; simp only [List.mem_cons, List.not_mem_nil, or_false] at hr; first | (subst hr; rfl) | (rcases hr with rfl | rfl <;> rfl) | (rcases hr with rfl | rfl | rfl <;> rfl) | (rcases hr with rfl | rfl | rfl | rfl <;> rfl))
            | (refine And.intro ?_ ?_ <;> simp only [List.length_map, List.length_append, List.length_cons, List.length_nil] <;> omega))
          all_goals try (exfalso; simp only [decide_eq_false_iff_not, decide_eq_true_eq] at *; omega)
          all_goals try (exfalso; (try simp_all [within]); (try omega); done)
          all_goals try (exfalso; apply hbh; (try simp_all [within]); (try omega); done)
  · have hge : l.length ≤ k := by omega
    rw [List.drop_eq_nil_of_le hge, inlinesOkF] at hr
    subst hr
    repeat' (
      (conv => whnf)
      first
      | refine Or.inl ?_
      | refine And.intro (Obl.out (?_ : Obl _)) ?_
      | refine ifB_intro (fun h => ?_) (fun h => ?_)
      | refine Exists.intro _ (And.intro rfl ?_)
      | ((with_reducible show _ = _); rfl))
    all_goals try (
      (with_reducible refine Obl.mk ?_)
      first
      | ((with_reducible show regOk _ _ = true); kernel_rfl)
      | ((with_reducible show eqTyOk _ _ = true); kernel_rfl)
      | rfl
      | exact trivial
      | ((repeat' (first | exact trivial | refine And.intro ?_ ?_)); done)
      | decide
      | (intro r hr; simp only [List.mem_cons, List.not_mem_nil, or_false] at hr; first | (subst hr; rfl) | (rcases hr with rfl | rfl <;> rfl) | (rcases hr with rfl | rfl | rfl <;> rfl) | (rcases hr with rfl | rfl | rfl | rfl <;> rfl))
      | (refine And.intro ?_ ?_ <;> simp only [List.length_map, List.length_append, List.length_cons, List.length_nil] <;> omega))
    all_goals try (exfalso; simp only [decide_eq_false_iff_not, decide_eq_true_eq] at *; omega)
theorem inl_short {l : List TInline} (h : smallT 1048576 (.lst 5 (l.map TInline.tr))) : ∀ x ∈ l, x.fName.length ≤ 1048576 := fun x hx => by
  have := smallRs_map h hx
  simp only [TInline.tr, smallR, smallT] at this
  omega
end Go.Proofs.Ytflolafbblohnaa
