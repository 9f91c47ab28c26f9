/- Rows: starts, and their bytes; in both texts. -/
import Derived.Test.YtflolafbblohnaaFnsH
namespace Go.Proofs.Ytflolafbblohnaa
open Go.Sim
set_option maxRecDepth 100000
def b01 (b : Bool) : Int := match b with | true => 1 | false => 0
def encRowsL : TRow → List TRow → List Int
  | _, [] => []
  | p, r :: l => (r.fOffset - p.fOffset) :: (r.fLine - p.fLine) :: b01 r.fStart :: encRowsL r l
def row0 : TRow := ⟨0, 0, false⟩
def encodeRows (l : List TRow) : List UInt8 := if rowsOk l then packInts (encRowsL row0 l) else []
def nearRow (r : TRow) : Prop := 0 ≤ r.fOffset ∧ r.fOffset ≤ 1000000 ∧ 0 ≤ r.fLine ∧ r.fLine ≤ 59
theorem rowsOkF_mem : ∀ {l : List TRow} {p : Option Int}, rowsOkF p l = true → ∀ r ∈ l, nearRow r
  | [], _, _, r, hr => by cases hr
  | x :: l, p, h, r, hr => by
    rw [rowsOkF, Bool.and_eq_true] at h
    rcases List.mem_cons.1 hr with rfl | hr
    · have h1 := h.1
      unfold rowOkAt at h1
      simp only [Bool.and_eq_true] at h1
      have a := within_iff.1 h1.1.1
      have b := within_iff.1 h1.1.2
      exact ⟨a.1, a.2, b.1, b.2⟩
    · exact rowsOkF_mem h.2 r hr
abbrev EncRIx (l : List TRow) (E : List Int) := { q : Nat × TRow × List Int // q.1 ≤ l.length ∧ q.2.2.length = 3 * q.1 ∧ nearRow q.2.1 ∧ q.2.2 ++ encRowsL q.2.1 (l.drop q.1) = E }
theorem encRows_at {l : List TRow} {k : Nat} {p x : TRow} {acc : List Int} (hx : l[k]? = some x) : acc ++ encRowsL p (l.drop k) = (acc ++ [x.fOffset - p.fOffset, x.fLine - p.fLine, b01 x.fStart]) ++ encRowsL x (l.drop (k + 1)) := by
  rw [drop_at hx, encRowsL]
  simp
theorem encRowsL_len : ∀ (l : List TRow) (p : TRow), (encRowsL p l).length = 3 * l.length
  | [], _ => rfl
  | r :: l, _ => by rw [encRowsL]; simp [encRowsL_len l r]; omega
theorem s_spec_l13Int (b : Bool) : Sim.Spec Try.prog 235 [tvB b] (rI (b01 b)) := by
  refine spec_of_W hΓ hmix Try.func235 rfl (by decide) rfl ?_
  cases b
  · skip
    repeat' (
      (conv => whnf)
      first
      | refine Or.inl ?_
      | refine And.intro (Obl.out (?_ : Obl _)) ?_
      | refine ifB_intro (fun h => ?_) (fun h => ?_)
      | refine Exists.intro _ (And.intro rfl ?_)
      | ((with_reducible show _ = _); rfl))
    all_goals try (
      (with_reducible refine Obl.mk ?_)
      first
      | ((with_reducible show regOk _ _ = true); kernel_rfl)
      | ((with_reducible show eqTyOk _ _ = true); kernel_rfl)
      | rfl
      | exact trivial
      | ((repeat' (first | exact trivial | refine And.intro ?_ ?_)); done)
      | decide
      | (intro r hr; simp only [List.mem_cons, List.not_mem_nil, or_false] at hr; first | (subst hr; rfl) | (rcases hr with rfl | rfl <;> rfl) | (rcases hr with rfl | rfl | rfl <;> rfl) | (rcases hr with rfl | rfl | rfl | rfl <;> rfl))
      | (refine And.intro ?_ ?_ <;> simp only [List.length_map, List.length_append, List.length_cons, List.length_nil] <;> omega))
  · skip
    repeat' (
      (conv => whnf)
      first
      | refine Or.inl ?_
      | refine And.intro (Obl.out (?_ : Obl _)) ?_
      | refine ifB_intro (fun h => ?_) (fun h => ?_)
      | refine Exists.intro _ (And.intro rfl ?_)
      | ((with_reducible show _ = _); rfl))
    all_goals try (
      (with_reducible refine Obl.mk ?_)
      first
      | ((with_reducible show regOk _ _ = true); kernel_rfl)
      | ((with_reducible show eqTyOk _ _ = true); kernel_rfl)
      | rfl
      | exact trivial
      | ((repeat' (first | exact trivial | refine And.intro ?_ ?_)); done)
      | decide
      | (intro r hr; simp only [List.mem_cons, List.not_mem_nil, or_false] at hr; first | (subst hr; rfl) | (rcases hr with rfl | rfl <;> rfl) | (rcases hr with rfl | rfl | rfl <;> rfl) | (rcases hr with rfl | rfl | rfl | rfl <;> rfl))
      | (refine And.intro ?_ ?_ <;> simp only [List.length_map, List.length_append, List.length_cons, List.length_nil] <;> omega))
theorem s_impl_EncodeRows (l : List TRow) (hl : l.length ≤ 1048576) : Sim.Spec Try.prog 173 [tvL 3 (l.map TRow.tr)] (rS (encodeRows l)) := by
  refine spec_of_W hΓ hmix Try.func173 rfl (by decide) rfl ?_
  have hlen : (l.map TRow.tr).length = l.length := by simp
  unfold encodeRows
  repeat' (
    (conv => whnf)
    first
    | refine Or.inl ?_
    | refine And.intro (Obl.out (?_ : Obl _)) ?_
    | refine ifB_intro (fun h => ?_) (fun h => ?_)
    | refine call_intro ((s_impl_RowsOk l hl)) (And.intro rfl trivial) ?_
    | refine Exists.intro _ (And.intro rfl ?_)
    | ((with_reducible show _ = _); rfl))
  all_goals try (
    (with_reducible refine Obl.mk ?_)
    first
    | ((with_reducible show regOk _ _ = true); kernel_rfl)
    | ((with_reducible show eqTyOk _ _ = true); kernel_rfl)
    | rfl
    | exact trivial
    | ((repeat' (first | exact trivial | refine And.intro ?_ ?_)); done)
    | decide
    | (intro r hr; simp only [List.mem_cons, List.not_mem_nil, or_false] at hr; first | (subst hr; rfl) | (rcases hr with rfl | rfl <;> rfl) | (rcases hr with rfl | rfl | rfl <;> rfl) | (rcases hr with rfl | rfl | rfl | rfl <;> rfl))
    | (refine And.intro ?_ ?_ <;> simp only [List.length_map, List.length_append, List.length_cons, List.length_nil] <;> omega))
  · have h' : rowsOk l = false := by simpa using h
    exact ⟨by rw [h']; rfl⟩
  have h' : rowsOk l = true := by simpa using h
  have hmem := rowsOkF_mem h'
  rw [h', if_pos rfl]
  obtain ⟨E, hE⟩ : ∃ E, encRowsL row0 l = E := ⟨_, rfl⟩
  rw [hE]
  conv => whnf
  refine ⟨EncRIx l E, fun q => ⟨[(3, .r (.c (.own (3, 0, 0)))), (4, .r (.c (.ptr (4, 0, 0) 0))), (13, .r (.c (.t (.lst 3 (l.map TRow.tr))))), (14, tI .i64 ((l.map TRow.tr).length : Int)), (15, tI .i64 (q.1.1 : Int))], [((3, 0, 0), some (.arr true 1 (q.1.2.2.map intRow))), ((4, 0, 0), some (.box [.t (.int .i64 q.1.2.1.fOffset), .t (.int .i64 q.1.2.1.fLine), .t (.bool q.1.2.1.fStart)]))], [3, 4]⟩, fun q => l.length - q.1.1, ⟨(0, row0, []), by simp, rfl, by simp [nearRow, row0], hE⟩, ?_, ?_⟩
  · skip
    repeat' (
      (conv => whnf)
      first
      | refine Or.inl ?_
      | refine And.intro (Obl.out (?_ : Obl _)) ?_
      | refine ifB_intro (fun h => ?_) (fun h => ?_)
      | refine Exists.intro _ (And.intro rfl ?_)
      | ((with_reducible show _ = _); rfl))
    all_goals try (
      (with_reducible refine Obl.mk ?_)
      first
      | ((with_reducible show regOk _ _ = true); kernel_rfl)
      | ((with_reducible show eqTyOk _ _ = true); kernel_rfl)
      | rfl
      | exact trivial
      | ((repeat' (first | exact trivial | refine And.intro ?_ ?_)); done)
      | decide
      | (intro r hr; simp only [List.mem_cons, List.not_mem_nil, or_false] at hr; first | (subst hr; rfl) | (rcases hr with rfl | rfl <;> rfl) | (rcases hr with rfl | rfl | rfl <;> rfl) | (rcases hr with rfl | rfl | rfl | rfl <;> rfl))
      | (refine And.intro ?_ ?_ <;> simp only [List.length_map, List.length_append, List.length_cons, List.length_nil] <;> omega))
  intro ⟨⟨k, p, acc⟩, hk, hal, hp, hr⟩
  dsimp only at hk hal hp hr ⊢
  by_cases hlt : k < l.length
  · obtain ⟨x, hx⟩ := get_of_lt hlt
    rw [encRows_at hx] at hr
    have hxm := hmem x (List.mem_of_getElem? hx)
    have hx2 := hxm
    have hp2 := hp
    unfold nearRow at hx2 hp2
    have w1 : IntKind.i64.wrap (x.fOffset - p.fOffset) = x.fOffset - p.fOffset := IntWalk.i64_in _ (by omega)
    have w2 : IntKind.i64.wrap (x.fLine - p.fLine) = x.fLine - p.fLine := IntWalk.i64_in _ (by omega)
    repeat' (
      (conv => whnf)
      first
      | refine Or.inl ?_
      | refine And.intro (Obl.out (?_ : Obl _)) ?_
      | refine ifB_intro (fun h => ?_) (fun h => ?_)
      | refine ⟨k, x.tr, rfl, map_get hx, ?_⟩
      | refine Exists.intro _ (And.intro rfl ?_)
      | ((with_reducible show _ = _); rfl))
    all_goals try (
      (with_reducible refine Obl.mk ?_)
      first
      | ((with_reducible show regOk _ _ = true); kernel_rfl)
      | ((with_reducible show eqTyOk _ _ = true); kernel_rfl)
      | rfl
      | exact trivial
      | ((repeat' (first | exact trivial | refine And.intro ?_ ?_)); done)
      | decide
      | (intro r hr; simp only [List.mem_cons, List.not_mem_nil, or_false] at hr; first | (subst hr; rfl) | (rcases hr with rfl | rfl <;> rfl) | (rcases hr with rfl | rfl | rfl <;> rfl) | (rcases hr with rfl | rfl | rfl | rfl <;> rfl))
      | (refine And.intro ?_ ?_ <;> simp only [List.length_map, List.length_append, List.length_cons, List.length_nil] <;> omega))
    all_goals try exact absurd hlt (by have := of_decide_eq_false (by assumption); omega)
    · conv => whnf
      refine ⟨⟨(k + 1, x, acc ++ [x.fOffset - p.fOffset, x.fLine - p.fLine, b01 x.fStart]), by dsimp only; omega, by simp; omega, hxm, hr⟩, ?_, by dsimp only; omega⟩
      repeat' (
        (conv => whnf)
        first
        | refine Or.inl ?_
        | refine And.intro (Obl.out (?_ : Obl _)) ?_
        | refine ifB_intro (fun h => ?_) (fun h => ?_)
        | refine Exists.intro _ (And.intro rfl ?_)
        | ((with_reducible show _ = _); rfl))
      all_goals try (
        (with_reducible refine Obl.mk ?_)
        first
        | ((with_reducible show regOk _ _ = true); kernel_rfl)
        | ((with_reducible show eqTyOk _ _ = true); kernel_rfl)
        | rfl
        | exact trivial
        | ((repeat' (first | exact trivial | refine And.intro ?_ ?_)); done)
        | decide
        | (intro r hr; simp only [List.mem_cons, List.not_mem_nil, or_false] at hr; first | (subst hr; rfl) | (rcases hr with rfl | rfl <;> rfl) | (rcases hr with rfl | rfl | rfl <;> rfl) | (rcases hr with rfl | rfl | rfl | rfl <;> rfl))
        | (refine And.intro ?_ ?_ <;> simp only [List.length_map, List.length_append, List.length_cons, List.length_nil] <;> omega))
      all_goals try exact ⟨by dsimp only; rw [IntWalk.i64_in _ (by omega)]; rfl⟩
      refine ⟨?_⟩
      dsimp only
      rw [w1, w2, show x.fStart = true by assumption]
      simp [intRow, b01]
    · conv => whnf
      refine ⟨⟨(k + 1, x, acc ++ [x.fOffset - p.fOffset, x.fLine - p.fLine, b01 x.fStart]), by dsimp only; omega, by simp; omega, hxm, hr⟩, ?_, by dsimp only; omega⟩
      repeat' (
        (conv => whnf)
        first
        | refine Or.inl ?_
        | refine And.intro (Obl.out (?_ : Obl _)) ?_
        | refine ifB_intro (fun h => ?_) (fun h => ?_)
        | refine Exists.intro _ (And.intro rfl ?_)
        | ((with_reducible show _ = _); rfl))
      all_goals try (
        (with_reducible refine Obl.mk ?_)
        first
        | ((with_reducible show regOk _ _ = true); kernel_rfl)
        | ((with_reducible show eqTyOk _ _ = true); kernel_rfl)
        | rfl
        | exact trivial
        | ((repeat' (first | exact trivial | refine And.intro ?_ ?_)); done)
        | decide
        | (intro r hr; simp only [List.mem_cons, List.not_mem_nil, or_false] at hr; first | (subst hr; rfl) | (rcases hr with rfl | rfl <;> rfl) | (rcases hr with rfl | rfl | rfl <;> rfl) | (rcases hr with rfl | rfl | rfl | rfl <;> rfl))
        | (refine And.intro ?_ ?_ <;> simp only [List.length_map, List.length_append, List.length_cons, List.length_nil] <;> omega))
      all_goals try exact ⟨by dsimp only; rw [IntWalk.i64_in _ (by omega)]; rfl⟩
      refine ⟨?_⟩
      dsimp only
      rw [w1, w2, show x.fStart = false by assumption]
      simp [intRow, b01]
  · have hge : l.length ≤ k := by omega
    rw [List.drop_eq_nil_of_le hge, encRowsL, List.append_nil] at hr
    have hPk := s_impl_PackInts acc (by omega)
    clear hE
    subst hr
    repeat' (
      (conv => whnf)
      first
      | refine Or.inl ?_
      | refine And.intro (Obl.out (?_ : Obl _)) ?_
      | refine ifB_intro (fun h => ?_) (fun h => ?_)
      | refine call_intro (hPk) (And.intro rfl trivial) ?_
      | refine Exists.intro _ (And.intro rfl ?_)
      | ((with_reducible show _ = _); rfl))
    all_goals try (
      (with_reducible refine Obl.mk ?_)
      first
      | ((with_reducible show regOk _ _ = true); kernel_rfl)
      | ((with_reducible show eqTyOk _ _ = true); kernel_rfl)
      | rfl
      | exact trivial
      | ((repeat' (first | exact trivial | refine And.intro ?_ ?_)); done)
      | decide
      | (intro r hr; simp only [List.mem_cons, List.not_mem_nil, or_false] at hr; first | (subst hr; rfl) | (rcases hr with rfl | rfl <;> rfl) | (rcases hr with rfl | rfl | rfl <;> rfl) | (rcases hr with rfl | rfl | rfl | rfl <;> rfl))
      | (refine And.intro ?_ ?_ <;> simp only [List.length_map, List.length_append, List.length_cons, List.length_nil] <;> omega))
    all_goals try (exfalso; simp only [decide_eq_false_iff_not, decide_eq_true_eq] at *; omega)
theorem s_spec_EncodeRows (l : List TRow) (hl : l.length ≤ 1048576) : Sim.Spec Try.prog 160 [tvL 3 (l.map TRow.tr)] (rS (encodeRows l)) := by
  refine spec_of_W hΓ hmix Try.func160 rfl (by decide) rfl ?_
  have hlen : (l.map TRow.tr).length = l.length := by simp
  unfold encodeRows
  repeat' (
    (conv => whnf)
    first
    | refine Or.inl ?_
    | refine And.intro (Obl.out (?_ : Obl _)) ?_
    | refine ifB_intro (fun h => ?_) (fun h => ?_)
    | refine call_intro ((s_spec_RowsOk l hl)) (And.intro rfl trivial) ?_
    | refine Exists.intro _ (And.intro rfl ?_)
    | ((with_reducible show _ = _); rfl))
  all_goals try (
    (with_reducible refine Obl.mk ?_)
    first
    | ((with_reducible show regOk _ _ = true); kernel_rfl)
    | ((with_reducible show eqTyOk _ _ = true); kernel_rfl)
    | rfl
    | exact trivial
    | ((repeat' (first | exact trivial | refine And.intro ?_ ?_)); done)
    | decide
    | (intro r hr; simp only [List.mem_cons, List.not_mem_nil, or_false] at hr; first | (subst hr; rfl) | (rcases hr with rfl | rfl <;> rfl) | (rcases hr with rfl | rfl | rfl <;> rfl) | (rcases hr with rfl | rfl | rfl | rfl <;> rfl))
    | (refine And.intro ?_ ?_ <;> simp only [List.length_map, List.length_append, List.length_cons, List.length_nil] <;> omega))
  · have h' : rowsOk l = false := by simpa using h
    exact ⟨by rw [h']; rfl⟩
  have h' : rowsOk l = true := by simpa using h
  have hmem := rowsOkF_mem h'
  rw [h', if_pos rfl]
  obtain ⟨E, hE⟩ : ∃ E, encRowsL row0 l = E := ⟨_, rfl⟩
  rw [hE]
  conv => whnf
  refine ⟨EncRIx l E, fun q => ⟨[(0, .r (.c (.t (.lst 3 (l.map TRow.tr))))), (3, .r (.c (.own (3, 0, 0)))), (4, .r (.c (.ptr (4, 0, 0) 0))), (5, tI .i64 (q.1.1 : Int))], [((3, 0, 0), some (.arr true 1 (q.1.2.2.map intRow))), ((4, 0, 0), some (.box [.t (.int .i64 q.1.2.1.fOffset), .t (.int .i64 q.1.2.1.fLine), .t (.bool q.1.2.1.fStart)]))], [3, 4]⟩, fun q => l.length - q.1.1, ⟨(0, row0, []), by simp, rfl, by simp [nearRow, row0], hE⟩, ?_, ?_⟩
  · skip
    repeat' (
      (conv => whnf)
      first
      | refine Or.inl ?_
      | refine And.intro (Obl.out (?_ : Obl _)) ?_
      | refine ifB_intro (fun h => ?_) (fun h => ?_)
      | refine Exists.intro _ (And.intro rfl ?_)
      | ((with_reducible show _ = _); rfl))
    all_goals try (
      (with_reducible refine Obl.mk ?_)
      first
      | ((with_reducible show regOk _ _ = true); kernel_rfl)
      | ((with_reducible show eqTyOk _ _ = true); kernel_rfl)
      | rfl
      | exact trivial
      | ((repeat' (first | exact trivial | refine And.intro ?_ ?_)); done)
      | decide
      | (intro r hr; simp only [List.mem_cons, List.not_mem_nil, or_false] at hr; first | (subst hr; rfl) | (rcases hr with rfl | rfl <;> rfl) | (rcases hr with rfl | rfl | rfl <;> rfl) | (rcases hr with rfl | rfl | rfl | rfl <;> rfl))
      | (refine And.intro ?_ ?_ <;> simp only [List.length_map, List.length_append, List.length_cons, List.length_nil] <;> omega))
  intro ⟨⟨k, p, acc⟩, hk, hal, hp, hr⟩
  dsimp only at hk hal hp hr ⊢
  by_cases hlt : k < l.length
  · obtain ⟨x, hx⟩ := get_of_lt hlt
    rw [encRows_at hx] at hr
    have hxm := hmem x (List.mem_of_getElem? hx)
    have hx2 := hxm
    have hp2 := hp
    unfold nearRow at hx2 hp2
    have w1 : IntKind.i64.wrap (x.fOffset - p.fOffset) = x.fOffset - p.fOffset := IntWalk.i64_in _ (by omega)
    have w2 : IntKind.i64.wrap (x.fLine - p.fLine) = x.fLine - p.fLine := IntWalk.i64_in _ (by omega)
    repeat' (
      (conv => whnf)
      first
      | refine Or.inl ?_
      | refine And.intro (Obl.out (?_ : Obl _)) ?_
      | refine ifB_intro (fun h => ?_) (fun h => ?_)
      | refine ⟨k, x.tr, rfl, map_get hx, ?_⟩
      | refine call_intro (s_spec_l13Int _) (And.intro rfl trivial) ?_
      | refine Exists.intro _ (And.intro rfl ?_)
      | ((with_reducible show _ = _); rfl))
    all_goals try (
      (with_reducible refine Obl.mk ?_)
      first
      | ((with_reducible show regOk _ _ = true); kernel_rfl)
      | ((with_reducible show eqTyOk _ _ = true); kernel_rfl)
      | rfl
      | exact trivial
      | ((repeat' (first | exact trivial | refine And.intro ?_ ?_)); done)
      | decide
      | (intro r hr; simp only [List.mem_cons, List.not_mem_nil, or_false] at hr; first | (subst hr; rfl) | (rcases hr with rfl | rfl <;> rfl) | (rcases hr with rfl | rfl | rfl <;> rfl) | (rcases hr with rfl | rfl | rfl | rfl <;> rfl))
      | (refine And.intro ?_ ?_ <;> simp only [List.length_map, List.length_append, List.length_cons, List.length_nil] <;> omega))
    all_goals try exact absurd hlt (by have := of_decide_eq_false (by assumption); omega)
    conv => whnf
    refine ⟨⟨(k + 1, x, acc ++ [x.fOffset - p.fOffset, x.fLine - p.fLine, b01 x.fStart]), by dsimp only; omega, by simp; omega, hxm, hr⟩, ?_, by dsimp only; omega⟩
    repeat' (
      (conv => whnf)
      first
      | refine Or.inl ?_
      | refine And.intro (Obl.out (?_ : Obl _)) ?_
      | refine ifB_intro (fun h => ?_) (fun h => ?_)
      | refine Exists.intro _ (And.intro rfl ?_)
      | ((with_reducible show _ = _); rfl))
    all_goals try (
      (with_reducible refine Obl.mk ?_)
      first
      | ((with_reducible show regOk _ _ = true); kernel_rfl)
      | ((with_reducible show eqTyOk _ _ = true); kernel_rfl)
      | rfl
      | exact trivial
      | ((repeat' (first | exact trivial | refine And.intro ?_ ?_)); done)
      | decide
      | (intro r hr; simp only [List.mem_cons, List.not_mem_nil, or_false] at hr; first | (subst hr; rfl) | (rcases hr with rfl | rfl <;> rfl) | (rcases hr with rfl | rfl | rfl <;> rfl) | (rcases hr with rfl | rfl | rfl | rfl <;> rfl))
      | (refine And.intro ?_ ?_ <;> simp only [List.length_map, List.length_append, List.length_cons, List.length_nil] <;> omega))
    all_goals try exact ⟨by dsimp only; rw [IntWalk.i64_in _ (by omega)]; rfl⟩
    refine ⟨?_⟩
    rw [w1, w2]
    simp [intRow, b01]
  · have hge : l.length ≤ k := by omega
    rw [List.drop_eq_nil_of_le hge, encRowsL, List.append_nil] at hr
    have hPk := s_spec_PackInts acc (by omega)
    clear hE
    subst hr
    repeat' (
      (conv => whnf)
      first
      | refine Or.inl ?_
      | refine And.intro (Obl.out (?_ : Obl _)) ?_
      | refine ifB_intro (fun h => ?_) (fun h => ?_)
      | refine call_intro (hPk) (And.intro rfl trivial) ?_
      | refine Exists.intro _ (And.intro rfl ?_)
      | ((with_reducible show _ = _); rfl))
    all_goals try (
      (with_reducible refine Obl.mk ?_)
      first
      | ((with_reducible show regOk _ _ = true); kernel_rfl)
      | ((with_reducible show eqTyOk _ _ = true); kernel_rfl)
      | rfl
      | exact trivial
      | ((repeat' (first | exact trivial | refine And.intro ?_ ?_)); done)
      | decide
      | (intro r hr; simp only [List.mem_cons, List.not_mem_nil, or_false] at hr; first | (subst hr; rfl) | (rcases hr with rfl | rfl <;> rfl) | (rcases hr with rfl | rfl | rfl <;> rfl) | (rcases hr with rfl | rfl | rfl | rfl <;> rfl))
      | (refine And.intro ?_ ?_ <;> simp only [List.length_map, List.length_append, List.length_cons, List.length_nil] <;> omega))
    all_goals try (exfalso; simp only [decide_eq_false_iff_not, decide_eq_true_eq] at *; omega)
end Go.Proofs.Ytflolafbblohnaa
