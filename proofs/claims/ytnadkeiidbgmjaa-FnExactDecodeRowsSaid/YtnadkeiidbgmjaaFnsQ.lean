/- RowsOf, ViewOf in both texts. -/
import Derived.Test.YtnadkeiidbgmjaaFnsK
import Derived.Test.YtnadkeiidbgmjaaMkA
namespace Go.Proofs.Ytnadkeiidbgmjaa
open Go.Sim
set_option maxRecDepth 100000
set_option maxHeartbeats 4000000
def skipRow (p : Option TPlace) (x : TPlace) : Bool := match p with
  | none => false
  | some y => !x.fItem.fStart && (!y.fItem.fStart && (y.fItem.fLine == x.fItem.fLine))
def rowOf (x : TPlace) : TRow := ⟨x.fOffset, x.fItem.fLine, x.fItem.fStart⟩
def rowsOfF : Option TPlace → List TPlace → List TRow
  | _, [] => []
  | p, x :: l => (if skipRow p x then [] else [rowOf x]) ++ rowsOfF (some x) l
def rowsOf (l : List TPlace) : List TRow := rowsOfF none l
def prevP (l : List TPlace) (k : Nat) : Option TPlace := if k = 0 then none else l[k - 1]?
theorem rowsOf_at {l : List TPlace} {k : Nat} {x : TPlace} (hx : l[k]? = some x) : rowsOfF (prevP l k) (l.drop k) = (if skipRow (prevP l k) x then [] else [rowOf x]) ++ rowsOfF (prevP l (k + 1)) (l.drop (k + 1)) := by
  rw [drop_at hx, rowsOfF]
  rw [show prevP l (k + 1) = some x by rw [prevP, if_neg (by omega)]; exact hx]
theorem rowsOfF_len : ∀ (l : List TPlace) (p : Option TPlace), (rowsOfF p l).length ≤ l.length
  | [], _ => by simp [rowsOfF]
  | x :: l, p => by
    have := rowsOfF_len l (some x)
    rw [rowsOfF, List.length_append, List.length_cons]
    split <;> simp <;> omega
abbrev RowsIx (l : List TPlace) := { q : Nat × List TRow // q.1 ≤ l.length ∧ q.2.length ≤ q.1 ∧ q.2 ++ rowsOfF (prevP l q.1) (l.drop q.1) = rowsOf l }
theorem s_impl_RowsOf (l : List TPlace) (hl : l.length ≤ 1048576) : Sim.Spec Try.prog 39 [tvL 8 (l.map TPlace.tr)] (rL 3 ((rowsOf l).map TRow.tr)) := by
  refine spec_of_W hΓ hmix Try.func39 rfl (by decide) rfl ?_
  have hlen : (l.map TPlace.tr).length = l.length := by simp
  repeat' (
    (conv => whnf)
    first
    | refine Or.inl ?_
    | refine And.intro (Obl.out (?_ : Obl _)) ?_
    | refine ifB_intro (fun h => ?_) (fun h => ?_)
    | refine Exists.intro _ (And.intro rfl ?_)
    | ((with_reducible show _ = _); rfl))
  all_goals try (
    (with_reducible refine Obl.mk ?_)
    first
    | ((with_reducible show regOk _ _ = true); kernel_rfl)
    | rfl
    | exact trivial
    | ((repeat' (first | exact trivial | refine And.intro ?_ ?_)); done)
    | decide
    | (intro r hr; simp only [List.mem_cons, List.not_mem_nil, or_false] at hr; first | (subst hr; rfl) | (rcases hr with rfl | rfl <;> rfl) | (rcases hr with rfl | rfl | rfl <;> rfl) | (rcases hr with rfl | rfl | rfl | rfl <;> rfl))
    | (refine And.intro ?_ ?_ <;> simp only [List.length_map, List.length_append, List.length_cons, List.length_nil] <;> omega))
  conv => whnf
  refine ⟨RowsIx l, fun q => ⟨[(0, .r (.c (.t (.lst 8 (l.map TPlace.tr))))), (3, .r (.c (.own (6, 0, 0)))), (7, .r (.c (.t (.lst 8 (l.map TPlace.tr))))), (8, tI .i64 ((l.map TPlace.tr).length : Int)), (9, tI .i64 (q.1.1 : Int))], [((6, 0, 0), some (.arr true 3 (q.1.2.map TRow.tr)))], [6]⟩, fun q => l.length - q.1.1, ⟨(0, []), by simp, by simp, by simp [prevP, rowsOf]⟩, ?_, ?_⟩
  · skip
    repeat' (
      (conv => whnf)
      first
      | refine Or.inl ?_
      | refine And.intro (Obl.out (?_ : Obl _)) ?_
      | refine ifB_intro (fun h => ?_) (fun h => ?_)
      | refine Exists.intro _ (And.intro rfl ?_)
      | ((with_reducible show _ = _); rfl))
    all_goals try (
      (with_reducible refine Obl.mk ?_)
      first
      | ((with_reducible show regOk _ _ = true); kernel_rfl)
      | rfl
      | exact trivial
      | ((repeat' (first | exact trivial | refine And.intro ?_ ?_)); done)
      | decide
      | (intro r hr; simp only [List.mem_cons, List.not_mem_nil, or_false] at hr; first | (subst hr; rfl) | (rcases hr with rfl | rfl <;> rfl) | (rcases hr with rfl | rfl | rfl <;> rfl) | (rcases hr with rfl | rfl | rfl | rfl <;> rfl))
      | (refine And.intro ?_ ?_ <;> simp only [List.length_map, List.length_append, List.length_cons, List.length_nil] <;> omega))
  intro ⟨⟨k, acc⟩, hk, hal, hr⟩
  dsimp only at hk hal hr ⊢
  by_cases hlt : k < l.length
  · obtain ⟨x, hx⟩ := get_of_lt hlt
    have hacc : (acc.map TRow.tr).length = acc.length := by simp
    rw [rowsOf_at hx] at hr
    by_cases hk0 : k = 0
    · have hp : prevP l k = none := by rw [prevP, if_pos hk0]
      rw [hp, skipRow, if_neg (by simp)] at hr
      repeat' (
        (conv => whnf)
        first
        | refine Or.inl ?_
        | refine And.intro (Obl.out (?_ : Obl _)) ?_
        | refine ifB_intro (fun h => ?_) (fun h => ?_)
        | refine ⟨k, x.tr, rfl, map_get hx, ?_⟩
        | refine Exists.intro _ (And.intro rfl ?_)
        | ((with_reducible show _ = _); rfl))
      all_goals try (
        (with_reducible refine Obl.mk ?_)
        first
        | ((with_reducible show regOk _ _ = true); kernel_rfl)
        | rfl
        | exact trivial
        | ((repeat' (first | exact trivial | refine And.intro ?_ ?_)); done)
        | decide
        | (intro r hr; simp only [List.mem_cons, List.not_mem_nil, or_false] at hr; first | (subst hr; rfl) | (rcases hr with rfl | rfl <;> rfl) | (rcases hr with rfl | rfl | rfl <;> rfl) | (rcases hr with rfl | rfl | rfl | rfl <;> rfl))
        | (refine And.intro ?_ ?_ <;> simp only [List.length_map, List.length_append, List.length_cons, List.length_nil] <;> omega))
      all_goals try (exfalso; simp only [decide_eq_false_iff_not, decide_eq_true_eq] at *; omega)
      all_goals try exact ⟨by simp only [List.length_map]; omega⟩
      all_goals try exact ⟨⟨by simp; omega, by simp; omega⟩⟩
      all_goals (
        conv => whnf
        refine ⟨⟨(k + 1, acc ++ [rowOf x]), by dsimp only; omega, by simp; omega, by rw [← hr]; simp⟩, ?_, by dsimp only; omega⟩
        repeat' (
          (conv => whnf)
          first
          | refine Or.inl ?_
          | refine And.intro (Obl.out (?_ : Obl _)) ?_
          | refine ifB_intro (fun h => ?_) (fun h => ?_)
          | refine Exists.intro _ (And.intro rfl ?_)
          | ((with_reducible show _ = _); rfl))
        all_goals try (
          (with_reducible refine Obl.mk ?_)
          first
          | ((with_reducible show regOk _ _ = true); kernel_rfl)
          | rfl
          | exact trivial
          | ((repeat' (first | exact trivial | refine And.intro ?_ ?_)); done)
          | decide
          | (intro r hr; simp only [List.mem_cons, List.not_mem_nil, or_false] at hr; first | (subst hr; rfl) | (rcases hr with rfl | rfl <;> rfl) | (rcases hr with rfl | rfl | rfl <;> rfl) | (rcases hr with rfl | rfl | rfl | rfl <;> rfl))
          | (refine And.intro ?_ ?_ <;> simp only [List.length_map, List.length_append, List.length_cons, List.length_nil] <;> omega))
        all_goals try exact ⟨by dsimp only; rw [IntWalk.i64_in _ (by omega)]; rfl⟩
        all_goals exact ⟨by simp [rowOf, TRow.tr]⟩)
    · obtain ⟨y, hy⟩ := get_of_lt (l := l) (k := k - 1) (by omega)
      have hp : prevP l k = some y := by rw [prevP, if_neg hk0, hy]
      rw [hp] at hr
      have hw : IntKind.i64.wrap (↑k - 1) = ((k - 1 : Nat) : Int) := by rw [IntWalk.i64_in _ (by omega)]; omega
      repeat' (
        (conv => whnf)
        first
        | refine Or.inl ?_
        | refine And.intro (Obl.out (?_ : Obl _)) ?_
        | refine ifB_intro (fun h => ?_) (fun h => ?_)
        | refine ⟨k, x.tr, rfl, map_get hx, ?_⟩
        | refine ⟨(k - 1), y.tr, hw, map_get hy, ?_⟩
        | refine Exists.intro _ (And.intro rfl ?_)
        | ((with_reducible show _ = _); rfl))
      all_goals try (
        (with_reducible refine Obl.mk ?_)
        first
        | ((with_reducible show regOk _ _ = true); kernel_rfl)
        | rfl
        | exact trivial
        | ((repeat' (first | exact trivial | refine And.intro ?_ ?_)); done)
        | decide
        | (intro r hr; simp only [List.mem_cons, List.not_mem_nil, or_false] at hr; first | (subst hr; rfl) | (rcases hr with rfl | rfl <;> rfl) | (rcases hr with rfl | rfl | rfl <;> rfl) | (rcases hr with rfl | rfl | rfl | rfl <;> rfl))
        | (refine And.intro ?_ ?_ <;> simp only [List.length_map, List.length_append, List.length_cons, List.length_nil] <;> omega))
      all_goals try (exfalso; simp only [decide_eq_false_iff_not, decide_eq_true_eq] at *; omega)
      all_goals try exact ⟨⟨by simp; omega, by simp; omega⟩⟩
      all_goals conv => whnf
      all_goals first
        | (have hs : skipRow (some y) x = false := by simp_all [skipRow]
           rw [if_neg (by rw [hs]; simp)] at hr
           refine ⟨⟨(k + 1, acc ++ [rowOf x]), by dsimp only; omega, by simp; omega, by rw [← hr]; simp⟩, ?_, by dsimp only; omega⟩)
        | (have hs : skipRow (some y) x = true := by simp_all [skipRow]
           rw [if_pos hs] at hr
           refine ⟨⟨(k + 1, acc), by dsimp only; omega, by dsimp only; omega, by rw [← hr]; simp⟩, ?_, by dsimp only; omega⟩)
      repeat' (
        (conv => whnf)
        first
        | refine Or.inl ?_
        | refine And.intro (Obl.out (?_ : Obl _)) ?_
        | refine ifB_intro (fun h => ?_) (fun h => ?_)
        | refine Exists.intro _ (And.intro rfl ?_)
        | ((with_reducible show _ = _); rfl))
      all_goals try (
        (with_reducible refine Obl.mk ?_)
        first
        | ((with_reducible show regOk _ _ = true); kernel_rfl)
        | rfl
        | exact trivial
        | ((repeat' (first | exact trivial | refine And.intro ?_ ?_)); done)
        | decide
        | (intro r hr; simp only [List.mem_cons, List.not_mem_nil, or_false] at hr; first | (subst hr; rfl) | (rcases hr with rfl | rfl <;> rfl) | (rcases hr with rfl | rfl | rfl <;> rfl) | (rcases hr with rfl | rfl | rfl | rfl <;> rfl))
        | (refine And.intro ?_ ?_ <;> simp only [List.length_map, List.length_append, List.length_cons, List.length_nil] <;> omega))
      all_goals try exact ⟨by dsimp only; rw [IntWalk.i64_in _ (by omega)]; rfl⟩
      all_goals exact ⟨by simp [rowOf, TRow.tr]⟩
  · have hge : l.length ≤ k := by omega
    rw [List.drop_eq_nil_of_le hge, rowsOfF, List.append_nil] at hr
    repeat' (
      (conv => whnf)
      first
      | refine Or.inl ?_
      | refine And.intro (Obl.out (?_ : Obl _)) ?_
      | refine ifB_intro (fun h => ?_) (fun h => ?_)
      | refine Exists.intro _ (And.intro rfl ?_)
      | ((with_reducible show _ = _); rfl))
    all_goals try (
      (with_reducible refine Obl.mk ?_)
      first
      | ((with_reducible show regOk _ _ = true); kernel_rfl)
      | rfl
      | exact trivial
      | ((repeat' (first | exact trivial | refine And.intro ?_ ?_)); done)
      | decide
      | (intro r hr; simp only [List.mem_cons, List.not_mem_nil, or_false] at hr; first | (subst hr; rfl) | (rcases hr with rfl | rfl <;> rfl) | (rcases hr with rfl | rfl | rfl <;> rfl) | (rcases hr with rfl | rfl | rfl | rfl <;> rfl))
      | (refine And.intro ?_ ?_ <;> simp only [List.length_map, List.length_append, List.length_cons, List.length_nil] <;> omega))
    all_goals try (exfalso; simp only [decide_eq_false_iff_not, decide_eq_true_eq] at *; omega)
    all_goals exact ⟨by rw [hr]⟩
theorem s_spec_RowsOf (l : List TPlace) (hl : l.length ≤ 1048576) : Sim.Spec Try.prog 37 [tvL 8 (l.map TPlace.tr)] (rL 3 ((rowsOf l).map TRow.tr)) := by
  refine spec_of_W hΓ hmix Try.func37 rfl (by decide) rfl ?_
  have hlen : (l.map TPlace.tr).length = l.length := by simp
  repeat' (
    (conv => whnf)
    first
    | refine Or.inl ?_
    | refine And.intro (Obl.out (?_ : Obl _)) ?_
    | refine ifB_intro (fun h => ?_) (fun h => ?_)
    | refine Exists.intro _ (And.intro rfl ?_)
    | ((with_reducible show _ = _); rfl))
  all_goals try (
    (with_reducible refine Obl.mk ?_)
    first
    | ((with_reducible show regOk _ _ = true); kernel_rfl)
    | rfl
    | exact trivial
    | ((repeat' (first | exact trivial | refine And.intro ?_ ?_)); done)
    | decide
    | (intro r hr; simp only [List.mem_cons, List.not_mem_nil, or_false] at hr; first | (subst hr; rfl) | (rcases hr with rfl | rfl <;> rfl) | (rcases hr with rfl | rfl | rfl <;> rfl) | (rcases hr with rfl | rfl | rfl | rfl <;> rfl))
    | (refine And.intro ?_ ?_ <;> simp only [List.length_map, List.length_append, List.length_cons, List.length_nil] <;> omega))
  conv => whnf
  refine ⟨RowsIx l, fun q => ⟨[(0, .r (.c (.t (.lst 8 (l.map TPlace.tr))))), (3, .r (.c (.own (6, 0, 0)))), (4, tI .i64 (q.1.1 : Int))], [((6, 0, 0), some (.arr true 3 (q.1.2.map TRow.tr)))], [6]⟩, fun q => l.length - q.1.1, ⟨(0, []), by simp, by simp, by simp [prevP, rowsOf]⟩, ?_, ?_⟩
  · skip
    repeat' (
      (conv => whnf)
      first
      | refine Or.inl ?_
      | refine And.intro (Obl.out (?_ : Obl _)) ?_
      | refine ifB_intro (fun h => ?_) (fun h => ?_)
      | refine Exists.intro _ (And.intro rfl ?_)
      | ((with_reducible show _ = _); rfl))
    all_goals try (
      (with_reducible refine Obl.mk ?_)
      first
      | ((with_reducible show regOk _ _ = true); kernel_rfl)
      | rfl
      | exact trivial
      | ((repeat' (first | exact trivial | refine And.intro ?_ ?_)); done)
      | decide
      | (intro r hr; simp only [List.mem_cons, List.not_mem_nil, or_false] at hr; first | (subst hr; rfl) | (rcases hr with rfl | rfl <;> rfl) | (rcases hr with rfl | rfl | rfl <;> rfl) | (rcases hr with rfl | rfl | rfl | rfl <;> rfl))
      | (refine And.intro ?_ ?_ <;> simp only [List.length_map, List.length_append, List.length_cons, List.length_nil] <;> omega))
  intro ⟨⟨k, acc⟩, hk, hal, hr⟩
  dsimp only at hk hal hr ⊢
  by_cases hlt : k < l.length
  · obtain ⟨x, hx⟩ := get_of_lt hlt
    have hacc : (acc.map TRow.tr).length = acc.length := by simp
    rw [rowsOf_at hx] at hr
    by_cases hk0 : k = 0
    · have hp : prevP l k = none := by rw [prevP, if_pos hk0]
      rw [hp, skipRow, if_neg (by simp)] at hr
      repeat' (
        (conv => whnf)
        first
        | refine Or.inl ?_
        | refine And.intro (Obl.out (?_ : Obl _)) ?_
        | refine ifB_intro (fun h => ?_) (fun h => ?_)
        | refine ⟨k, x.tr, rfl, map_get hx, ?_⟩
        | refine Exists.intro _ (And.intro rfl ?_)
        | ((with_reducible show _ = _); rfl))
      all_goals try (
        (with_reducible refine Obl.mk ?_)
        first
        | ((with_reducible show regOk _ _ = true); kernel_rfl)
        | rfl
        | exact trivial
        | ((repeat' (first | exact trivial | refine And.intro ?_ ?_)); done)
        | decide
        | (intro r hr; simp only [List.mem_cons, List.not_mem_nil, or_false] at hr; first | (subst hr; rfl) | (rcases hr with rfl | rfl <;> rfl) | (rcases hr with rfl | rfl | rfl <;> rfl) | (rcases hr with rfl | rfl | rfl | rfl <;> rfl))
        | (refine And.intro ?_ ?_ <;> simp only [List.length_map, List.length_append, List.length_cons, List.length_nil] <;> omega))
      all_goals try (exfalso; simp only [decide_eq_false_iff_not, decide_eq_true_eq] at *; omega)
      all_goals try exact ⟨by simp only [List.length_map]; omega⟩
      all_goals try exact ⟨⟨by simp; omega, by simp; omega⟩⟩
      all_goals (
        conv => whnf
        refine ⟨⟨(k + 1, acc ++ [rowOf x]), by dsimp only; omega, by simp; omega, by rw [← hr]; simp⟩, ?_, by dsimp only; omega⟩
        repeat' (
          (conv => whnf)
          first
          | refine Or.inl ?_
          | refine And.intro (Obl.out (?_ : Obl _)) ?_
          | refine ifB_intro (fun h => ?_) (fun h => ?_)
          | refine Exists.intro _ (And.intro rfl ?_)
          | ((with_reducible show _ = _); rfl))
        all_goals try (
          (with_reducible refine Obl.mk ?_)
          first
          | ((with_reducible show regOk _ _ = true); kernel_rfl)
          | rfl
          | exact trivial
          | ((repeat' (first | exact trivial | refine And.intro ?_ ?_)); done)
          | decide
          | (intro r hr; simp only [List.mem_cons, List.not_mem_nil, or_false] at hr; first | (subst hr; rfl) | (rcases hr with rfl | rfl <;> rfl) | (rcases hr with rfl | rfl | rfl <;> rfl) | (rcases hr with rfl | rfl | rfl | rfl <;> rfl))
          | (refine And.intro ?_ ?_ <;> simp only [List.length_map, List.length_append, List.length_cons, List.length_nil] <;> omega))
        all_goals try exact ⟨by dsimp only; rw [IntWalk.i64_in _ (by omega)]; rfl⟩
        all_goals exact ⟨by simp [rowOf, TRow.tr]⟩)
    · obtain ⟨y, hy⟩ := get_of_lt (l := l) (k := k - 1) (by omega)
      have hp : prevP l k = some y := by rw [prevP, if_neg hk0, hy]
      rw [hp] at hr
      have hw : IntKind.i64.wrap (↑k - 1) = ((k - 1 : Nat) : Int) := by rw [IntWalk.i64_in _ (by omega)]; omega
      repeat' (
        (conv => whnf)
        first
        | refine Or.inl ?_
        | refine And.intro (Obl.out (?_ : Obl _)) ?_
        | refine ifB_intro (fun h => ?_) (fun h => ?_)
        | refine ⟨k, x.tr, rfl, map_get hx, ?_⟩
        | refine ⟨(k - 1), y.tr, hw, map_get hy, ?_⟩
        | refine Exists.intro _ (And.intro rfl ?_)
        | ((with_reducible show _ = _); rfl))
      all_goals try (
        (with_reducible refine Obl.mk ?_)
        first
        | ((with_reducible show regOk _ _ = true); kernel_rfl)
        | rfl
        | exact trivial
        | ((repeat' (first | exact trivial | refine And.intro ?_ ?_)); done)
        | decide
        | (intro r hr; simp only [List.mem_cons, List.not_mem_nil, or_false] at hr; first | (subst hr; rfl) | (rcases hr with rfl | rfl <;> rfl) | (rcases hr with rfl | rfl | rfl <;> rfl) | (rcases hr with rfl | rfl | rfl | rfl <;> rfl))
        | (refine And.intro ?_ ?_ <;> simp only [List.length_map, List.length_append, List.length_cons, List.length_nil] <;> omega))
      all_goals try (exfalso; simp only [decide_eq_false_iff_not, decide_eq_true_eq] at *; omega)
      all_goals try exact ⟨⟨by simp; omega, by simp; omega⟩⟩
      all_goals conv => whnf
      all_goals first
        | (have hs : skipRow (some y) x = false := by simp_all [skipRow]
           rw [if_neg (by rw [hs]; simp)] at hr
           refine ⟨⟨(k + 1, acc ++ [rowOf x]), by dsimp only; omega, by simp; omega, by rw [← hr]; simp⟩, ?_, by dsimp only; omega⟩)
        | (have hs : skipRow (some y) x = true := by simp_all [skipRow]
           rw [if_pos hs] at hr
           refine ⟨⟨(k + 1, acc), by dsimp only; omega, by dsimp only; omega, by rw [← hr]; simp⟩, ?_, by dsimp only; omega⟩)
      repeat' (
        (conv => whnf)
        first
        | refine Or.inl ?_
        | refine And.intro (Obl.out (?_ : Obl _)) ?_
        | refine ifB_intro (fun h => ?_) (fun h => ?_)
        | refine Exists.intro _ (And.intro rfl ?_)
        | ((with_reducible show _ = _); rfl))
      all_goals try (
        (with_reducible refine Obl.mk ?_)
        first
        | ((with_reducible show regOk _ _ = true); kernel_rfl)
        | rfl
        | exact trivial
        | ((repeat' (first | exact trivial | refine And.intro ?_ ?_)); done)
        | decide
        | (intro r hr; simp only [List.mem_cons, List.not_mem_nil, or_false] at hr; first | (subst hr; rfl) | (rcases hr with rfl | rfl <;> rfl) | (rcases hr with rfl | rfl | rfl <;> rfl) | (rcases hr with rfl | rfl | rfl | rfl <;> rfl))
        | (refine And.intro ?_ ?_ <;> simp only [List.length_map, List.length_append, List.length_cons, List.length_nil] <;> omega))
      all_goals try exact ⟨by dsimp only; rw [IntWalk.i64_in _ (by omega)]; rfl⟩
      all_goals exact ⟨by simp [rowOf, TRow.tr]⟩
  · have hge : l.length ≤ k := by omega
    rw [List.drop_eq_nil_of_le hge, rowsOfF, List.append_nil] at hr
    repeat' (
      (conv => whnf)
      first
      | refine Or.inl ?_
      | refine And.intro (Obl.out (?_ : Obl _)) ?_
      | refine ifB_intro (fun h => ?_) (fun h => ?_)
      | refine Exists.intro _ (And.intro rfl ?_)
      | ((with_reducible show _ = _); rfl))
    all_goals try (
      (with_reducible refine Obl.mk ?_)
      first
      | ((with_reducible show regOk _ _ = true); kernel_rfl)
      | rfl
      | exact trivial
      | ((repeat' (first | exact trivial | refine And.intro ?_ ?_)); done)
      | decide
      | (intro r hr; simp only [List.mem_cons, List.not_mem_nil, or_false] at hr; first | (subst hr; rfl) | (rcases hr with rfl | rfl <;> rfl) | (rcases hr with rfl | rfl | rfl <;> rfl) | (rcases hr with rfl | rfl | rfl | rfl <;> rfl))
      | (refine And.intro ?_ ?_ <;> simp only [List.length_map, List.length_append, List.length_cons, List.length_nil] <;> omega))
    all_goals try (exfalso; simp only [decide_eq_false_iff_not, decide_eq_true_eq] at *; omega)
    all_goals exact ⟨by rw [hr]⟩
def viewOf (m : TMachine) (most : Int) : TView := if machineOk m = true ∧ 0 ≤ most then ⟨m.fPc, m.fSp, m.fFp, (m.fStack.drop m.fSp.toNat).take most.toNat⟩ else ⟨0, 0, 0, []⟩
theorem viewOf_no {m : TMachine} {most : Int} (h : ¬ (machineOk m = true ∧ 0 ≤ most)) : viewOf m most = ⟨0, 0, 0, []⟩ := by rw [viewOf, if_neg h]
theorem machineOk_iff {m : TMachine} : machineOk m = true ↔ m.fStack.length = 1200 ∧ (0 ≤ m.fSp ∧ m.fSp ≤ 1200) ∧ (0 ≤ m.fState ∧ m.fState ≤ 2) := by
  unfold machineOk
  rw [Bool.and_eq_true, Bool.and_eq_true, within_iff, within_iff, beq_iff_eq]
  exact ⟨fun h => ⟨h.1.1, h.1.2, h.2⟩, fun h => ⟨⟨h.1, h.2.1⟩, h.2.2⟩⟩
theorem s_impl_copyView (v : TView) (hl : v.fWords.length ≤ 1048576) : Sim.Spec Try.prog 93 [.agg v.tr] (.r (.agg (v.tr.map resC))) := by
  refine spec_of_W hΓ hmix Try.func93 rfl (by decide) rfl ?_
  repeat' (
    (conv => whnf)
    first
    | refine Or.inl ?_
    | refine And.intro (Obl.out (?_ : Obl _)) ?_
    | refine ifB_intro (fun h => ?_) (fun h => ?_)
    | refine Exists.intro _ (And.intro rfl ?_)
    | ((with_reducible show _ = _); rfl))
  all_goals try (
    (with_reducible refine Obl.mk ?_)
    first
    | ((with_reducible show regOk _ _ = true); kernel_rfl)
    | rfl
    | exact trivial
    | ((repeat' (first | exact trivial | refine And.intro ?_ ?_)); done)
    | decide
    | (intro r hr; simp only [List.mem_cons, List.not_mem_nil, or_false] at hr; first | (subst hr; rfl) | (rcases hr with rfl | rfl <;> rfl) | (rcases hr with rfl | rfl | rfl <;> rfl) | (rcases hr with rfl | rfl | rfl | rfl <;> rfl))
    | (refine And.intro ?_ ?_ <;> simp only [List.length_map, List.length_append, List.length_cons, List.length_nil] <;> omega))
  all_goals try exact ⟨⟨by simp; omega, by simp; omega⟩⟩
  all_goals try exact ⟨⟨rfl, flat_ints _⟩⟩
theorem s_impl_ViewOf (m : TMachine) (most : Int) : Sim.Spec Try.prog 23 [.agg m.tr, tvI most] (.r (.agg ((viewOf m most).tr.map resC))) := by
  refine spec_of_W hΓ hmix Try.func23 rfl (by decide) rfl ?_
  have hs := s_impl_MachineOk m
  by_cases hc : machineOk m = true ∧ 0 ≤ most
  · obtain ⟨hmo, hmost⟩ := hc
    have hi := machineOk_iff.1 hmo
    obtain ⟨sp, hsp⟩ := Int.eq_ofNat_of_zero_le hi.2.1.1
    obtain ⟨mo, rfl⟩ := Int.eq_ofNat_of_zero_le hmost
    have hcv := s_impl_copyView (viewOf m (mo : Int))
    have hvl : (viewOf m (mo : Int)).fWords = ((m.fStack.take 1200).drop sp).take (min mo (1200 - sp)) := by
      rw [viewOf, if_pos ⟨hmo, hmost⟩, hsp, Int.toNat_natCast, List.take_of_length_le (show m.fStack.length ≤ 1200 by omega)]
      dsimp only
      rw [Int.toNat_natCast]
      rcases Nat.le_total mo (1200 - sp) with h | h
      · rw [Nat.min_eq_left h]
      · rw [Nat.min_eq_right h, List.take_of_length_le (by simp; omega), List.take_of_length_le (by simp; omega)]
    have hv4 : (viewOf m (mo : Int)).fPc = m.fPc ∧ (viewOf m (mo : Int)).fSp = m.fSp ∧ (viewOf m (mo : Int)).fFp = m.fFp := by
      rw [viewOf, if_pos ⟨hmo, hmost⟩]; exact ⟨rfl, rfl, rfl⟩
    generalize viewOf m (mo : Int) = v at *
    have hcv := hcv (by rw [hvl]; simp; omega)
    rw [hmo] at hs
    repeat' (
      (conv => whnf)
      first
      | refine Or.inl ?_
      | refine And.intro (Obl.out (?_ : Obl _)) ?_
      | refine ifB_intro (fun h => ?_) (fun h => ?_)
      | refine call_intro (hs) (And.intro (And.intro rfl (And.intro rfl (And.intro rfl (And.intro rfl (And.intro rfl (And.intro rfl (And.intro rfl trivial))))))) trivial) ?_
      | refine Exists.intro _ (And.intro rfl ?_)
      | ((with_reducible show _ = _); rfl))
    all_goals try (
      (with_reducible refine Obl.mk ?_)
      first
      | ((with_reducible show regOk _ _ = true); kernel_rfl)
      | rfl
      | exact trivial
      | ((repeat' (first | exact trivial | refine And.intro ?_ ?_)); done)
      | decide
      | (intro r hr; simp only [List.mem_cons, List.not_mem_nil, or_false] at hr; first | (subst hr; rfl) | (rcases hr with rfl | rfl <;> rfl) | (rcases hr with rfl | rfl | rfl <;> rfl) | (rcases hr with rfl | rfl | rfl | rfl <;> rfl))
      | (refine And.intro ?_ ?_ <;> simp only [List.length_map, List.length_append, List.length_cons, List.length_nil] <;> omega))
    all_goals try (exfalso; have h' := of_decide_eq_true h; omega; done)
    conv => whnf
    refine ⟨sp, 1200, hsp, (show (1200 : Nat) = (m.fStack.map intRow).length by simp [hi.1]), by omega, by simp [hi.1], ?_⟩
    have hlen2 : (((m.fStack.map intRow).take 1200).drop sp).length = 1200 - sp := by simp [hi.1]
    repeat' (
      (conv => whnf)
      first
      | refine seq_inl ?_
      | refine And.intro (Obl.out (?_ : Obl _)) ?_
      | refine ifB_intro (fun h => ?_) (fun h => ?_)
      | refine Exists.intro _ (And.intro rfl ?_)
      | ((with_reducible show _ = _); rfl))
    all_goals try (
      (with_reducible refine Obl.mk ?_)
      first
      | ((with_reducible show regOk _ _ = true); kernel_rfl)
      | rfl
      | exact trivial
      | ((repeat' (first | exact trivial | refine And.intro ?_ ?_)); done)
      | decide
      | (intro r hr; simp only [List.mem_cons, List.not_mem_nil, or_false] at hr; first | (subst hr; rfl) | (rcases hr with rfl | rfl <;> rfl) | (rcases hr with rfl | rfl | rfl <;> rfl) | (rcases hr with rfl | rfl | rfl | rfl <;> rfl))
      | (refine And.intro ?_ ?_ <;> simp only [List.length_map, List.length_append, List.length_cons, List.length_nil] <;> omega))
    conv => whnf
    refine ⟨0, min mo (1200 - sp), rfl, ?_, by omega, by rw [hlen2]; omega, ?_⟩
    · show (if _ < (mo : Int) then _ else (mo : Int)) = ((min mo (1200 - sp) : Nat) : Int)
      rw [hlen2]
      split <;> omega
    repeat' (
      (conv => whnf)
      first
      | refine seq_inl ?_
      | refine And.intro (Obl.out (?_ : Obl _)) ?_
      | refine ifB_intro (fun h => ?_) (fun h => ?_)
      | refine Exists.intro _ (And.intro rfl ?_)
      | ((with_reducible show _ = _); rfl))
    all_goals try (
      (with_reducible refine Obl.mk ?_)
      first
      | ((with_reducible show regOk _ _ = true); kernel_rfl)
      | rfl
      | exact trivial
      | ((repeat' (first | exact trivial | refine And.intro ?_ ?_)); done)
      | decide
      | (intro r hr; simp only [List.mem_cons, List.not_mem_nil, or_false] at hr; first | (subst hr; rfl) | (rcases hr with rfl | rfl <;> rfl) | (rcases hr with rfl | rfl | rfl <;> rfl) | (rcases hr with rfl | rfl | rfl | rfl <;> rfl))
      | (refine And.intro ?_ ?_ <;> simp only [List.length_map, List.length_append, List.length_cons, List.length_nil] <;> omega))
    refine Or.inl (call_intro hcv (And.intro (And.intro ?_ (And.intro ?_ (And.intro ?_ (And.intro (congrArg (Tr.lst 1) ?_) trivial)))) trivial) ?_)
    · show Tr.int .i64 v.fPc = Tr.int .i64 m.fPc
      rw [hv4.1]
    · show Tr.int .i64 v.fSp = Tr.int .i64 m.fSp
      rw [hv4.2.1]
    · show Tr.int .i64 v.fFp = Tr.int .i64 m.fFp
      rw [hv4.2.2]
    · rw [hvl]; simp [List.map_take, List.map_drop]
    repeat' (
      (conv => whnf)
      first
      | refine Or.inl ?_
      | refine And.intro (Obl.out (?_ : Obl _)) ?_
      | refine ifB_intro (fun h => ?_) (fun h => ?_)
      | refine Exists.intro _ (And.intro rfl ?_)
      | ((with_reducible show _ = _); rfl))
    all_goals try (
      (with_reducible refine Obl.mk ?_)
      first
      | ((with_reducible show regOk _ _ = true); kernel_rfl)
      | rfl
      | exact trivial
      | ((repeat' (first | exact trivial | refine And.intro ?_ ?_)); done)
      | decide
      | (intro r hr; simp only [List.mem_cons, List.not_mem_nil, or_false] at hr; first | (subst hr; rfl) | (rcases hr with rfl | rfl <;> rfl) | (rcases hr with rfl | rfl | rfl <;> rfl) | (rcases hr with rfl | rfl | rfl | rfl <;> rfl))
      | (refine And.intro ?_ ?_ <;> simp only [List.length_map, List.length_append, List.length_cons, List.length_nil] <;> omega))
  · have hv := viewOf_no hc
    rw [hv]
    repeat' (
      (conv => whnf)
      first
      | refine Or.inl ?_
      | refine And.intro (Obl.out (?_ : Obl _)) ?_
      | refine ifB_intro (fun h => ?_) (fun h => ?_)
      | refine call_intro (hs) (And.intro (And.intro rfl (And.intro rfl (And.intro rfl (And.intro rfl (And.intro rfl (And.intro rfl (And.intro rfl trivial))))))) trivial) ?_
      | refine Exists.intro _ (And.intro rfl ?_)
      | ((with_reducible show _ = _); rfl))
    all_goals try (
      (with_reducible refine Obl.mk ?_)
      first
      | ((with_reducible show regOk _ _ = true); kernel_rfl)
      | rfl
      | exact trivial
      | ((repeat' (first | exact trivial | refine And.intro ?_ ?_)); done)
      | decide
      | (intro r hr; simp only [List.mem_cons, List.not_mem_nil, or_false] at hr; first | (subst hr; rfl) | (rcases hr with rfl | rfl <;> rfl) | (rcases hr with rfl | rfl | rfl <;> rfl) | (rcases hr with rfl | rfl | rfl | rfl <;> rfl))
      | (refine And.intro ?_ ?_ <;> simp only [List.length_map, List.length_append, List.length_cons, List.length_nil] <;> omega))
    exfalso
    exact hc ⟨by simp_all, by have := of_decide_eq_false (by assumption : decide (most < 0) = false); omega⟩
theorem s_spec_ViewOf (m : TMachine) (most : Int) : Sim.Spec Try.prog 21 [.agg m.tr, tvI most] (.r (.agg ((viewOf m most).tr.map resC))) := by
  refine spec_of_W hΓ hmix Try.func21 rfl (by decide) rfl ?_
  have hs := s_spec_MachineOk m
  by_cases hc : machineOk m = true ∧ 0 ≤ most
  · obtain ⟨hmo, hmost⟩ := hc
    have hi := machineOk_iff.1 hmo
    obtain ⟨sp, hsp⟩ := Int.eq_ofNat_of_zero_le hi.2.1.1
    obtain ⟨mo, rfl⟩ := Int.eq_ofNat_of_zero_le hmost
    have hvl : ((m.fStack.map intRow).take (sp + min mo (1200 - sp))).drop sp = ((m.fStack.drop m.fSp.toNat).take mo).map intRow := by
      rw [List.drop_take, hsp, Int.toNat_natCast, List.map_take, List.map_drop, Nat.add_sub_cancel_left]
      rcases Nat.le_total mo (1200 - sp) with h | h
      · rw [Nat.min_eq_left h]
      · rw [Nat.min_eq_right h, List.take_of_length_le (by simp; omega), List.take_of_length_le (by simp; omega)]
    rw [viewOf, if_pos ⟨hmo, hmost⟩, Int.toNat_natCast]
    rw [hmo] at hs
    have hw1 : IntKind.i64.wrap (1200 - m.fSp) = ((1200 - sp : Nat) : Int) := by rw [IntWalk.i64_in _ (by omega)]; omega
    repeat' (
      (conv => whnf)
      first
      | refine Or.inl ?_
      | refine And.intro (Obl.out (?_ : Obl _)) ?_
      | refine ifB_intro (fun h => ?_) (fun h => ?_)
      | refine call_intro (hs) (And.intro (And.intro rfl (And.intro rfl (And.intro rfl (And.intro rfl (And.intro rfl (And.intro rfl (And.intro rfl trivial))))))) trivial) ?_
      | refine Exists.intro _ (And.intro rfl ?_)
      | ((with_reducible show _ = _); rfl))
    all_goals try (
      (with_reducible refine Obl.mk ?_)
      first
      | ((with_reducible show regOk _ _ = true); kernel_rfl)
      | rfl
      | exact trivial
      | ((repeat' (first | exact trivial | refine And.intro ?_ ?_)); done)
      | decide
      | (intro r hr; simp only [List.mem_cons, List.not_mem_nil, or_false] at hr; first | (subst hr; rfl) | (rcases hr with rfl | rfl <;> rfl) | (rcases hr with rfl | rfl | rfl <;> rfl) | (rcases hr with rfl | rfl | rfl | rfl <;> rfl))
      | (refine And.intro ?_ ?_ <;> simp only [List.length_map, List.length_append, List.length_cons, List.length_nil] <;> omega))
    all_goals try (exfalso; have h' := of_decide_eq_true h; omega; done)
    conv => whnf
    refine ⟨sp, sp + min mo (1200 - sp), hsp, ?_, by omega, by simp [hi.1]; omega, ?_⟩
    · show IntKind.i64.wrap (m.fSp + (if _ < (mo : Int) then _ else (mo : Int))) = ((sp + min mo (1200 - sp) : Nat) : Int)
      rw [hw1]
      split
      · rw [IntWalk.i64_in _ (by omega)]; omega
      · rw [IntWalk.i64_in _ (by omega)]; omega
    rw [hvl]
    repeat' (
      (conv => whnf)
      first
      | refine Or.inl ?_
      | refine And.intro (Obl.out (?_ : Obl _)) ?_
      | refine ifB_intro (fun h => ?_) (fun h => ?_)
      | refine Exists.intro _ (And.intro rfl ?_)
      | ((with_reducible show _ = _); rfl))
    all_goals try (
      (with_reducible refine Obl.mk ?_)
      first
      | ((with_reducible show regOk _ _ = true); kernel_rfl)
      | rfl
      | exact trivial
      | ((repeat' (first | exact trivial | refine And.intro ?_ ?_)); done)
      | decide
      | (intro r hr; simp only [List.mem_cons, List.not_mem_nil, or_false] at hr; first | (subst hr; rfl) | (rcases hr with rfl | rfl <;> rfl) | (rcases hr with rfl | rfl | rfl <;> rfl) | (rcases hr with rfl | rfl | rfl | rfl <;> rfl))
      | (refine And.intro ?_ ?_ <;> simp only [List.length_map, List.length_append, List.length_cons, List.length_nil] <;> omega))
    all_goals try exact ⟨⟨by simp; omega, by simp; omega⟩⟩
    all_goals try exact ⟨⟨rfl, flat_ints _⟩⟩
  · have hv := viewOf_no hc
    rw [hv]
    repeat' (
      (conv => whnf)
      first
      | refine Or.inl ?_
      | refine And.intro (Obl.out (?_ : Obl _)) ?_
      | refine ifB_intro (fun h => ?_) (fun h => ?_)
      | refine call_intro (hs) (And.intro (And.intro rfl (And.intro rfl (And.intro rfl (And.intro rfl (And.intro rfl (And.intro rfl (And.intro rfl trivial))))))) trivial) ?_
      | refine Exists.intro _ (And.intro rfl ?_)
      | ((with_reducible show _ = _); rfl))
    all_goals try (
      (with_reducible refine Obl.mk ?_)
      first
      | ((with_reducible show regOk _ _ = true); kernel_rfl)
      | rfl
      | exact trivial
      | ((repeat' (first | exact trivial | refine And.intro ?_ ?_)); done)
      | decide
      | (intro r hr; simp only [List.mem_cons, List.not_mem_nil, or_false] at hr; first | (subst hr; rfl) | (rcases hr with rfl | rfl <;> rfl) | (rcases hr with rfl | rfl | rfl <;> rfl) | (rcases hr with rfl | rfl | rfl | rfl <;> rfl))
      | (refine And.intro ?_ ?_ <;> simp only [List.length_map, List.length_append, List.length_cons, List.length_nil] <;> omega))
    exfalso
    exact hc ⟨by simp_all, by have := of_decide_eq_false (by assumption : decide (most < 0) = false); omega⟩
theorem smallRs_of {α : Type} {g : α → List Tr} {L : Int} : ∀ {l : List α}, (∀ x ∈ l, smallR L (g x)) → smallRs L (l.map g)
  | [], _ => by rw [List.map_nil, smallRs]; trivial
  | x :: l, h => by
    rw [List.map_cons, smallRs]
    exact ⟨h x (by simp), smallRs_of fun y hy => h y (by simp [hy])⟩
theorem small_map {α : Type} {g : α → List Tr} {l : List α} {sz : Nat} (hl : l.length ≤ 1048576) (h : ∀ x ∈ l, smallR 1048576 (g x)) : smallT 1048576 (.lst sz (l.map g)) := by
  rw [smallT]
  exact ⟨by simp; omega, smallRs_of h⟩
theorem small_Ints {l : List Int} (hl : l.length ≤ 1048576) : smallT 1048576 (.lst 1 (l.map intRow)) := small_map hl fun x _ => by simp [intRow, smallR, smallT]
theorem small_Row {l : List TRow} (hl : l.length ≤ 1048576) : smallT 1048576 (.lst 3 (l.map TRow.tr)) := small_map hl fun x _ => by simp [TRow.tr, smallR, smallT]
theorem small_Rule {l : List TRule} (hl : l.length ≤ 1048576) : smallT 1048576 (.lst 4 (l.map TRule.tr)) := small_map hl fun x _ => by simp [TRule.tr, smallR, smallT]
theorem small_View {v : TView} (hl : v.fWords.length ≤ 1048576) : smallR 1048576 v.tr := by
  simp only [TView.tr, smallR]
  exact ⟨by simp [smallT], by simp [smallT], by simp [smallT], small_Ints hl, trivial⟩
theorem smallT_len {sz : Nat} {rows : List (List Tr)} (h : smallT 1048576 (.lst sz rows)) : rows.length ≤ 1048576 := by rw [smallT] at h; omega
theorem rowsOf_len2 {l : List TPlace} (h : smallT 1048576 (.lst 8 (l.map TPlace.tr))) : (rowsOf l).length ≤ 1048576 :=
  Nat.le_trans (rowsOfF_len l none) (by have := smallT_len h; simpa using this)
theorem viewOf_len {m : TMachine} {most : Int} (h : smallR 1048576 m.tr) : (viewOf m most).fWords.length ≤ 1048576 := by
  by_cases hc : machineOk m = true ∧ 0 ≤ most
  · have := (machineOk_iff.1 hc.1).1
    rw [viewOf, if_pos hc]; simp; omega
  · rw [viewOf_no hc]; simp
end Go.Proofs.Ytnadkeiidbgmjaa
