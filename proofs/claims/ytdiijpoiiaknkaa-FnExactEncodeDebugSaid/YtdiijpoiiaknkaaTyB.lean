/- The laws' own types: how an argument reads; the helpers to, eq and sz. -/
import Derived.Test.YtdiijpoiiaknkaaFnsE
import Derived.Test.YtdiijpoiiaknkaaBase
namespace Go.Proofs.Ytdiijpoiiaknkaa
open Go.Sim Go.RowKit
set_option maxRecDepth 100000
theorem inI_of {n : Int} (h : (Lit.int .i64 n).wf = true) : inI n := ⟨i64_ge h, i64_le h⟩
theorem ty_int {r : List Tr} (h : ∃ m, r = [Tr.int .i64 m] ∧ (Lit.int .i64 m).wf = true) : ∃ m, r = intRow m ∧ inI m := by
  obtain ⟨m, rfl, hw⟩ := h
  exact ⟨m, rfl, inI_of hw⟩
theorem ty_str {r : List Tr} (h : ∃ s : List UInt8, r = [Tr.str s] ∧ s.length ≤ maxLen) : ∃ m, r = strRow m ∧ m.length ≤ maxLen := by
  obtain ⟨m, rfl, hw⟩ := h
  exact ⟨m, rfl, hw⟩
theorem ty_lst {α : Type} {g : α → List Tr} {Q : α → Prop} {T : List Tr → Prop} {sz : Nat} {r : List Tr} (hT : ∀ x, T x → ∃ y, x = g y ∧ Q y) (h : ∃ rows, r = [Tr.lst sz rows] ∧ rows.length ≤ maxLen ∧ ∀ x ∈ rows, T x) : ∃ l : List α, r = lstRow sz g l ∧ (l.length ≤ maxLen ∧ ∀ y ∈ l, Q y) := by
  obtain ⟨rows, rfl, hl, hr⟩ := h
  obtain ⟨l, rfl, hq⟩ := rows_map (g := g) (Q := Q) (rows := rows) fun r hr' => hT r (hr r hr')
  exact ⟨l, rfl, by simpa using hl, hq⟩
theorem smallRs_map {α : Type} {g : α → List Tr} {L : Int} {l : List α} {sz : Nat} (h : smallT L (.lst sz (l.map g))) {x : α} (hx : x ∈ l) : smallR L (g x) := by
  rw [smallT] at h
  exact smallRs_mem h.2 _ (List.mem_map_of_mem hx)
theorem small_len {α : Type} {g : α → List Tr} {L : Int} {l : List α} {sz : Nat} (h : smallT L (.lst sz (l.map g))) : (l.length : Int) ≤ L := by
  rw [smallT] at h
  simpa using h.1
mutual
theorem szT_one : ∀ (t : Tr) (l : Int), 0 ≤ l → szT t l = -1 ∨ 0 ≤ szT t l
  | .str s, l, h => by rw [szT]; split <;> omega
  | .lst sz rows, l, h => by
    rw [szT]
    split
    · exact .inl rfl
    · exact szRs_one rows _ (by omega)
  | .int k n, l, h => by rw [szT]; omega
  | .bool b, l, h => by rw [szT]; omega
theorem szR_one : ∀ (cs : List Tr) (l : Int), 0 ≤ l → szR cs l = -1 ∨ 0 ≤ szR cs l
  | [], l, h => by rw [szR]; omega
  | c :: cs, l, h => by
    rw [szR]
    split
    · exact .inl rfl
    · exact szR_one cs _ (by omega)
theorem szRs_one : ∀ (rs : List (List Tr)) (l : Int), 0 ≤ l → szRs rs l = -1 ∨ 0 ≤ szRs rs l
  | [], l, h => by rw [szRs]; omega
  | r :: rs, l, h => by
    rw [szRs]
    split
    · exact .inl rfl
    · exact szRs_one rs _ (by omega)
end
theorem szR_append : ∀ (a b : List Tr) (l : Int), 0 ≤ l → szR (a ++ b) l = if szR a l < 0 then -1 else szR b (szR a l)
  | [], b, l, h => by rw [List.nil_append, szR, if_neg (by omega)]
  | c :: a, b, l, h => by
    rw [List.cons_append, szR, szR]
    split
    · rw [if_pos (by omega)]
    · exact szR_append a b _ (by omega)
theorem szR_single (t : Tr) (l : Int) (h : 0 ≤ l) : szR [t] l = szT t l := by
  rw [szR, szR]
  split
  · rcases szT_one t l h with e | e <;> omega
  · rfl
theorem small_nat {α : Type} {g : α → List Tr} {l : List α} {sz : Nat} (h : smallT 1048576 (.lst sz (l.map g))) : l.length ≤ 1048576 := by
  have := small_len h
  omega
theorem small_str {L : Int} {s : List UInt8} (h : smallT L (.str s)) : (s.length : Int) ≤ L := by rw [smallT] at h; exact h
theorem s_laws_toStringS (ns : List (List UInt8)) (hs : smallT 1048576 (.lst 1 (ns.map strRow))) : Sim.Spec Try.prog 156 [tvL 1 (ns.map strRow)] (rL 1 (ns.map strRow)) := by
  have hl := small_len hs
  refine spec_of_W hΓ hmix Try.func156 rfl (by decide) rfl ?_
  have hlen : (ns.map strRow).length = ns.length := by simp
  repeat' (
    (conv => whnf)
    first
    | refine Or.inl ?_
    | refine And.intro (Obl.out (?_ : Obl _)) ?_
    | refine ifB_intro (fun h => ?_) (fun h => ?_)
    | refine Exists.intro _ (And.intro rfl ?_)
    | ((with_reducible show _ = _); rfl))
  all_goals try (
    (with_reducible refine Obl.mk ?_)
    first
    | ((with_reducible show regOk _ _ = true); kernel_rfl)
    | rfl
    | exact trivial
    | ((repeat' (first | exact trivial | refine And.intro ?_ ?_)); done)
    | decide
    | (intro r hr; simp only [List.mem_cons, List.not_mem_nil, or_false] at hr; first | (subst hr; rfl) | (rcases hr with rfl | rfl <;> rfl) | (rcases hr with rfl | rfl | rfl <;> rfl) | (rcases hr with rfl | rfl | rfl | rfl <;> rfl))
    | (refine And.intro ?_ ?_ <;> simp only [List.length_map, List.length_append, List.length_cons, List.length_nil] <;> omega))
  · exact ⟨by omega⟩
  · exact ⟨by dsimp only; omega⟩
  repeat' (
    (conv => whnf)
    first
    | refine Or.inl ?_
    | refine And.intro (Obl.out (?_ : Obl _)) ?_
    | refine ifB_intro (fun h => ?_) (fun h => ?_)
    | refine Exists.intro _ (And.intro rfl ?_)
    | ((with_reducible show _ = _); rfl))
  all_goals try (
    (with_reducible refine Obl.mk ?_)
    first
    | ((with_reducible show regOk _ _ = true); kernel_rfl)
    | rfl
    | exact trivial
    | ((repeat' (first | exact trivial | refine And.intro ?_ ?_)); done)
    | decide
    | (intro r hr; simp only [List.mem_cons, List.not_mem_nil, or_false] at hr; first | (subst hr; rfl) | (rcases hr with rfl | rfl <;> rfl) | (rcases hr with rfl | rfl | rfl <;> rfl) | (rcases hr with rfl | rfl | rfl | rfl <;> rfl))
    | (refine And.intro ?_ ?_ <;> simp only [List.length_map, List.length_append, List.length_cons, List.length_nil] <;> omega))
  conv => whnf
  refine ⟨{ k : Nat // k ≤ ns.length }, fun k => ⟨[(0, .r (.c (.t (.lst 1 (ns.map strRow))))), (3, .r (.c (.own (3, 0, 0)))), (4, tI .i64 (k.1 : Int))], [((3, 0, 0), some (.arr true 1 (filled (ns.map strRow) (strRow []) k.1)))], [3]⟩, fun k => ns.length - k.1, ⟨0, by omega⟩, ?_, ?_⟩
  · skip
    repeat' (
      (conv => whnf)
      first
      | refine Or.inl ?_
      | refine And.intro (Obl.out (?_ : Obl _)) ?_
      | refine ifB_intro (fun h => ?_) (fun h => ?_)
      | refine Exists.intro _ (And.intro rfl ?_)
      | ((with_reducible show _ = _); rfl))
    all_goals try (
      (with_reducible refine Obl.mk ?_)
      first
      | ((with_reducible show regOk _ _ = true); kernel_rfl)
      | rfl
      | exact trivial
      | ((repeat' (first | exact trivial | refine And.intro ?_ ?_)); done)
      | decide
      | (intro r hr; simp only [List.mem_cons, List.not_mem_nil, or_false] at hr; first | (subst hr; rfl) | (rcases hr with rfl | rfl <;> rfl) | (rcases hr with rfl | rfl | rfl <;> rfl) | (rcases hr with rfl | rfl | rfl | rfl <;> rfl))
      | (refine And.intro ?_ ?_ <;> simp only [List.length_map, List.length_append, List.length_cons, List.length_nil] <;> omega))
  intro ⟨k, hk⟩
  dsimp only
  repeat' (
    (conv => whnf)
    first
    | refine Or.inl ?_
    | refine And.intro (Obl.out (?_ : Obl _)) ?_
    | refine ifB_intro (fun h => ?_) (fun h => ?_)
    | refine Exists.intro _ (And.intro rfl ?_)
    | ((with_reducible show _ = _); rfl))
  all_goals try (
    (with_reducible refine Obl.mk ?_)
    first
    | ((with_reducible show regOk _ _ = true); kernel_rfl)
    | rfl
    | exact trivial
    | ((repeat' (first | exact trivial | refine And.intro ?_ ?_)); done)
    | decide
    | (intro r hr; simp only [List.mem_cons, List.not_mem_nil, or_false] at hr; first | (subst hr; rfl) | (rcases hr with rfl | rfl <;> rfl) | (rcases hr with rfl | rfl | rfl <;> rfl) | (rcases hr with rfl | rfl | rfl | rfl <;> rfl))
    | (refine And.intro ?_ ?_ <;> simp only [List.length_map, List.length_append, List.length_cons, List.length_nil] <;> omega))
  · have hlt : k < ns.length := by have := of_decide_eq_true h; omega
    obtain ⟨x, hx⟩ := get_of_lt hlt
    conv => whnf
    refine ⟨k, strRow x, rfl, map_get hx, ?_⟩
    repeat' (
      (conv => whnf)
      first
      | refine Or.inl ?_
      | refine And.intro (Obl.out (?_ : Obl _)) ?_
      | refine ifB_intro (fun h => ?_) (fun h => ?_)
      | refine Exists.intro _ (And.intro rfl ?_)
      | ((with_reducible show _ = _); rfl))
    all_goals try (
      (with_reducible refine Obl.mk ?_)
      first
      | ((with_reducible show regOk _ _ = true); kernel_rfl)
      | rfl
      | exact trivial
      | ((repeat' (first | exact trivial | refine And.intro ?_ ?_)); done)
      | decide
      | (intro r hr; simp only [List.mem_cons, List.not_mem_nil, or_false] at hr; first | (subst hr; rfl) | (rcases hr with rfl | rfl <;> rfl) | (rcases hr with rfl | rfl | rfl <;> rfl) | (rcases hr with rfl | rfl | rfl | rfl <;> rfl))
      | (refine And.intro ?_ ?_ <;> simp only [List.length_map, List.length_append, List.length_cons, List.length_nil] <;> omega))
    · exact ⟨by rw [filled_len (by omega)]; omega⟩
    conv => whnf
    refine ⟨strRow [], filled_get (by omega), ?_⟩
    repeat' (
      (conv => whnf)
      first
      | refine Or.inl ?_
      | refine And.intro (Obl.out (?_ : Obl _)) ?_
      | refine ifB_intro (fun h => ?_) (fun h => ?_)
      | refine Exists.intro _ (And.intro rfl ?_)
      | ((with_reducible show _ = _); rfl))
    all_goals try (
      (with_reducible refine Obl.mk ?_)
      first
      | ((with_reducible show regOk _ _ = true); kernel_rfl)
      | rfl
      | exact trivial
      | ((repeat' (first | exact trivial | refine And.intro ?_ ?_)); done)
      | decide
      | (intro r hr; simp only [List.mem_cons, List.not_mem_nil, or_false] at hr; first | (subst hr; rfl) | (rcases hr with rfl | rfl <;> rfl) | (rcases hr with rfl | rfl | rfl <;> rfl) | (rcases hr with rfl | rfl | rfl | rfl <;> rfl))
      | (refine And.intro ?_ ?_ <;> simp only [List.length_map, List.length_append, List.length_cons, List.length_nil] <;> omega))
    conv => whnf
    refine ⟨⟨k + 1, by omega⟩, ?_, by dsimp only; omega⟩
    repeat' (
      (conv => whnf)
      first
      | refine Or.inl ?_
      | refine And.intro (Obl.out (?_ : Obl _)) ?_
      | refine ifB_intro (fun h => ?_) (fun h => ?_)
      | refine Exists.intro _ (And.intro rfl ?_)
      | ((with_reducible show _ = _); rfl))
    all_goals try (
      (with_reducible refine Obl.mk ?_)
      first
      | ((with_reducible show regOk _ _ = true); kernel_rfl)
      | rfl
      | exact trivial
      | ((repeat' (first | exact trivial | refine And.intro ?_ ?_)); done)
      | decide
      | (intro r hr; simp only [List.mem_cons, List.not_mem_nil, or_false] at hr; first | (subst hr; rfl) | (rcases hr with rfl | rfl <;> rfl) | (rcases hr with rfl | rfl | rfl <;> rfl) | (rcases hr with rfl | rfl | rfl | rfl <;> rfl))
      | (refine And.intro ?_ ?_ <;> simp only [List.length_map, List.length_append, List.length_cons, List.length_nil] <;> omega))
    · exact ⟨by dsimp only; rw [IntWalk.i64_in _ (by omega)]; rfl⟩
    · exact ⟨filled_set (map_get hx)⟩
  · have hge : ns.length ≤ k := by have := of_decide_eq_false h; omega
    exact ⟨filled_all (by omega)⟩
theorem s_laws_eqStringS (ns : List (List UInt8)) (hs : smallT 1048576 (.lst 1 (ns.map strRow))) : Sim.Spec Try.prog 158 [tvL 1 (ns.map strRow), tvL 1 (ns.map strRow)] (rB true) := by
  have hl := small_len hs
  refine spec_of_W hΓ hmix Try.func158 rfl (by decide) rfl ?_
  have hlen : (ns.map strRow).length = ns.length := by simp
  repeat' (
    (conv => whnf)
    first
    | refine Or.inl ?_
    | refine And.intro (Obl.out (?_ : Obl _)) ?_
    | refine ifB_intro (fun h => ?_) (fun h => ?_)
    | refine Exists.intro _ (And.intro rfl ?_)
    | ((with_reducible show _ = _); rfl))
  all_goals try (
    (with_reducible refine Obl.mk ?_)
    first
    | ((with_reducible show regOk _ _ = true); kernel_rfl)
    | rfl
    | exact trivial
    | ((repeat' (first | exact trivial | refine And.intro ?_ ?_)); done)
    | decide
    | (intro r hr; simp only [List.mem_cons, List.not_mem_nil, or_false] at hr; first | (subst hr; rfl) | (rcases hr with rfl | rfl <;> rfl) | (rcases hr with rfl | rfl | rfl <;> rfl) | (rcases hr with rfl | rfl | rfl | rfl <;> rfl))
    | (refine And.intro ?_ ?_ <;> simp only [List.length_map, List.length_append, List.length_cons, List.length_nil] <;> omega))
  · simp at h
  conv => whnf
  refine ⟨{ k : Nat // k ≤ ns.length }, fun k => ⟨[(0, .r (.c (.t (.lst 1 (ns.map strRow))))), (1, .r (.c (.t (.lst 1 (ns.map strRow))))), (5, tI .i64 (k.1 : Int))], [], []⟩, fun k => ns.length - k.1, ⟨0, by omega⟩, ?_, ?_⟩
  · skip
    repeat' (
      (conv => whnf)
      first
      | refine Or.inl ?_
      | refine And.intro (Obl.out (?_ : Obl _)) ?_
      | refine ifB_intro (fun h => ?_) (fun h => ?_)
      | refine Exists.intro _ (And.intro rfl ?_)
      | ((with_reducible show _ = _); rfl))
    all_goals try (
      (with_reducible refine Obl.mk ?_)
      first
      | ((with_reducible show regOk _ _ = true); kernel_rfl)
      | rfl
      | exact trivial
      | ((repeat' (first | exact trivial | refine And.intro ?_ ?_)); done)
      | decide
      | (intro r hr; simp only [List.mem_cons, List.not_mem_nil, or_false] at hr; first | (subst hr; rfl) | (rcases hr with rfl | rfl <;> rfl) | (rcases hr with rfl | rfl | rfl <;> rfl) | (rcases hr with rfl | rfl | rfl | rfl <;> rfl))
      | (refine And.intro ?_ ?_ <;> simp only [List.length_map, List.length_append, List.length_cons, List.length_nil] <;> omega))
  intro ⟨k, hk⟩
  dsimp only
  repeat' (
    (conv => whnf)
    first
    | refine Or.inl ?_
    | refine And.intro (Obl.out (?_ : Obl _)) ?_
    | refine ifB_intro (fun h => ?_) (fun h => ?_)
    | refine Exists.intro _ (And.intro rfl ?_)
    | ((with_reducible show _ = _); rfl))
  all_goals try (
    (with_reducible refine Obl.mk ?_)
    first
    | ((with_reducible show regOk _ _ = true); kernel_rfl)
    | rfl
    | exact trivial
    | ((repeat' (first | exact trivial | refine And.intro ?_ ?_)); done)
    | decide
    | (intro r hr; simp only [List.mem_cons, List.not_mem_nil, or_false] at hr; first | (subst hr; rfl) | (rcases hr with rfl | rfl <;> rfl) | (rcases hr with rfl | rfl | rfl <;> rfl) | (rcases hr with rfl | rfl | rfl | rfl <;> rfl))
    | (refine And.intro ?_ ?_ <;> simp only [List.length_map, List.length_append, List.length_cons, List.length_nil] <;> omega))
  · have hlt : k < ns.length := by have := of_decide_eq_true h; omega
    obtain ⟨x, hx⟩ := get_of_lt hlt
    conv => whnf
    refine ⟨k, strRow x, rfl, map_get hx, ?_⟩
    repeat' (
      (conv => whnf)
      first
      | refine Or.inl ?_
      | refine And.intro (Obl.out (?_ : Obl _)) ?_
      | refine ifB_intro (fun h => ?_) (fun h => ?_)
      | refine Exists.intro _ (And.intro rfl ?_)
      | ((with_reducible show _ = _); rfl))
    all_goals try (
      (with_reducible refine Obl.mk ?_)
      first
      | ((with_reducible show regOk _ _ = true); kernel_rfl)
      | rfl
      | exact trivial
      | ((repeat' (first | exact trivial | refine And.intro ?_ ?_)); done)
      | decide
      | (intro r hr; simp only [List.mem_cons, List.not_mem_nil, or_false] at hr; first | (subst hr; rfl) | (rcases hr with rfl | rfl <;> rfl) | (rcases hr with rfl | rfl | rfl <;> rfl) | (rcases hr with rfl | rfl | rfl | rfl <;> rfl))
      | (refine And.intro ?_ ?_ <;> simp only [List.length_map, List.length_append, List.length_cons, List.length_nil] <;> omega))
    conv => whnf
    refine ⟨k, strRow x, rfl, map_get hx, ?_⟩
    repeat' (
      (conv => whnf)
      first
      | refine Or.inl ?_
      | refine And.intro (Obl.out (?_ : Obl _)) ?_
      | refine ifB_intro (fun h => ?_) (fun h => ?_)
      | refine Exists.intro _ (And.intro rfl ?_)
      | ((with_reducible show _ = _); rfl))
    all_goals try (
      (with_reducible refine Obl.mk ?_)
      first
      | ((with_reducible show regOk _ _ = true); kernel_rfl)
      | rfl
      | exact trivial
      | ((repeat' (first | exact trivial | refine And.intro ?_ ?_)); done)
      | decide
      | (intro r hr; simp only [List.mem_cons, List.not_mem_nil, or_false] at hr; first | (subst hr; rfl) | (rcases hr with rfl | rfl <;> rfl) | (rcases hr with rfl | rfl | rfl <;> rfl) | (rcases hr with rfl | rfl | rfl | rfl <;> rfl))
      | (refine And.intro ?_ ?_ <;> simp only [List.length_map, List.length_append, List.length_cons, List.length_nil] <;> omega))
    · simp at h
    conv => whnf
    refine ⟨⟨k + 1, by omega⟩, ?_, by dsimp only; omega⟩
    repeat' (
      (conv => whnf)
      first
      | refine Or.inl ?_
      | refine And.intro (Obl.out (?_ : Obl _)) ?_
      | refine ifB_intro (fun h => ?_) (fun h => ?_)
      | refine Exists.intro _ (And.intro rfl ?_)
      | ((with_reducible show _ = _); rfl))
    all_goals try (
      (with_reducible refine Obl.mk ?_)
      first
      | ((with_reducible show regOk _ _ = true); kernel_rfl)
      | rfl
      | exact trivial
      | ((repeat' (first | exact trivial | refine And.intro ?_ ?_)); done)
      | decide
      | (intro r hr; simp only [List.mem_cons, List.not_mem_nil, or_false] at hr; first | (subst hr; rfl) | (rcases hr with rfl | rfl <;> rfl) | (rcases hr with rfl | rfl | rfl <;> rfl) | (rcases hr with rfl | rfl | rfl | rfl <;> rfl))
      | (refine And.intro ?_ ?_ <;> simp only [List.length_map, List.length_append, List.length_cons, List.length_nil] <;> omega))
    exact ⟨by dsimp only; rw [IntWalk.i64_in _ (by omega)]; rfl⟩
theorem s_laws_szIntS (ns : List Int) (hw : ns.length ≤ maxLen) (left : Int) (hle0 : 0 ≤ left) (hle1 : left ≤ 1048576) : Sim.Spec Try.prog 114 [tvL 1 (ns.map intRow), tvI left] (rI (szT (.lst 1 (ns.map intRow)) left)) := by
  have hl2 : (ns.map intRow).length ≤ 9223372036854775807 := by simpa [maxLen] using hw
  rw [szT]
  refine spec_of_W hΓ hmix Try.func114 rfl (by decide) rfl ?_
  repeat' (
    (conv => whnf)
    first
    | refine Or.inl ?_
    | refine And.intro (Obl.out (?_ : Obl _)) ?_
    | refine ifB_intro (fun h => ?_) (fun h => ?_)
    | refine Exists.intro _ (And.intro rfl ?_)
    | ((with_reducible show _ = _); rfl))
  all_goals try (
    (with_reducible refine Obl.mk ?_)
    first
    | ((with_reducible show regOk _ _ = true); kernel_rfl)
    | rfl
    | exact trivial
    | ((repeat' (first | exact trivial | refine And.intro ?_ ?_)); done)
    | decide
    | (intro r hr; simp only [List.mem_cons, List.not_mem_nil, or_false] at hr; first | (subst hr; rfl) | (rcases hr with rfl | rfl <;> rfl) | (rcases hr with rfl | rfl | rfl <;> rfl) | (rcases hr with rfl | rfl | rfl | rfl <;> rfl))
    | (refine And.intro ?_ ?_ <;> simp only [List.length_map, List.length_append, List.length_cons, List.length_nil] <;> omega))
  all_goals refine ⟨congrArg (Tr.int _) ?_⟩
  · have h2 := of_decide_eq_true h
    rw [IntWalk.i64_in _ (by omega)] at h2
    rw [if_pos h2]
  · have h2 := of_decide_eq_false h
    rw [IntWalk.i64_in _ (by omega)] at h2 ⊢
    rw [if_neg h2, szRs_plain _ _ (fun r hr c hc => ?_) (by omega)]
    obtain ⟨n, _, rfl⟩ := List.mem_map.1 hr
    simp only [intRow, List.mem_cons, List.not_mem_nil, or_false] at hc
    subst hc
    trivial
theorem s_laws_szStringS (ns : List (List UInt8)) (hw : ns.length ≤ maxLen ∧ ∀ y ∈ ns, y.length ≤ maxLen) (left : Int) (hle0 : 0 ≤ left) (hle1 : left ≤ 1048576) : Sim.Spec Try.prog 154 [tvL 1 (ns.map strRow), tvI left] (rI (szT (.lst 1 (ns.map strRow)) left)) := by
  have hlen : (ns.map strRow).length = ns.length := by simp
  have hl2 : ns.length ≤ 9223372036854775807 := by simpa [maxLen] using hw.1
  rw [szT]
  refine spec_of_W hΓ hmix Try.func154 rfl (by decide) rfl ?_
  repeat' (
    (conv => whnf)
    first
    | refine Or.inl ?_
    | refine And.intro (Obl.out (?_ : Obl _)) ?_
    | refine ifB_intro (fun h => ?_) (fun h => ?_)
    | refine Exists.intro _ (And.intro rfl ?_)
    | ((with_reducible show _ = _); rfl))
  all_goals try (
    (with_reducible refine Obl.mk ?_)
    first
    | ((with_reducible show regOk _ _ = true); kernel_rfl)
    | rfl
    | exact trivial
    | ((repeat' (first | exact trivial | refine And.intro ?_ ?_)); done)
    | decide
    | (intro r hr; simp only [List.mem_cons, List.not_mem_nil, or_false] at hr; first | (subst hr; rfl) | (rcases hr with rfl | rfl <;> rfl) | (rcases hr with rfl | rfl | rfl <;> rfl) | (rcases hr with rfl | rfl | rfl | rfl <;> rfl))
    | (refine And.intro ?_ ?_ <;> simp only [List.length_map, List.length_append, List.length_cons, List.length_nil] <;> omega))
  · refine ⟨congrArg (Tr.int _) ?_⟩
    have h2 := of_decide_eq_true h
    rw [IntWalk.i64_in _ (by omega)] at h2
    rw [if_pos h2]
  have h2 := of_decide_eq_false h
  rw [IntWalk.i64_in _ (by omega)] at h2 ⊢
  rw [if_neg h2]
  conv => whnf
  refine ⟨{ q : Nat × Int // q.1 ≤ ns.length ∧ 0 ≤ q.2 ∧ q.2 ≤ 1048576 ∧ szRs ((ns.drop q.1).map strRow) q.2 = szRs (ns.map strRow) (left - (ns.map strRow).length) }, fun q => ⟨[(0, .r (.c (.t (.lst 1 (ns.map strRow))))), (1, tI .i64 q.1.2), (5, tI .i64 (q.1.1 : Int))], [], []⟩, fun q => ns.length - q.1.1, ⟨(0, left - (ns.map strRow).length), by simp, by dsimp only; omega, by dsimp only; omega, by simp⟩, ?_, ?_⟩
  · skip
    repeat' (
      (conv => whnf)
      first
      | refine Or.inl ?_
      | refine And.intro (Obl.out (?_ : Obl _)) ?_
      | refine ifB_intro (fun h => ?_) (fun h => ?_)
      | refine Exists.intro _ (And.intro rfl ?_)
      | ((with_reducible show _ = _); rfl))
    all_goals try (
      (with_reducible refine Obl.mk ?_)
      first
      | ((with_reducible show regOk _ _ = true); kernel_rfl)
      | rfl
      | exact trivial
      | ((repeat' (first | exact trivial | refine And.intro ?_ ?_)); done)
      | decide
      | (intro r hr; simp only [List.mem_cons, List.not_mem_nil, or_false] at hr; first | (subst hr; rfl) | (rcases hr with rfl | rfl <;> rfl) | (rcases hr with rfl | rfl | rfl <;> rfl) | (rcases hr with rfl | rfl | rfl | rfl <;> rfl))
      | (refine And.intro ?_ ?_ <;> simp only [List.length_map, List.length_append, List.length_cons, List.length_nil] <;> omega))
  intro ⟨⟨k, lk⟩, hk, h0, h1, hsz⟩
  dsimp only at hk h0 h1 hsz ⊢
  repeat' (
    (conv => whnf)
    first
    | refine Or.inl ?_
    | refine And.intro (Obl.out (?_ : Obl _)) ?_
    | refine ifB_intro (fun h => ?_) (fun h => ?_)
    | refine Exists.intro _ (And.intro rfl ?_)
    | ((with_reducible show _ = _); rfl))
  all_goals try (
    (with_reducible refine Obl.mk ?_)
    first
    | ((with_reducible show regOk _ _ = true); kernel_rfl)
    | rfl
    | exact trivial
    | ((repeat' (first | exact trivial | refine And.intro ?_ ?_)); done)
    | decide
    | (intro r hr; simp only [List.mem_cons, List.not_mem_nil, or_false] at hr; first | (subst hr; rfl) | (rcases hr with rfl | rfl <;> rfl) | (rcases hr with rfl | rfl | rfl <;> rfl) | (rcases hr with rfl | rfl | rfl | rfl <;> rfl))
    | (refine And.intro ?_ ?_ <;> simp only [List.length_map, List.length_append, List.length_cons, List.length_nil] <;> omega))
  · have hlt : k < ns.length := by have := of_decide_eq_true h; omega
    obtain ⟨x, hx⟩ := get_of_lt hlt
    have hxl : x.length ≤ 9223372036854775807 := by simpa [maxLen] using hw.2 x (List.mem_of_getElem? hx)
    rw [drop_at hx, List.map_cons, szRs, strRow, szR, szT] at hsz
    conv => whnf
    refine ⟨k, strRow x, rfl, map_get hx, ?_⟩
    repeat' (
      (conv => whnf)
      first
      | refine Or.inl ?_
      | refine And.intro (Obl.out (?_ : Obl _)) ?_
      | refine ifB_intro (fun h => ?_) (fun h => ?_)
      | refine Exists.intro _ (And.intro rfl ?_)
      | ((with_reducible show _ = _); rfl))
    all_goals try (
      (with_reducible refine Obl.mk ?_)
      first
      | ((with_reducible show regOk _ _ = true); kernel_rfl)
      | rfl
      | exact trivial
      | ((repeat' (first | exact trivial | refine And.intro ?_ ?_)); done)
      | decide
      | (intro r hr; simp only [List.mem_cons, List.not_mem_nil, or_false] at hr; first | (subst hr; rfl) | (rcases hr with rfl | rfl <;> rfl) | (rcases hr with rfl | rfl | rfl <;> rfl) | (rcases hr with rfl | rfl | rfl | rfl <;> rfl))
      | (refine And.intro ?_ ?_ <;> simp only [List.length_map, List.length_append, List.length_cons, List.length_nil] <;> omega))
    · refine ⟨congrArg (Tr.int _) ?_⟩
      have h3 := of_decide_eq_true h
      rw [IntWalk.i64_in _ (by omega)] at h3
      rw [← hsz, if_pos h3]
      simp
    have h3 := of_decide_eq_false h
    rw [IntWalk.i64_in _ (by omega)] at h3
    rw [if_neg h3, if_neg h3, szR, if_neg h3] at hsz
    conv => whnf
    refine ⟨⟨(k + 1, lk - x.length), by dsimp only; omega, by dsimp only; omega, by dsimp only; omega, hsz⟩, ?_, by dsimp only; omega⟩
    repeat' (
      (conv => whnf)
      first
      | refine Or.inl ?_
      | refine And.intro (Obl.out (?_ : Obl _)) ?_
      | refine ifB_intro (fun h => ?_) (fun h => ?_)
      | refine Exists.intro _ (And.intro rfl ?_)
      | ((with_reducible show _ = _); rfl))
    all_goals try (
      (with_reducible refine Obl.mk ?_)
      first
      | ((with_reducible show regOk _ _ = true); kernel_rfl)
      | rfl
      | exact trivial
      | ((repeat' (first | exact trivial | refine And.intro ?_ ?_)); done)
      | decide
      | (intro r hr; simp only [List.mem_cons, List.not_mem_nil, or_false] at hr; first | (subst hr; rfl) | (rcases hr with rfl | rfl <;> rfl) | (rcases hr with rfl | rfl | rfl <;> rfl) | (rcases hr with rfl | rfl | rfl | rfl <;> rfl))
      | (refine And.intro ?_ ?_ <;> simp only [List.length_map, List.length_append, List.length_cons, List.length_nil] <;> omega))
    · exact ⟨by dsimp only; rw [IntWalk.i64_in _ (by omega)]⟩
    · exact ⟨by dsimp only; rw [IntWalk.i64_in _ (by omega)]; rfl⟩
  · have hge : ns.length ≤ k := by have := of_decide_eq_false h; omega
    rw [List.drop_eq_nil_of_le hge, List.map_nil, szRs] at hsz
    exact ⟨congrArg (Tr.int _) hsz⟩
theorem ty_Op {row : List Tr} (h : typed Γ 8 159 row) : ∃ x : TOp, row = x.tr ∧ x.wf := by
  obtain ⟨_, _, rfl, ⟨x0, rfl, w0⟩, _, _, rfl, ⟨x1, rfl, w1⟩, rfl⟩ := h
  exact ⟨⟨x0, x1⟩, rfl, ⟨inI_of w0, inI_of w1⟩⟩
theorem ty_Tok {row : List Tr} (h : typed Γ 8 225 row) : ∃ x : TTok, row = x.tr ∧ x.wf := by
  obtain ⟨_, _, rfl, ⟨x0, rfl, w0⟩, _, _, rfl, ⟨x1, rfl, w1⟩, _, _, rfl, ⟨x2, rfl, w2⟩, rfl⟩ := h
  exact ⟨⟨x0, x1, x2⟩, rfl, ⟨inI_of w0, inI_of w1, w2⟩⟩
theorem ty_Line {row : List Tr} (h : typed Γ 8 119 row) : ∃ x : TLine, row = x.tr ∧ x.wf := by
  obtain ⟨_, _, rfl, ⟨x0, rfl, w0⟩, _, _, rfl, ⟨x1, rfl, w1⟩, _, _, rfl, ⟨r2, rfl, w2, e2⟩, _, _, rfl, ⟨r3, rfl, w3, e3⟩, rfl⟩ := h
  obtain ⟨x2, rfl, v2⟩ := rows_map (g := strRow) (Q := (fun y => y.length ≤ maxLen)) (rows := r2) (fun r hr => ty_str (e2 r hr))
  obtain ⟨x3, rfl, v3⟩ := rows_map (g := TTok.tr) (Q := (fun y => y.wf)) (rows := r3) (fun r hr => ty_Tok (typed_le (by decide) (e3 r hr)))
  exact ⟨⟨x0, x1, x2, x3⟩, rfl, ⟨inI_of w0, w1, ⟨by simpa using w2, v2⟩, ⟨by simpa using w3, v3⟩⟩⟩
theorem ty_Item {row : List Tr} (h : typed Γ 8 161 row) : ∃ x : TItem, row = x.tr ∧ x.wf := by
  obtain ⟨_, _, rfl, h0, _, _, rfl, ⟨x1, rfl, w1⟩, _, _, rfl, ⟨x2, rfl⟩, _, _, rfl, ⟨r3, rfl, w3, e3⟩, _, _, rfl, ⟨x4, rfl, w4⟩, _, _, rfl, ⟨x5, rfl⟩, rfl⟩ := h
  obtain ⟨x0, rfl, v0⟩ := ty_Op (typed_le (by decide) h0)
  obtain ⟨x3, rfl, v3⟩ := rows_map (g := intRow) (Q := (fun y => inI y)) (rows := r3) (fun r hr => ty_int (e3 r hr))
  exact ⟨⟨x0, x1, x2, x3, x4, x5⟩, rfl, ⟨v0, inI_of w1, ⟨by simpa using w3, v3⟩, inI_of w4⟩⟩
theorem ty_Symbol {row : List Tr} (h : typed Γ 8 203 row) : ∃ x : TSymbol, row = x.tr ∧ x.wf := by
  obtain ⟨_, _, rfl, ⟨x0, rfl, w0⟩, _, _, rfl, ⟨x1, rfl, w1⟩, _, _, rfl, ⟨x2, rfl, w2⟩, rfl⟩ := h
  exact ⟨⟨x0, x1, x2⟩, rfl, ⟨w0, inI_of w1, inI_of w2⟩⟩
theorem ty_Image {row : List Tr} (h : typed Γ 8 31 row) : ∃ x : TImage, row = x.tr ∧ x.wf := by
  obtain ⟨_, _, rfl, ⟨x0, rfl, w0⟩, _, _, rfl, ⟨r1, rfl, w1, e1⟩, rfl⟩ := h
  obtain ⟨x1, rfl, v1⟩ := rows_map (g := TSymbol.tr) (Q := (fun y => y.wf)) (rows := r1) (fun r hr => ty_Symbol (typed_le (by decide) (e1 r hr)))
  exact ⟨⟨x0, x1⟩, rfl, ⟨w0, ⟨by simpa using w1, v1⟩⟩⟩
theorem ty_Space {row : List Tr} (h : typed Γ 8 97 row) : ∃ x : TSpace, row = x.tr ∧ x.wf := by
  obtain ⟨_, _, rfl, ⟨r0, rfl, w0, e0⟩, _, _, rfl, ⟨r1, rfl, w1, e1⟩, _, _, rfl, ⟨r2, rfl, w2, e2⟩, rfl⟩ := h
  obtain ⟨x0, rfl, v0⟩ := rows_map (g := TImage.tr) (Q := (fun y => y.wf)) (rows := r0) (fun r hr => ty_Image (typed_le (by decide) (e0 r hr)))
  obtain ⟨x1, rfl, v1⟩ := rows_map (g := intRow) (Q := (fun y => inI y)) (rows := r1) (fun r hr => ty_int (e1 r hr))
  obtain ⟨x2, rfl, v2⟩ := rows_map (g := intRow) (Q := (fun y => inI y)) (rows := r2) (fun r hr => ty_int (e2 r hr))
  exact ⟨⟨x0, x1, x2⟩, rfl, ⟨⟨by simpa using w0, v0⟩, ⟨by simpa using w1, v1⟩, ⟨by simpa using w2, v2⟩⟩⟩
theorem ty_Machine {row : List Tr} (h : typed Γ 8 57 row) : ∃ x : TMachine, row = x.tr ∧ x.wf := by
  obtain ⟨_, _, rfl, ⟨x0, rfl, w0⟩, _, _, rfl, ⟨x1, rfl, w1⟩, _, _, rfl, ⟨x2, rfl, w2⟩, _, _, rfl, ⟨r3, rfl, w3, e3⟩, _, _, rfl, ⟨r4, rfl, w4, e4⟩, _, _, rfl, ⟨x5, rfl, w5⟩, _, _, rfl, ⟨x6, rfl, w6⟩, rfl⟩ := h
  obtain ⟨x3, rfl, v3⟩ := rows_map (g := intRow) (Q := (fun y => inI y)) (rows := r3) (fun r hr => ty_int (e3 r hr))
  obtain ⟨x4, rfl, v4⟩ := rows_map (g := intRow) (Q := (fun y => inI y)) (rows := r4) (fun r hr => ty_int (e4 r hr))
  exact ⟨⟨x0, x1, x2, x3, x4, x5, x6⟩, rfl, ⟨inI_of w0, inI_of w1, inI_of w2, ⟨by simpa using w3, v3⟩, ⟨by simpa using w4, v4⟩, inI_of w5, inI_of w6⟩⟩
theorem ty_Place {row : List Tr} (h : typed Γ 8 163 row) : ∃ x : TPlace, row = x.tr ∧ x.wf := by
  obtain ⟨_, _, rfl, ⟨x0, rfl, w0⟩, _, _, rfl, h1, rfl⟩ := h
  obtain ⟨x1, rfl, v1⟩ := ty_Item (typed_le (by decide) h1)
  exact ⟨⟨x0, x1⟩, rfl, ⟨inI_of w0, v1⟩⟩
theorem ty_Rule {row : List Tr} (h : typed Γ 8 206 row) : ∃ x : TRule, row = x.tr ∧ x.wf := by
  obtain ⟨_, _, rfl, ⟨x0, rfl, w0⟩, _, _, rfl, ⟨x1, rfl, w1⟩, _, _, rfl, ⟨x2, rfl⟩, _, _, rfl, ⟨x3, rfl, w3⟩, rfl⟩ := h
  exact ⟨⟨x0, x1, x2, x3⟩, rfl, ⟨inI_of w0, inI_of w1, inI_of w3⟩⟩
theorem ty_Row {row : List Tr} (h : typed Γ 8 208 row) : ∃ x : TRow, row = x.tr ∧ x.wf := by
  obtain ⟨_, _, rfl, ⟨x0, rfl, w0⟩, _, _, rfl, ⟨x1, rfl, w1⟩, _, _, rfl, ⟨x2, rfl⟩, rfl⟩ := h
  exact ⟨⟨x0, x1, x2⟩, rfl, ⟨inI_of w0, inI_of w1⟩⟩
theorem ty_Inline {row : List Tr} (h : typed Γ 8 153 row) : ∃ x : TInline, row = x.tr ∧ x.wf := by
  obtain ⟨_, _, rfl, ⟨x0, rfl, w0⟩, _, _, rfl, ⟨x1, rfl, w1⟩, _, _, rfl, ⟨x2, rfl, w2⟩, _, _, rfl, ⟨x3, rfl, w3⟩, _, _, rfl, ⟨x4, rfl, w4⟩, rfl⟩ := h
  exact ⟨⟨x0, x1, x2, x3, x4⟩, rfl, ⟨inI_of w0, inI_of w1, inI_of w2, inI_of w3, w4⟩⟩
theorem ty_Debug {row : List Tr} (h : typed Γ 8 36 row) : ∃ x : TDebug, row = x.tr ∧ x.wf := by
  obtain ⟨_, _, rfl, ⟨x0, rfl, w0⟩, _, _, rfl, ⟨r1, rfl, w1, e1⟩, _, _, rfl, ⟨r2, rfl, w2, e2⟩, _, _, rfl, ⟨r3, rfl, w3, e3⟩, _, _, rfl, ⟨r4, rfl, w4, e4⟩, rfl⟩ := h
  obtain ⟨x1, rfl, v1⟩ := rows_map (g := TSymbol.tr) (Q := (fun y => y.wf)) (rows := r1) (fun r hr => ty_Symbol (typed_le (by decide) (e1 r hr)))
  obtain ⟨x2, rfl, v2⟩ := rows_map (g := TRule.tr) (Q := (fun y => y.wf)) (rows := r2) (fun r hr => ty_Rule (typed_le (by decide) (e2 r hr)))
  obtain ⟨x3, rfl, v3⟩ := rows_map (g := TRow.tr) (Q := (fun y => y.wf)) (rows := r3) (fun r hr => ty_Row (typed_le (by decide) (e3 r hr)))
  obtain ⟨x4, rfl, v4⟩ := rows_map (g := TInline.tr) (Q := (fun y => y.wf)) (rows := r4) (fun r hr => ty_Inline (typed_le (by decide) (e4 r hr)))
  exact ⟨⟨x0, x1, x2, x3, x4⟩, rfl, ⟨inI_of w0, ⟨by simpa using w1, v1⟩, ⟨by simpa using w2, v2⟩, ⟨by simpa using w3, v3⟩, ⟨by simpa using w4, v4⟩⟩⟩
theorem s_laws_toOp (x : TOp) (hs : smallR 1048576 x.tr) : Sim.Spec Try.prog 185 [.agg x.tr] (.r (.agg (x.tr.map resC))) := by
  simp only [TOp.tr, smallR] at hs
  refine spec_of_W hΓ hmix Try.func185 rfl (by decide) rfl ?_
  repeat' (
    (conv => whnf)
    first
    | refine Or.inl ?_
    | refine And.intro (Obl.out (?_ : Obl _)) ?_
    | refine ifB_intro (fun h => ?_) (fun h => ?_)
    | refine Exists.intro _ (And.intro rfl ?_)
    | ((with_reducible show _ = _); rfl))
  all_goals try (
    (with_reducible refine Obl.mk ?_)
    first
    | ((with_reducible show regOk _ _ = true); kernel_rfl)
    | rfl
    | exact trivial
    | ((repeat' (first | exact trivial | refine And.intro ?_ ?_)); done)
    | decide
    | (intro r hr; simp only [List.mem_cons, List.not_mem_nil, or_false] at hr; first | (subst hr; rfl) | (rcases hr with rfl | rfl <;> rfl) | (rcases hr with rfl | rfl | rfl <;> rfl) | (rcases hr with rfl | rfl | rfl | rfl <;> rfl))
    | (refine And.intro ?_ ?_ <;> simp only [List.length_map, List.length_append, List.length_cons, List.length_nil] <;> omega))
theorem s_laws_eqOp (x : TOp) (hs : smallR 1048576 x.tr) : Sim.Spec Try.prog 186 [.agg x.tr, .agg x.tr] (rB true) := by
  simp only [TOp.tr, smallR] at hs
  refine spec_of_W hΓ hmix Try.func186 rfl (by decide) rfl ?_
  repeat' (
    (conv => whnf)
    first
    | refine Or.inl ?_
    | refine And.intro (Obl.out (?_ : Obl _)) ?_
    | refine ifB_intro (fun h => ?_) (fun h => ?_)
    | refine Exists.intro _ (And.intro rfl ?_)
    | ((with_reducible show _ = _); rfl))
  all_goals try (
    (with_reducible refine Obl.mk ?_)
    first
    | ((with_reducible show regOk _ _ = true); kernel_rfl)
    | rfl
    | exact trivial
    | ((repeat' (first | exact trivial | refine And.intro ?_ ?_)); done)
    | decide
    | (intro r hr; simp only [List.mem_cons, List.not_mem_nil, or_false] at hr; first | (subst hr; rfl) | (rcases hr with rfl | rfl <;> rfl) | (rcases hr with rfl | rfl | rfl <;> rfl) | (rcases hr with rfl | rfl | rfl | rfl <;> rfl))
    | (refine And.intro ?_ ?_ <;> simp only [List.length_map, List.length_append, List.length_cons, List.length_nil] <;> omega))
  all_goals simp at *
theorem s_laws_toTok (x : TTok) (hs : smallR 1048576 x.tr) : Sim.Spec Try.prog 182 [.agg x.tr] (.r (.agg (x.tr.map resC))) := by
  simp only [TTok.tr, smallR] at hs
  refine spec_of_W hΓ hmix Try.func182 rfl (by decide) rfl ?_
  repeat' (
    (conv => whnf)
    first
    | refine Or.inl ?_
    | refine And.intro (Obl.out (?_ : Obl _)) ?_
    | refine ifB_intro (fun h => ?_) (fun h => ?_)
    | refine Exists.intro _ (And.intro rfl ?_)
    | ((with_reducible show _ = _); rfl))
  all_goals try (
    (with_reducible refine Obl.mk ?_)
    first
    | ((with_reducible show regOk _ _ = true); kernel_rfl)
    | rfl
    | exact trivial
    | ((repeat' (first | exact trivial | refine And.intro ?_ ?_)); done)
    | decide
    | (intro r hr; simp only [List.mem_cons, List.not_mem_nil, or_false] at hr; first | (subst hr; rfl) | (rcases hr with rfl | rfl <;> rfl) | (rcases hr with rfl | rfl | rfl <;> rfl) | (rcases hr with rfl | rfl | rfl | rfl <;> rfl))
    | (refine And.intro ?_ ?_ <;> simp only [List.length_map, List.length_append, List.length_cons, List.length_nil] <;> omega))
theorem s_laws_eqTok (x : TTok) (hs : smallR 1048576 x.tr) : Sim.Spec Try.prog 183 [.agg x.tr, .agg x.tr] (rB true) := by
  simp only [TTok.tr, smallR] at hs
  refine spec_of_W hΓ hmix Try.func183 rfl (by decide) rfl ?_
  repeat' (
    (conv => whnf)
    first
    | refine Or.inl ?_
    | refine And.intro (Obl.out (?_ : Obl _)) ?_
    | refine ifB_intro (fun h => ?_) (fun h => ?_)
    | refine Exists.intro _ (And.intro rfl ?_)
    | ((with_reducible show _ = _); rfl))
  all_goals try (
    (with_reducible refine Obl.mk ?_)
    first
    | ((with_reducible show regOk _ _ = true); kernel_rfl)
    | rfl
    | exact trivial
    | ((repeat' (first | exact trivial | refine And.intro ?_ ?_)); done)
    | decide
    | (intro r hr; simp only [List.mem_cons, List.not_mem_nil, or_false] at hr; first | (subst hr; rfl) | (rcases hr with rfl | rfl <;> rfl) | (rcases hr with rfl | rfl | rfl <;> rfl) | (rcases hr with rfl | rfl | rfl | rfl <;> rfl))
    | (refine And.intro ?_ ?_ <;> simp only [List.length_map, List.length_append, List.length_cons, List.length_nil] <;> omega))
  all_goals simp at *
theorem s_laws_szTok (x : TTok) (hw : x.wf) (left : Int) (hle0 : 0 ≤ left) (hle1 : left ≤ 1048576) : Sim.Spec Try.prog 181 [.agg x.tr, tvI left] (rI (szR x.tr left)) := by
  simp only [TTok.wf, maxLen] at hw
  obtain ⟨Z, hz0⟩ : ∃ Z, Z = szR x.tr left := ⟨_, rfl⟩
  have hz := hz0
  rw [TTok.tr] at hz
  refine spec_of_W hΓ hmix Try.func181 rfl (by decide) rfl ?_
  rw [szR_int (by omega)] at hz
  rw [szR_int (by omega)] at hz
  repeat' (
    (conv => whnf)
    first
    | refine Or.inl ?_
    | refine And.intro (Obl.out (?_ : Obl _)) ?_
    | refine ifB_intro (fun h => ?_) (fun h => ?_)
    | refine Exists.intro _ (And.intro rfl ?_)
    | ((with_reducible show _ = _); rfl))
  all_goals try (
    (with_reducible refine Obl.mk ?_)
    first
    | ((with_reducible show regOk _ _ = true); kernel_rfl)
    | rfl
    | exact trivial
    | ((repeat' (first | exact trivial | refine And.intro ?_ ?_)); done)
    | decide
    | (intro r hr; simp only [List.mem_cons, List.not_mem_nil, or_false] at hr; first | (subst hr; rfl) | (rcases hr with rfl | rfl <;> rfl) | (rcases hr with rfl | rfl | rfl <;> rfl) | (rcases hr with rfl | rfl | rfl | rfl <;> rfl))
    | (refine And.intro ?_ ?_ <;> simp only [List.length_map, List.length_append, List.length_cons, List.length_nil] <;> omega))
  · have h2 := of_decide_eq_true h
    rw [IntWalk.i64_in _ (by omega)] at h2
    exact ⟨congrArg (Tr.int _) (hz0.symm.trans (hz.trans (szR_str_neg h2))).symm⟩
  have g1 := of_decide_eq_false h
  rw [IntWalk.i64_in _ (by omega)] at g1
  clear h
  rw [IntWalk.i64_in (left - x.fName.length) (by omega)]
  rw [szR_str g1] at hz
  all_goals exact ⟨congrArg (Tr.int _) ((hz0.symm.trans (hz.trans (szR_nil _))).symm)⟩
theorem s_laws_toTokS (xs : List (TTok)) (hs : smallT 1048576 (.lst 3 (xs.map TTok.tr))) : Sim.Spec Try.prog 157 [tvL 3 (xs.map TTok.tr)] (rL 3 (xs.map TTok.tr)) := by
  have hl := small_len hs
  have hlen : (xs.map TTok.tr).length = xs.length := by simp
  refine spec_of_W hΓ hmix Try.func157 rfl (by decide) rfl ?_
  repeat' (
    (conv => whnf)
    first
    | refine Or.inl ?_
    | refine And.intro (Obl.out (?_ : Obl _)) ?_
    | refine ifB_intro (fun h => ?_) (fun h => ?_)
    | refine Exists.intro _ (And.intro rfl ?_)
    | ((with_reducible show _ = _); rfl))
  all_goals try (
    (with_reducible refine Obl.mk ?_)
    first
    | ((with_reducible show regOk _ _ = true); kernel_rfl)
    | rfl
    | exact trivial
    | ((repeat' (first | exact trivial | refine And.intro ?_ ?_)); done)
    | decide
    | (intro r hr; simp only [List.mem_cons, List.not_mem_nil, or_false] at hr; first | (subst hr; rfl) | (rcases hr with rfl | rfl <;> rfl) | (rcases hr with rfl | rfl | rfl <;> rfl) | (rcases hr with rfl | rfl | rfl | rfl <;> rfl))
    | (refine And.intro ?_ ?_ <;> simp only [List.length_map, List.length_append, List.length_cons, List.length_nil] <;> omega))
  · exact ⟨by omega⟩
  · exact ⟨by dsimp only; omega⟩
  repeat' (
    (conv => whnf)
    first
    | refine Or.inl ?_
    | refine And.intro (Obl.out (?_ : Obl _)) ?_
    | refine ifB_intro (fun h => ?_) (fun h => ?_)
    | refine Exists.intro _ (And.intro rfl ?_)
    | ((with_reducible show _ = _); rfl))
  all_goals try (
    (with_reducible refine Obl.mk ?_)
    first
    | ((with_reducible show regOk _ _ = true); kernel_rfl)
    | rfl
    | exact trivial
    | ((repeat' (first | exact trivial | refine And.intro ?_ ?_)); done)
    | decide
    | (intro r hr; simp only [List.mem_cons, List.not_mem_nil, or_false] at hr; first | (subst hr; rfl) | (rcases hr with rfl | rfl <;> rfl) | (rcases hr with rfl | rfl | rfl <;> rfl) | (rcases hr with rfl | rfl | rfl | rfl <;> rfl))
    | (refine And.intro ?_ ?_ <;> simp only [List.length_map, List.length_append, List.length_cons, List.length_nil] <;> omega))
  conv => whnf
  refine ⟨{ k : Nat // k ≤ xs.length }, fun k => ⟨[(0, .r (.c (.t (.lst 3 (xs.map TTok.tr))))), (3, .r (.c (.own (3, 0, 0)))), (4, tI .i64 (k.1 : Int))], [((3, 0, 0), some (.arr true 3 (filled (xs.map TTok.tr) [.int .i64 0, .int .i64 0, .str []] k.1)))], [3]⟩, fun k => xs.length - k.1, ⟨0, by omega⟩, ?_, ?_⟩
  · skip
    repeat' (
      (conv => whnf)
      first
      | refine Or.inl ?_
      | refine And.intro (Obl.out (?_ : Obl _)) ?_
      | refine ifB_intro (fun h => ?_) (fun h => ?_)
      | refine Exists.intro _ (And.intro rfl ?_)
      | ((with_reducible show _ = _); rfl))
    all_goals try (
      (with_reducible refine Obl.mk ?_)
      first
      | ((with_reducible show regOk _ _ = true); kernel_rfl)
      | rfl
      | exact trivial
      | ((repeat' (first | exact trivial | refine And.intro ?_ ?_)); done)
      | decide
      | (intro r hr; simp only [List.mem_cons, List.not_mem_nil, or_false] at hr; first | (subst hr; rfl) | (rcases hr with rfl | rfl <;> rfl) | (rcases hr with rfl | rfl | rfl <;> rfl) | (rcases hr with rfl | rfl | rfl | rfl <;> rfl))
      | (refine And.intro ?_ ?_ <;> simp only [List.length_map, List.length_append, List.length_cons, List.length_nil] <;> omega))
    all_goals exact ⟨by rw [← filled_zero, hlen]⟩
  intro ⟨k, hk⟩
  dsimp only
  repeat' (
    (conv => whnf)
    first
    | refine Or.inl ?_
    | refine And.intro (Obl.out (?_ : Obl _)) ?_
    | refine ifB_intro (fun h => ?_) (fun h => ?_)
    | refine Exists.intro _ (And.intro rfl ?_)
    | ((with_reducible show _ = _); rfl))
  all_goals try (
    (with_reducible refine Obl.mk ?_)
    first
    | ((with_reducible show regOk _ _ = true); kernel_rfl)
    | rfl
    | exact trivial
    | ((repeat' (first | exact trivial | refine And.intro ?_ ?_)); done)
    | decide
    | (intro r hr; simp only [List.mem_cons, List.not_mem_nil, or_false] at hr; first | (subst hr; rfl) | (rcases hr with rfl | rfl <;> rfl) | (rcases hr with rfl | rfl | rfl <;> rfl) | (rcases hr with rfl | rfl | rfl | rfl <;> rfl))
    | (refine And.intro ?_ ?_ <;> simp only [List.length_map, List.length_append, List.length_cons, List.length_nil] <;> omega))
  · have hlt : k < xs.length := by have := of_decide_eq_true h; omega
    obtain ⟨x, hx⟩ := get_of_lt hlt
    have hsr := smallRs_map hs (List.mem_of_getElem? hx)
    conv => whnf
    refine ⟨k, _, rfl, map_get hx, ?_⟩
    repeat' (
      (conv => whnf)
      first
      | refine Or.inl ?_
      | refine And.intro (Obl.out (?_ : Obl _)) ?_
      | refine ifB_intro (fun h => ?_) (fun h => ?_)
      | refine call_intro ((s_laws_toTok x hsr)) (And.intro (And.intro rfl (And.intro rfl (And.intro rfl trivial))) trivial) ?_
      | refine Exists.intro _ (And.intro rfl ?_)
      | ((with_reducible show _ = _); rfl))
    all_goals try (
      (with_reducible refine Obl.mk ?_)
      first
      | ((with_reducible show regOk _ _ = true); kernel_rfl)
      | rfl
      | exact trivial
      | ((repeat' (first | exact trivial | refine And.intro ?_ ?_)); done)
      | decide
      | (intro r hr; simp only [List.mem_cons, List.not_mem_nil, or_false] at hr; first | (subst hr; rfl) | (rcases hr with rfl | rfl <;> rfl) | (rcases hr with rfl | rfl | rfl <;> rfl) | (rcases hr with rfl | rfl | rfl | rfl <;> rfl))
      | (refine And.intro ?_ ?_ <;> simp only [List.length_map, List.length_append, List.length_cons, List.length_nil] <;> omega))
    · exact ⟨by rw [filled_len (by omega)]; omega⟩
    conv => whnf
    refine ⟨_, filled_get (by omega), ?_⟩
    repeat' (
      (conv => whnf)
      first
      | refine Or.inl ?_
      | refine And.intro (Obl.out (?_ : Obl _)) ?_
      | refine ifB_intro (fun h => ?_) (fun h => ?_)
      | refine Exists.intro _ (And.intro rfl ?_)
      | ((with_reducible show _ = _); rfl))
    all_goals try (
      (with_reducible refine Obl.mk ?_)
      first
      | ((with_reducible show regOk _ _ = true); kernel_rfl)
      | rfl
      | exact trivial
      | ((repeat' (first | exact trivial | refine And.intro ?_ ?_)); done)
      | decide
      | (intro r hr; simp only [List.mem_cons, List.not_mem_nil, or_false] at hr; first | (subst hr; rfl) | (rcases hr with rfl | rfl <;> rfl) | (rcases hr with rfl | rfl | rfl <;> rfl) | (rcases hr with rfl | rfl | rfl | rfl <;> rfl))
      | (refine And.intro ?_ ?_ <;> simp only [List.length_map, List.length_append, List.length_cons, List.length_nil] <;> omega))
    conv => whnf
    refine ⟨⟨k + 1, by omega⟩, ?_, by dsimp only; omega⟩
    repeat' (
      (conv => whnf)
      first
      | refine Or.inl ?_
      | refine And.intro (Obl.out (?_ : Obl _)) ?_
      | refine ifB_intro (fun h => ?_) (fun h => ?_)
      | refine Exists.intro _ (And.intro rfl ?_)
      | ((with_reducible show _ = _); rfl))
    all_goals try (
      (with_reducible refine Obl.mk ?_)
      first
      | ((with_reducible show regOk _ _ = true); kernel_rfl)
      | rfl
      | exact trivial
      | ((repeat' (first | exact trivial | refine And.intro ?_ ?_)); done)
      | decide
      | (intro r hr; simp only [List.mem_cons, List.not_mem_nil, or_false] at hr; first | (subst hr; rfl) | (rcases hr with rfl | rfl <;> rfl) | (rcases hr with rfl | rfl | rfl <;> rfl) | (rcases hr with rfl | rfl | rfl | rfl <;> rfl))
      | (refine And.intro ?_ ?_ <;> simp only [List.length_map, List.length_append, List.length_cons, List.length_nil] <;> omega))
    · exact ⟨by dsimp only; rw [IntWalk.i64_in _ (by omega)]; rfl⟩
    · exact ⟨filled_set (map_get hx)⟩
  · have hge : xs.length ≤ k := by have := of_decide_eq_false h; omega
    exact ⟨filled_all (by omega)⟩
theorem s_laws_eqTokS (xs : List (TTok)) (hs : smallT 1048576 (.lst 3 (xs.map TTok.tr))) : Sim.Spec Try.prog 159 [tvL 3 (xs.map TTok.tr), tvL 3 (xs.map TTok.tr)] (rB true) := by
  have hl := small_len hs
  have hlen : (xs.map TTok.tr).length = xs.length := by simp
  refine spec_of_W hΓ hmix Try.func159 rfl (by decide) rfl ?_
  repeat' (
    (conv => whnf)
    first
    | refine Or.inl ?_
    | refine And.intro (Obl.out (?_ : Obl _)) ?_
    | refine ifB_intro (fun h => ?_) (fun h => ?_)
    | refine Exists.intro _ (And.intro rfl ?_)
    | ((with_reducible show _ = _); rfl))
  all_goals try (
    (with_reducible refine Obl.mk ?_)
    first
    | ((with_reducible show regOk _ _ = true); kernel_rfl)
    | rfl
    | exact trivial
    | ((repeat' (first | exact trivial | refine And.intro ?_ ?_)); done)
    | decide
    | (intro r hr; simp only [List.mem_cons, List.not_mem_nil, or_false] at hr; first | (subst hr; rfl) | (rcases hr with rfl | rfl <;> rfl) | (rcases hr with rfl | rfl | rfl <;> rfl) | (rcases hr with rfl | rfl | rfl | rfl <;> rfl))
    | (refine And.intro ?_ ?_ <;> simp only [List.length_map, List.length_append, List.length_cons, List.length_nil] <;> omega))
  · simp at h
  conv => whnf
  refine ⟨{ k : Nat // k ≤ xs.length }, fun k => ⟨[(0, .r (.c (.t (.lst 3 (xs.map TTok.tr))))), (1, .r (.c (.t (.lst 3 (xs.map TTok.tr))))), (5, tI .i64 (k.1 : Int))], [], []⟩, fun k => xs.length - k.1, ⟨0, by omega⟩, ?_, ?_⟩
  · skip
    repeat' (
      (conv => whnf)
      first
      | refine Or.inl ?_
      | refine And.intro (Obl.out (?_ : Obl _)) ?_
      | refine ifB_intro (fun h => ?_) (fun h => ?_)
      | refine Exists.intro _ (And.intro rfl ?_)
      | ((with_reducible show _ = _); rfl))
    all_goals try (
      (with_reducible refine Obl.mk ?_)
      first
      | ((with_reducible show regOk _ _ = true); kernel_rfl)
      | rfl
      | exact trivial
      | ((repeat' (first | exact trivial | refine And.intro ?_ ?_)); done)
      | decide
      | (intro r hr; simp only [List.mem_cons, List.not_mem_nil, or_false] at hr; first | (subst hr; rfl) | (rcases hr with rfl | rfl <;> rfl) | (rcases hr with rfl | rfl | rfl <;> rfl) | (rcases hr with rfl | rfl | rfl | rfl <;> rfl))
      | (refine And.intro ?_ ?_ <;> simp only [List.length_map, List.length_append, List.length_cons, List.length_nil] <;> omega))
  intro ⟨k, hk⟩
  dsimp only
  repeat' (
    (conv => whnf)
    first
    | refine Or.inl ?_
    | refine And.intro (Obl.out (?_ : Obl _)) ?_
    | refine ifB_intro (fun h => ?_) (fun h => ?_)
    | refine Exists.intro _ (And.intro rfl ?_)
    | ((with_reducible show _ = _); rfl))
  all_goals try (
    (with_reducible refine Obl.mk ?_)
    first
    | ((with_reducible show regOk _ _ = true); kernel_rfl)
    | rfl
    | exact trivial
    | ((repeat' (first | exact trivial | refine And.intro ?_ ?_)); done)
    | decide
    | (intro r hr; simp only [List.mem_cons, List.not_mem_nil, or_false] at hr; first | (subst hr; rfl) | (rcases hr with rfl | rfl <;> rfl) | (rcases hr with rfl | rfl | rfl <;> rfl) | (rcases hr with rfl | rfl | rfl | rfl <;> rfl))
    | (refine And.intro ?_ ?_ <;> simp only [List.length_map, List.length_append, List.length_cons, List.length_nil] <;> omega))
  · have hlt : k < xs.length := by have := of_decide_eq_true h; omega
    obtain ⟨x, hx⟩ := get_of_lt hlt
    have hsr := smallRs_map hs (List.mem_of_getElem? hx)
    conv => whnf
    refine ⟨k, _, rfl, map_get hx, ?_⟩
    repeat' (
      (conv => whnf)
      first
      | refine Or.inl ?_
      | refine And.intro (Obl.out (?_ : Obl _)) ?_
      | refine ifB_intro (fun h => ?_) (fun h => ?_)
      | refine call_intro ((s_laws_eqTok x hsr)) (And.intro (And.intro rfl (And.intro rfl (And.intro rfl trivial))) (And.intro (And.intro rfl (And.intro rfl (And.intro rfl trivial))) trivial)) ?_
      | refine Exists.intro _ (And.intro rfl ?_)
      | ((with_reducible show _ = _); rfl))
    all_goals try (
      (with_reducible refine Obl.mk ?_)
      first
      | ((with_reducible show regOk _ _ = true); kernel_rfl)
      | rfl
      | exact trivial
      | ((repeat' (first | exact trivial | refine And.intro ?_ ?_)); done)
      | decide
      | (intro r hr; simp only [List.mem_cons, List.not_mem_nil, or_false] at hr; first | (subst hr; rfl) | (rcases hr with rfl | rfl <;> rfl) | (rcases hr with rfl | rfl | rfl <;> rfl) | (rcases hr with rfl | rfl | rfl | rfl <;> rfl))
      | (refine And.intro ?_ ?_ <;> simp only [List.length_map, List.length_append, List.length_cons, List.length_nil] <;> omega))
    conv => whnf
    refine ⟨k, _, rfl, map_get hx, ?_⟩
    repeat' (
      (conv => whnf)
      first
      | refine Or.inl ?_
      | refine And.intro (Obl.out (?_ : Obl _)) ?_
      | refine ifB_intro (fun h => ?_) (fun h => ?_)
      | refine call_intro ((s_laws_eqTok x hsr)) (And.intro (And.intro rfl (And.intro rfl (And.intro rfl trivial))) (And.intro (And.intro rfl (And.intro rfl (And.intro rfl trivial))) trivial)) ?_
      | refine Exists.intro _ (And.intro rfl ?_)
      | ((with_reducible show _ = _); rfl))
    all_goals try (
      (with_reducible refine Obl.mk ?_)
      first
      | ((with_reducible show regOk _ _ = true); kernel_rfl)
      | rfl
      | exact trivial
      | ((repeat' (first | exact trivial | refine And.intro ?_ ?_)); done)
      | decide
      | (intro r hr; simp only [List.mem_cons, List.not_mem_nil, or_false] at hr; first | (subst hr; rfl) | (rcases hr with rfl | rfl <;> rfl) | (rcases hr with rfl | rfl | rfl <;> rfl) | (rcases hr with rfl | rfl | rfl | rfl <;> rfl))
      | (refine And.intro ?_ ?_ <;> simp only [List.length_map, List.length_append, List.length_cons, List.length_nil] <;> omega))
    all_goals try (exfalso; simp at h; done)
    conv => whnf
    refine ⟨⟨k + 1, by omega⟩, ?_, by dsimp only; omega⟩
    repeat' (
      (conv => whnf)
      first
      | refine Or.inl ?_
      | refine And.intro (Obl.out (?_ : Obl _)) ?_
      | refine ifB_intro (fun h => ?_) (fun h => ?_)
      | refine Exists.intro _ (And.intro rfl ?_)
      | ((with_reducible show _ = _); rfl))
    all_goals try (
      (with_reducible refine Obl.mk ?_)
      first
      | ((with_reducible show regOk _ _ = true); kernel_rfl)
      | rfl
      | exact trivial
      | ((repeat' (first | exact trivial | refine And.intro ?_ ?_)); done)
      | decide
      | (intro r hr; simp only [List.mem_cons, List.not_mem_nil, or_false] at hr; first | (subst hr; rfl) | (rcases hr with rfl | rfl <;> rfl) | (rcases hr with rfl | rfl | rfl <;> rfl) | (rcases hr with rfl | rfl | rfl | rfl <;> rfl))
      | (refine And.intro ?_ ?_ <;> simp only [List.length_map, List.length_append, List.length_cons, List.length_nil] <;> omega))
    exact ⟨by dsimp only; rw [IntWalk.i64_in _ (by omega)]; rfl⟩
theorem s_laws_szTokS (xs : List (TTok)) (hw : xs.length ≤ maxLen ∧ ∀ y ∈ xs, y.wf) (left : Int) (hle0 : 0 ≤ left) (hle1 : left ≤ 1048576) : Sim.Spec Try.prog 155 [tvL 3 (xs.map TTok.tr), tvI left] (rI (szT (.lst 3 (xs.map TTok.tr)) left)) := by
  have hl2 : (xs.map TTok.tr).length ≤ 9223372036854775807 := by simpa [maxLen] using hw.1
  have hlen : (xs.map TTok.tr).length = xs.length := by simp
  rw [szT]
  refine spec_of_W hΓ hmix Try.func155 rfl (by decide) rfl ?_
  repeat' (
    (conv => whnf)
    first
    | refine Or.inl ?_
    | refine And.intro (Obl.out (?_ : Obl _)) ?_
    | refine ifB_intro (fun h => ?_) (fun h => ?_)
    | refine Exists.intro _ (And.intro rfl ?_)
    | ((with_reducible show _ = _); rfl))
  all_goals try (
    (with_reducible refine Obl.mk ?_)
    first
    | ((with_reducible show regOk _ _ = true); kernel_rfl)
    | rfl
    | exact trivial
    | ((repeat' (first | exact trivial | refine And.intro ?_ ?_)); done)
    | decide
    | (intro r hr; simp only [List.mem_cons, List.not_mem_nil, or_false] at hr; first | (subst hr; rfl) | (rcases hr with rfl | rfl <;> rfl) | (rcases hr with rfl | rfl | rfl <;> rfl) | (rcases hr with rfl | rfl | rfl | rfl <;> rfl))
    | (refine And.intro ?_ ?_ <;> simp only [List.length_map, List.length_append, List.length_cons, List.length_nil] <;> omega))
  · refine ⟨congrArg (Tr.int _) ?_⟩
    have h2 := of_decide_eq_true h
    rw [IntWalk.i64_in _ (by omega)] at h2
    rw [if_pos h2]
  have h2 := of_decide_eq_false h
  rw [IntWalk.i64_in _ (by omega)] at h2 ⊢
  rw [if_neg h2]
  conv => whnf
  refine ⟨{ q : Nat × Int // q.1 ≤ xs.length ∧ 0 ≤ q.2 ∧ q.2 ≤ 1048576 ∧ szRs ((xs.drop q.1).map TTok.tr) q.2 = szRs (xs.map TTok.tr) (left - (xs.map TTok.tr).length) }, fun q => ⟨[(0, .r (.c (.t (.lst 3 (xs.map TTok.tr))))), (1, tI .i64 q.1.2), (5, tI .i64 (q.1.1 : Int))], [], []⟩, fun q => xs.length - q.1.1, ⟨(0, left - (xs.map TTok.tr).length), by simp, by dsimp only; omega, by dsimp only; omega, by simp⟩, ?_, ?_⟩
  · skip
    repeat' (
      (conv => whnf)
      first
      | refine Or.inl ?_
      | refine And.intro (Obl.out (?_ : Obl _)) ?_
      | refine ifB_intro (fun h => ?_) (fun h => ?_)
      | refine Exists.intro _ (And.intro rfl ?_)
      | ((with_reducible show _ = _); rfl))
    all_goals try (
      (with_reducible refine Obl.mk ?_)
      first
      | ((with_reducible show regOk _ _ = true); kernel_rfl)
      | rfl
      | exact trivial
      | ((repeat' (first | exact trivial | refine And.intro ?_ ?_)); done)
      | decide
      | (intro r hr; simp only [List.mem_cons, List.not_mem_nil, or_false] at hr; first | (subst hr; rfl) | (rcases hr with rfl | rfl <;> rfl) | (rcases hr with rfl | rfl | rfl <;> rfl) | (rcases hr with rfl | rfl | rfl | rfl <;> rfl))
      | (refine And.intro ?_ ?_ <;> simp only [List.length_map, List.length_append, List.length_cons, List.length_nil] <;> omega))
  intro ⟨⟨k, lk⟩, hk, h0, h1, hsz⟩
  dsimp only at hk h0 h1 hsz ⊢
  repeat' (
    (conv => whnf)
    first
    | refine Or.inl ?_
    | refine And.intro (Obl.out (?_ : Obl _)) ?_
    | refine ifB_intro (fun h => ?_) (fun h => ?_)
    | refine Exists.intro _ (And.intro rfl ?_)
    | ((with_reducible show _ = _); rfl))
  all_goals try (
    (with_reducible refine Obl.mk ?_)
    first
    | ((with_reducible show regOk _ _ = true); kernel_rfl)
    | rfl
    | exact trivial
    | ((repeat' (first | exact trivial | refine And.intro ?_ ?_)); done)
    | decide
    | (intro r hr; simp only [List.mem_cons, List.not_mem_nil, or_false] at hr; first | (subst hr; rfl) | (rcases hr with rfl | rfl <;> rfl) | (rcases hr with rfl | rfl | rfl <;> rfl) | (rcases hr with rfl | rfl | rfl | rfl <;> rfl))
    | (refine And.intro ?_ ?_ <;> simp only [List.length_map, List.length_append, List.length_cons, List.length_nil] <;> omega))
  · have hlt : k < xs.length := by have := of_decide_eq_true h; omega
    obtain ⟨x, hx⟩ := get_of_lt hlt
    have hxw := hw.2 x (List.mem_of_getElem? hx)
    rw [drop_at hx, List.map_cons, szRs] at hsz
    conv => whnf
    refine ⟨k, _, rfl, map_get hx, ?_⟩
    repeat' (
      (conv => whnf)
      first
      | refine Or.inl ?_
      | refine And.intro (Obl.out (?_ : Obl _)) ?_
      | refine ifB_intro (fun h => ?_) (fun h => ?_)
      | refine call_intro ((s_laws_szTok x hxw lk h0 h1)) (And.intro (And.intro rfl (And.intro rfl (And.intro rfl trivial))) (And.intro rfl trivial)) ?_
      | refine Exists.intro _ (And.intro rfl ?_)
      | ((with_reducible show _ = _); rfl))
    all_goals try (
      (with_reducible refine Obl.mk ?_)
      first
      | ((with_reducible show regOk _ _ = true); kernel_rfl)
      | rfl
      | exact trivial
      | ((repeat' (first | exact trivial | refine And.intro ?_ ?_)); done)
      | decide
      | (intro r hr; simp only [List.mem_cons, List.not_mem_nil, or_false] at hr; first | (subst hr; rfl) | (rcases hr with rfl | rfl <;> rfl) | (rcases hr with rfl | rfl | rfl <;> rfl) | (rcases hr with rfl | rfl | rfl | rfl <;> rfl))
      | (refine And.intro ?_ ?_ <;> simp only [List.length_map, List.length_append, List.length_cons, List.length_nil] <;> omega))
    · refine ⟨congrArg (Tr.int _) ?_⟩
      rw [← hsz, if_pos (of_decide_eq_true h)]
    have h3 := of_decide_eq_false h
    rw [if_neg h3] at hsz
    have hsm := szR_small (L := 1048576) _ _ (Int.not_lt.1 h3) h1
    conv => whnf
    refine ⟨⟨(k + 1, _), by dsimp only; omega, by dsimp only; exact Int.not_lt.1 h3, by dsimp only; exact Int.le_trans hsm.2 h1, hsz⟩, ?_, by dsimp only; omega⟩
    repeat' (
      (conv => whnf)
      first
      | refine Or.inl ?_
      | refine And.intro (Obl.out (?_ : Obl _)) ?_
      | refine ifB_intro (fun h => ?_) (fun h => ?_)
      | refine Exists.intro _ (And.intro rfl ?_)
      | ((with_reducible show _ = _); rfl))
    all_goals try (
      (with_reducible refine Obl.mk ?_)
      first
      | ((with_reducible show regOk _ _ = true); kernel_rfl)
      | rfl
      | exact trivial
      | ((repeat' (first | exact trivial | refine And.intro ?_ ?_)); done)
      | decide
      | (intro r hr; simp only [List.mem_cons, List.not_mem_nil, or_false] at hr; first | (subst hr; rfl) | (rcases hr with rfl | rfl <;> rfl) | (rcases hr with rfl | rfl | rfl <;> rfl) | (rcases hr with rfl | rfl | rfl | rfl <;> rfl))
      | (refine And.intro ?_ ?_ <;> simp only [List.length_map, List.length_append, List.length_cons, List.length_nil] <;> omega))
    exact ⟨by dsimp only; rw [IntWalk.i64_in _ (by omega)]; rfl⟩
  · have hge : xs.length ≤ k := by have := of_decide_eq_false h; omega
    rw [List.drop_eq_nil_of_le hge, List.map_nil, szRs] at hsz
    exact ⟨congrArg (Tr.int _) hsz⟩
theorem s_laws_toLine (x : TLine) (hs : smallR 1048576 x.tr) : Sim.Spec Try.prog 80 [.agg x.tr] (.r (.agg (x.tr.map resC))) := by
  simp only [TLine.tr, smallR] at hs
  refine spec_of_W hΓ hmix Try.func80 rfl (by decide) rfl ?_
  repeat' (
    (conv => whnf)
    first
    | refine Or.inl ?_
    | refine And.intro (Obl.out (?_ : Obl _)) ?_
    | refine ifB_intro (fun h => ?_) (fun h => ?_)
    | refine call_intro ((s_laws_toStringS x.fArgs hs.2.2.1)) (And.intro rfl trivial) ?_
    | refine call_intro ((s_laws_toTokS x.fExpr hs.2.2.2.1)) (And.intro rfl trivial) ?_
    | refine Exists.intro _ (And.intro rfl ?_)
    | ((with_reducible show _ = _); rfl))
  all_goals try (
    (with_reducible refine Obl.mk ?_)
    first
    | ((with_reducible show regOk _ _ = true); kernel_rfl)
    | rfl
    | exact trivial
    | ((repeat' (first | exact trivial | refine And.intro ?_ ?_)); done)
    | decide
    | (intro r hr; simp only [List.mem_cons, List.not_mem_nil, or_false] at hr; first | (subst hr; rfl) | (rcases hr with rfl | rfl <;> rfl) | (rcases hr with rfl | rfl | rfl <;> rfl) | (rcases hr with rfl | rfl | rfl | rfl <;> rfl))
    | (refine And.intro ?_ ?_ <;> simp only [List.length_map, List.length_append, List.length_cons, List.length_nil] <;> omega))
theorem s_laws_eqLine (x : TLine) (hs : smallR 1048576 x.tr) : Sim.Spec Try.prog 82 [.agg x.tr, .agg x.tr] (rB true) := by
  simp only [TLine.tr, smallR] at hs
  refine spec_of_W hΓ hmix Try.func82 rfl (by decide) rfl ?_
  repeat' (
    (conv => whnf)
    first
    | refine Or.inl ?_
    | refine And.intro (Obl.out (?_ : Obl _)) ?_
    | refine ifB_intro (fun h => ?_) (fun h => ?_)
    | refine call_intro ((s_laws_eqStringS x.fArgs hs.2.2.1)) (And.intro rfl (And.intro rfl trivial)) ?_
    | refine call_intro ((s_laws_eqTokS x.fExpr hs.2.2.2.1)) (And.intro rfl (And.intro rfl trivial)) ?_
    | refine Exists.intro _ (And.intro rfl ?_)
    | ((with_reducible show _ = _); rfl))
  all_goals try (
    (with_reducible refine Obl.mk ?_)
    first
    | ((with_reducible show regOk _ _ = true); kernel_rfl)
    | rfl
    | exact trivial
    | ((repeat' (first | exact trivial | refine And.intro ?_ ?_)); done)
    | decide
    | (intro r hr; simp only [List.mem_cons, List.not_mem_nil, or_false] at hr; first | (subst hr; rfl) | (rcases hr with rfl | rfl <;> rfl) | (rcases hr with rfl | rfl | rfl <;> rfl) | (rcases hr with rfl | rfl | rfl | rfl <;> rfl))
    | (refine And.intro ?_ ?_ <;> simp only [List.length_map, List.length_append, List.length_cons, List.length_nil] <;> omega))
  all_goals simp at *
theorem s_laws_szLine (x : TLine) (hw : x.wf) (left : Int) (hle0 : 0 ≤ left) (hle1 : left ≤ 1048576) : Sim.Spec Try.prog 79 [.agg x.tr, tvI left] (rI (szR x.tr left)) := by
  simp only [TLine.wf, maxLen] at hw
  obtain ⟨Z, hz0⟩ : ∃ Z, Z = szR x.tr left := ⟨_, rfl⟩
  have hz := hz0
  rw [TLine.tr] at hz
  refine spec_of_W hΓ hmix Try.func79 rfl (by decide) rfl ?_
  rw [szR_int (by omega)] at hz
  repeat' (
    (conv => whnf)
    first
    | refine Or.inl ?_
    | refine And.intro (Obl.out (?_ : Obl _)) ?_
    | refine ifB_intro (fun h => ?_) (fun h => ?_)
    | refine Exists.intro _ (And.intro rfl ?_)
    | ((with_reducible show _ = _); rfl))
  all_goals try (
    (with_reducible refine Obl.mk ?_)
    first
    | ((with_reducible show regOk _ _ = true); kernel_rfl)
    | rfl
    | exact trivial
    | ((repeat' (first | exact trivial | refine And.intro ?_ ?_)); done)
    | decide
    | (intro r hr; simp only [List.mem_cons, List.not_mem_nil, or_false] at hr; first | (subst hr; rfl) | (rcases hr with rfl | rfl <;> rfl) | (rcases hr with rfl | rfl | rfl <;> rfl) | (rcases hr with rfl | rfl | rfl | rfl <;> rfl))
    | (refine And.intro ?_ ?_ <;> simp only [List.length_map, List.length_append, List.length_cons, List.length_nil] <;> omega))
  · have h2 := of_decide_eq_true h
    rw [IntWalk.i64_in _ (by omega)] at h2
    exact ⟨congrArg (Tr.int _) (hz0.symm.trans (hz.trans (szR_str_neg h2))).symm⟩
  have g1 := of_decide_eq_false h
  rw [IntWalk.i64_in _ (by omega)] at g1
  clear h
  rw [IntWalk.i64_in (left - x.fName.length) (by omega)]
  rw [szR_str g1] at hz
  repeat' (
    (conv => whnf)
    first
    | refine Or.inl ?_
    | refine And.intro (Obl.out (?_ : Obl _)) ?_
    | refine ifB_intro (fun h => ?_) (fun h => ?_)
    | refine Exists.intro _ (And.intro rfl ?_)
    | ((with_reducible show _ = _); rfl))
  all_goals try (
    (with_reducible refine Obl.mk ?_)
    first
    | ((with_reducible show regOk _ _ = true); kernel_rfl)
    | rfl
    | exact trivial
    | ((repeat' (first | exact trivial | refine And.intro ?_ ?_)); done)
    | decide
    | (intro r hr; simp only [List.mem_cons, List.not_mem_nil, or_false] at hr; first | (subst hr; rfl) | (rcases hr with rfl | rfl <;> rfl) | (rcases hr with rfl | rfl | rfl <;> rfl) | (rcases hr with rfl | rfl | rfl | rfl <;> rfl))
    | (refine And.intro ?_ ?_ <;> simp only [List.length_map, List.length_append, List.length_cons, List.length_nil] <;> omega))
  repeat' (
    (conv => whnf)
    first
    | refine Or.inl ?_
    | refine And.intro (Obl.out (?_ : Obl _)) ?_
    | refine ifB_intro (fun h => ?_) (fun h => ?_)
    | refine call_intro ((s_laws_szStringS x.fArgs (by simpa [maxLen] using hw.2.2.1) (left - x.fName.length) (by omega) (by omega))) (And.intro rfl (And.intro rfl trivial)) ?_
    | refine Exists.intro _ (And.intro rfl ?_)
    | ((with_reducible show _ = _); rfl))
  all_goals try (
    (with_reducible refine Obl.mk ?_)
    first
    | ((with_reducible show regOk _ _ = true); kernel_rfl)
    | rfl
    | exact trivial
    | ((repeat' (first | exact trivial | refine And.intro ?_ ?_)); done)
    | decide
    | (intro r hr; simp only [List.mem_cons, List.not_mem_nil, or_false] at hr; first | (subst hr; rfl) | (rcases hr with rfl | rfl <;> rfl) | (rcases hr with rfl | rfl | rfl <;> rfl) | (rcases hr with rfl | rfl | rfl | rfl <;> rfl))
    | (refine And.intro ?_ ?_ <;> simp only [List.length_map, List.length_append, List.length_cons, List.length_nil] <;> omega))
  · exact ⟨congrArg (Tr.int _) (hz0.symm.trans (hz.trans (szR_neg (of_decide_eq_true h)))).symm⟩
  have g2 := of_decide_eq_false h
  clear h
  rw [szR_pos g2] at hz
  have b2 := (szT_small (L := 1048576) _ _ (Int.not_lt.1 g2) (by omega)).2
  repeat' (
    (conv => whnf)
    first
    | refine Or.inl ?_
    | refine And.intro (Obl.out (?_ : Obl _)) ?_
    | refine ifB_intro (fun h => ?_) (fun h => ?_)
    | refine Exists.intro _ (And.intro rfl ?_)
    | ((with_reducible show _ = _); rfl))
  all_goals try (
    (with_reducible refine Obl.mk ?_)
    first
    | ((with_reducible show regOk _ _ = true); kernel_rfl)
    | rfl
    | exact trivial
    | ((repeat' (first | exact trivial | refine And.intro ?_ ?_)); done)
    | decide
    | (intro r hr; simp only [List.mem_cons, List.not_mem_nil, or_false] at hr; first | (subst hr; rfl) | (rcases hr with rfl | rfl <;> rfl) | (rcases hr with rfl | rfl | rfl <;> rfl) | (rcases hr with rfl | rfl | rfl | rfl <;> rfl))
    | (refine And.intro ?_ ?_ <;> simp only [List.length_map, List.length_append, List.length_cons, List.length_nil] <;> omega))
  repeat' (
    (conv => whnf)
    first
    | refine Or.inl ?_
    | refine And.intro (Obl.out (?_ : Obl _)) ?_
    | refine ifB_intro (fun h => ?_) (fun h => ?_)
    | refine call_intro ((s_laws_szTokS x.fExpr (by simpa [maxLen] using hw.2.2.2) (szT (.lst 1 (x.fArgs.map strRow)) (left - x.fName.length)) (by omega) (by omega))) (And.intro rfl (And.intro rfl trivial)) ?_
    | refine Exists.intro _ (And.intro rfl ?_)
    | ((with_reducible show _ = _); rfl))
  all_goals try (
    (with_reducible refine Obl.mk ?_)
    first
    | ((with_reducible show regOk _ _ = true); kernel_rfl)
    | rfl
    | exact trivial
    | ((repeat' (first | exact trivial | refine And.intro ?_ ?_)); done)
    | decide
    | (intro r hr; simp only [List.mem_cons, List.not_mem_nil, or_false] at hr; first | (subst hr; rfl) | (rcases hr with rfl | rfl <;> rfl) | (rcases hr with rfl | rfl | rfl <;> rfl) | (rcases hr with rfl | rfl | rfl | rfl <;> rfl))
    | (refine And.intro ?_ ?_ <;> simp only [List.length_map, List.length_append, List.length_cons, List.length_nil] <;> omega))
  · exact ⟨congrArg (Tr.int _) (hz0.symm.trans (hz.trans (szR_neg (of_decide_eq_true h)))).symm⟩
  have g3 := of_decide_eq_false h
  clear h
  rw [szR_pos g3] at hz
  have b3 := (szT_small (L := 1048576) _ _ (Int.not_lt.1 g3) (by omega)).2
  all_goals exact ⟨congrArg (Tr.int _) ((hz0.symm.trans (hz.trans (szR_nil _))).symm)⟩
theorem s_laws_toLineS (xs : List (TLine)) (hs : smallT 1048576 (.lst 4 (xs.map TLine.tr))) : Sim.Spec Try.prog 17 [tvL 4 (xs.map TLine.tr)] (rL 4 (xs.map TLine.tr)) := by
  have hl := small_len hs
  have hlen : (xs.map TLine.tr).length = xs.length := by simp
  refine spec_of_W hΓ hmix Try.func17 rfl (by decide) rfl ?_
  repeat' (
    (conv => whnf)
    first
    | refine Or.inl ?_
    | refine And.intro (Obl.out (?_ : Obl _)) ?_
    | refine ifB_intro (fun h => ?_) (fun h => ?_)
    | refine Exists.intro _ (And.intro rfl ?_)
    | ((with_reducible show _ = _); rfl))
  all_goals try (
    (with_reducible refine Obl.mk ?_)
    first
    | ((with_reducible show regOk _ _ = true); kernel_rfl)
    | rfl
    | exact trivial
    | ((repeat' (first | exact trivial | refine And.intro ?_ ?_)); done)
    | decide
    | (intro r hr; simp only [List.mem_cons, List.not_mem_nil, or_false] at hr; first | (subst hr; rfl) | (rcases hr with rfl | rfl <;> rfl) | (rcases hr with rfl | rfl | rfl <;> rfl) | (rcases hr with rfl | rfl | rfl | rfl <;> rfl))
    | (refine And.intro ?_ ?_ <;> simp only [List.length_map, List.length_append, List.length_cons, List.length_nil] <;> omega))
  · exact ⟨by omega⟩
  · exact ⟨by dsimp only; omega⟩
  repeat' (
    (conv => whnf)
    first
    | refine Or.inl ?_
    | refine And.intro (Obl.out (?_ : Obl _)) ?_
    | refine ifB_intro (fun h => ?_) (fun h => ?_)
    | refine Exists.intro _ (And.intro rfl ?_)
    | ((with_reducible show _ = _); rfl))
  all_goals try (
    (with_reducible refine Obl.mk ?_)
    first
    | ((with_reducible show regOk _ _ = true); kernel_rfl)
    | rfl
    | exact trivial
    | ((repeat' (first | exact trivial | refine And.intro ?_ ?_)); done)
    | decide
    | (intro r hr; simp only [List.mem_cons, List.not_mem_nil, or_false] at hr; first | (subst hr; rfl) | (rcases hr with rfl | rfl <;> rfl) | (rcases hr with rfl | rfl | rfl <;> rfl) | (rcases hr with rfl | rfl | rfl | rfl <;> rfl))
    | (refine And.intro ?_ ?_ <;> simp only [List.length_map, List.length_append, List.length_cons, List.length_nil] <;> omega))
  conv => whnf
  refine ⟨{ k : Nat // k ≤ xs.length }, fun k => ⟨[(0, .r (.c (.t (.lst 4 (xs.map TLine.tr))))), (3, .r (.c (.own (3, 0, 0)))), (4, tI .i64 (k.1 : Int))], [((3, 0, 0), some (.arr true 4 (filled (xs.map TLine.tr) [.int .i64 0, .str [], .lst 0 [], .lst 0 []] k.1)))], [3]⟩, fun k => xs.length - k.1, ⟨0, by omega⟩, ?_, ?_⟩
  · skip
    repeat' (
      (conv => whnf)
      first
      | refine Or.inl ?_
      | refine And.intro (Obl.out (?_ : Obl _)) ?_
      | refine ifB_intro (fun h => ?_) (fun h => ?_)
      | refine Exists.intro _ (And.intro rfl ?_)
      | ((with_reducible show _ = _); rfl))
    all_goals try (
      (with_reducible refine Obl.mk ?_)
      first
      | ((with_reducible show regOk _ _ = true); kernel_rfl)
      | rfl
      | exact trivial
      | ((repeat' (first | exact trivial | refine And.intro ?_ ?_)); done)
      | decide
      | (intro r hr; simp only [List.mem_cons, List.not_mem_nil, or_false] at hr; first | (subst hr; rfl) | (rcases hr with rfl | rfl <;> rfl) | (rcases hr with rfl | rfl | rfl <;> rfl) | (rcases hr with rfl | rfl | rfl | rfl <;> rfl))
      | (refine And.intro ?_ ?_ <;> simp only [List.length_map, List.length_append, List.length_cons, List.length_nil] <;> omega))
    all_goals exact ⟨by rw [← filled_zero, hlen]⟩
  intro ⟨k, hk⟩
  dsimp only
  repeat' (
    (conv => whnf)
    first
    | refine Or.inl ?_
    | refine And.intro (Obl.out (?_ : Obl _)) ?_
    | refine ifB_intro (fun h => ?_) (fun h => ?_)
    | refine Exists.intro _ (And.intro rfl ?_)
    | ((with_reducible show _ = _); rfl))
  all_goals try (
    (with_reducible refine Obl.mk ?_)
    first
    | ((with_reducible show regOk _ _ = true); kernel_rfl)
    | rfl
    | exact trivial
    | ((repeat' (first | exact trivial | refine And.intro ?_ ?_)); done)
    | decide
    | (intro r hr; simp only [List.mem_cons, List.not_mem_nil, or_false] at hr; first | (subst hr; rfl) | (rcases hr with rfl | rfl <;> rfl) | (rcases hr with rfl | rfl | rfl <;> rfl) | (rcases hr with rfl | rfl | rfl | rfl <;> rfl))
    | (refine And.intro ?_ ?_ <;> simp only [List.length_map, List.length_append, List.length_cons, List.length_nil] <;> omega))
  · have hlt : k < xs.length := by have := of_decide_eq_true h; omega
    obtain ⟨x, hx⟩ := get_of_lt hlt
    have hsr := smallRs_map hs (List.mem_of_getElem? hx)
    conv => whnf
    refine ⟨k, _, rfl, map_get hx, ?_⟩
    repeat' (
      (conv => whnf)
      first
      | refine Or.inl ?_
      | refine And.intro (Obl.out (?_ : Obl _)) ?_
      | refine ifB_intro (fun h => ?_) (fun h => ?_)
      | refine call_intro ((s_laws_toLine x hsr)) (And.intro (And.intro rfl (And.intro rfl (And.intro rfl (And.intro rfl trivial)))) trivial) ?_
      | refine Exists.intro _ (And.intro rfl ?_)
      | ((with_reducible show _ = _); rfl))
    all_goals try (
      (with_reducible refine Obl.mk ?_)
      first
      | ((with_reducible show regOk _ _ = true); kernel_rfl)
      | rfl
      | exact trivial
      | ((repeat' (first | exact trivial | refine And.intro ?_ ?_)); done)
      | decide
      | (intro r hr; simp only [List.mem_cons, List.not_mem_nil, or_false] at hr; first | (subst hr; rfl) | (rcases hr with rfl | rfl <;> rfl) | (rcases hr with rfl | rfl | rfl <;> rfl) | (rcases hr with rfl | rfl | rfl | rfl <;> rfl))
      | (refine And.intro ?_ ?_ <;> simp only [List.length_map, List.length_append, List.length_cons, List.length_nil] <;> omega))
    · exact ⟨by rw [filled_len (by omega)]; omega⟩
    conv => whnf
    refine ⟨_, filled_get (by omega), ?_⟩
    repeat' (
      (conv => whnf)
      first
      | refine Or.inl ?_
      | refine And.intro (Obl.out (?_ : Obl _)) ?_
      | refine ifB_intro (fun h => ?_) (fun h => ?_)
      | refine Exists.intro _ (And.intro rfl ?_)
      | ((with_reducible show _ = _); rfl))
    all_goals try (
      (with_reducible refine Obl.mk ?_)
      first
      | ((with_reducible show regOk _ _ = true); kernel_rfl)
      | rfl
      | exact trivial
      | ((repeat' (first | exact trivial | refine And.intro ?_ ?_)); done)
      | decide
      | (intro r hr; simp only [List.mem_cons, List.not_mem_nil, or_false] at hr; first | (subst hr; rfl) | (rcases hr with rfl | rfl <;> rfl) | (rcases hr with rfl | rfl | rfl <;> rfl) | (rcases hr with rfl | rfl | rfl | rfl <;> rfl))
      | (refine And.intro ?_ ?_ <;> simp only [List.length_map, List.length_append, List.length_cons, List.length_nil] <;> omega))
    conv => whnf
    refine ⟨⟨k + 1, by omega⟩, ?_, by dsimp only; omega⟩
    repeat' (
      (conv => whnf)
      first
      | refine Or.inl ?_
      | refine And.intro (Obl.out (?_ : Obl _)) ?_
      | refine ifB_intro (fun h => ?_) (fun h => ?_)
      | refine Exists.intro _ (And.intro rfl ?_)
      | ((with_reducible show _ = _); rfl))
    all_goals try (
      (with_reducible refine Obl.mk ?_)
      first
      | ((with_reducible show regOk _ _ = true); kernel_rfl)
      | rfl
      | exact trivial
      | ((repeat' (first | exact trivial | refine And.intro ?_ ?_)); done)
      | decide
      | (intro r hr; simp only [List.mem_cons, List.not_mem_nil, or_false] at hr; first | (subst hr; rfl) | (rcases hr with rfl | rfl <;> rfl) | (rcases hr with rfl | rfl | rfl <;> rfl) | (rcases hr with rfl | rfl | rfl | rfl <;> rfl))
      | (refine And.intro ?_ ?_ <;> simp only [List.length_map, List.length_append, List.length_cons, List.length_nil] <;> omega))
    · exact ⟨by dsimp only; rw [IntWalk.i64_in _ (by omega)]; rfl⟩
    · exact ⟨filled_set (map_get hx)⟩
  · have hge : xs.length ≤ k := by have := of_decide_eq_false h; omega
    exact ⟨filled_all (by omega)⟩
theorem s_laws_eqLineS (xs : List (TLine)) (hs : smallT 1048576 (.lst 4 (xs.map TLine.tr))) : Sim.Spec Try.prog 19 [tvL 4 (xs.map TLine.tr), tvL 4 (xs.map TLine.tr)] (rB true) := by
  have hl := small_len hs
  have hlen : (xs.map TLine.tr).length = xs.length := by simp
  refine spec_of_W hΓ hmix Try.func19 rfl (by decide) rfl ?_
  repeat' (
    (conv => whnf)
    first
    | refine Or.inl ?_
    | refine And.intro (Obl.out (?_ : Obl _)) ?_
    | refine ifB_intro (fun h => ?_) (fun h => ?_)
    | refine Exists.intro _ (And.intro rfl ?_)
    | ((with_reducible show _ = _); rfl))
  all_goals try (
    (with_reducible refine Obl.mk ?_)
    first
    | ((with_reducible show regOk _ _ = true); kernel_rfl)
    | rfl
    | exact trivial
    | ((repeat' (first | exact trivial | refine And.intro ?_ ?_)); done)
    | decide
    | (intro r hr; simp only [List.mem_cons, List.not_mem_nil, or_false] at hr; first | (subst hr; rfl) | (rcases hr with rfl | rfl <;> rfl) | (rcases hr with rfl | rfl | rfl <;> rfl) | (rcases hr with rfl | rfl | rfl | rfl <;> rfl))
    | (refine And.intro ?_ ?_ <;> simp only [List.length_map, List.length_append, List.length_cons, List.length_nil] <;> omega))
  · simp at h
  conv => whnf
  refine ⟨{ k : Nat // k ≤ xs.length }, fun k => ⟨[(0, .r (.c (.t (.lst 4 (xs.map TLine.tr))))), (1, .r (.c (.t (.lst 4 (xs.map TLine.tr))))), (5, tI .i64 (k.1 : Int))], [], []⟩, fun k => xs.length - k.1, ⟨0, by omega⟩, ?_, ?_⟩
  · skip
    repeat' (
      (conv => whnf)
      first
      | refine Or.inl ?_
      | refine And.intro (Obl.out (?_ : Obl _)) ?_
      | refine ifB_intro (fun h => ?_) (fun h => ?_)
      | refine Exists.intro _ (And.intro rfl ?_)
      | ((with_reducible show _ = _); rfl))
    all_goals try (
      (with_reducible refine Obl.mk ?_)
      first
      | ((with_reducible show regOk _ _ = true); kernel_rfl)
      | rfl
      | exact trivial
      | ((repeat' (first | exact trivial | refine And.intro ?_ ?_)); done)
      | decide
      | (intro r hr; simp only [List.mem_cons, List.not_mem_nil, or_false] at hr; first | (subst hr; rfl) | (rcases hr with rfl | rfl <;> rfl) | (rcases hr with rfl | rfl | rfl <;> rfl) | (rcases hr with rfl | rfl | rfl | rfl <;> rfl))
      | (refine And.intro ?_ ?_ <;> simp only [List.length_map, List.length_append, List.length_cons, List.length_nil] <;> omega))
  intro ⟨k, hk⟩
  dsimp only
  repeat' (
    (conv => whnf)
    first
    | refine Or.inl ?_
    | refine And.intro (Obl.out (?_ : Obl _)) ?_
    | refine ifB_intro (fun h => ?_) (fun h => ?_)
    | refine Exists.intro _ (And.intro rfl ?_)
    | ((with_reducible show _ = _); rfl))
  all_goals try (
    (with_reducible refine Obl.mk ?_)
    first
    | ((with_reducible show regOk _ _ = true); kernel_rfl)
    | rfl
    | exact trivial
    | ((repeat' (first | exact trivial | refine And.intro ?_ ?_)); done)
    | decide
    | (intro r hr; simp only [List.mem_cons, List.not_mem_nil, or_false] at hr; first | (subst hr; rfl) | (rcases hr with rfl | rfl <;> rfl) | (rcases hr with rfl | rfl | rfl <;> rfl) | (rcases hr with rfl | rfl | rfl | rfl <;> rfl))
    | (refine And.intro ?_ ?_ <;> simp only [List.length_map, List.length_append, List.length_cons, List.length_nil] <;> omega))
  · have hlt : k < xs.length := by have := of_decide_eq_true h; omega
    obtain ⟨x, hx⟩ := get_of_lt hlt
    have hsr := smallRs_map hs (List.mem_of_getElem? hx)
    conv => whnf
    refine ⟨k, _, rfl, map_get hx, ?_⟩
    repeat' (
      (conv => whnf)
      first
      | refine Or.inl ?_
      | refine And.intro (Obl.out (?_ : Obl _)) ?_
      | refine ifB_intro (fun h => ?_) (fun h => ?_)
      | refine call_intro ((s_laws_eqLine x hsr)) (And.intro (And.intro rfl (And.intro rfl (And.intro rfl (And.intro rfl trivial)))) (And.intro (And.intro rfl (And.intro rfl (And.intro rfl (And.intro rfl trivial)))) trivial)) ?_
      | refine Exists.intro _ (And.intro rfl ?_)
      | ((with_reducible show _ = _); rfl))
    all_goals try (
      (with_reducible refine Obl.mk ?_)
      first
      | ((with_reducible show regOk _ _ = true); kernel_rfl)
      | rfl
      | exact trivial
      | ((repeat' (first | exact trivial | refine And.intro ?_ ?_)); done)
      | decide
      | (intro r hr; simp only [List.mem_cons, List.not_mem_nil, or_false] at hr; first | (subst hr; rfl) | (rcases hr with rfl | rfl <;> rfl) | (rcases hr with rfl | rfl | rfl <;> rfl) | (rcases hr with rfl | rfl | rfl | rfl <;> rfl))
      | (refine And.intro ?_ ?_ <;> simp only [List.length_map, List.length_append, List.length_cons, List.length_nil] <;> omega))
    conv => whnf
    refine ⟨k, _, rfl, map_get hx, ?_⟩
    repeat' (
      (conv => whnf)
      first
      | refine Or.inl ?_
      | refine And.intro (Obl.out (?_ : Obl _)) ?_
      | refine ifB_intro (fun h => ?_) (fun h => ?_)
      | refine call_intro ((s_laws_eqLine x hsr)) (And.intro (And.intro rfl (And.intro rfl (And.intro rfl (And.intro rfl trivial)))) (And.intro (And.intro rfl (And.intro rfl (And.intro rfl (And.intro rfl trivial)))) trivial)) ?_
      | refine Exists.intro _ (And.intro rfl ?_)
      | ((with_reducible show _ = _); rfl))
    all_goals try (
      (with_reducible refine Obl.mk ?_)
      first
      | ((with_reducible show regOk _ _ = true); kernel_rfl)
      | rfl
      | exact trivial
      | ((repeat' (first | exact trivial | refine And.intro ?_ ?_)); done)
      | decide
      | (intro r hr; simp only [List.mem_cons, List.not_mem_nil, or_false] at hr; first | (subst hr; rfl) | (rcases hr with rfl | rfl <;> rfl) | (rcases hr with rfl | rfl | rfl <;> rfl) | (rcases hr with rfl | rfl | rfl | rfl <;> rfl))
      | (refine And.intro ?_ ?_ <;> simp only [List.length_map, List.length_append, List.length_cons, List.length_nil] <;> omega))
    all_goals try (exfalso; simp at h; done)
    conv => whnf
    refine ⟨⟨k + 1, by omega⟩, ?_, by dsimp only; omega⟩
    repeat' (
      (conv => whnf)
      first
      | refine Or.inl ?_
      | refine And.intro (Obl.out (?_ : Obl _)) ?_
      | refine ifB_intro (fun h => ?_) (fun h => ?_)
      | refine Exists.intro _ (And.intro rfl ?_)
      | ((with_reducible show _ = _); rfl))
    all_goals try (
      (with_reducible refine Obl.mk ?_)
      first
      | ((with_reducible show regOk _ _ = true); kernel_rfl)
      | rfl
      | exact trivial
      | ((repeat' (first | exact trivial | refine And.intro ?_ ?_)); done)
      | decide
      | (intro r hr; simp only [List.mem_cons, List.not_mem_nil, or_false] at hr; first | (subst hr; rfl) | (rcases hr with rfl | rfl <;> rfl) | (rcases hr with rfl | rfl | rfl <;> rfl) | (rcases hr with rfl | rfl | rfl | rfl <;> rfl))
      | (refine And.intro ?_ ?_ <;> simp only [List.length_map, List.length_append, List.length_cons, List.length_nil] <;> omega))
    exact ⟨by dsimp only; rw [IntWalk.i64_in _ (by omega)]; rfl⟩
theorem s_laws_szLineS (xs : List (TLine)) (hw : xs.length ≤ maxLen ∧ ∀ y ∈ xs, y.wf) (left : Int) (hle0 : 0 ≤ left) (hle1 : left ≤ 1048576) : Sim.Spec Try.prog 15 [tvL 4 (xs.map TLine.tr), tvI left] (rI (szT (.lst 4 (xs.map TLine.tr)) left)) := by
  have hl2 : (xs.map TLine.tr).length ≤ 9223372036854775807 := by simpa [maxLen] using hw.1
  have hlen : (xs.map TLine.tr).length = xs.length := by simp
  rw [szT]
  refine spec_of_W hΓ hmix Try.func15 rfl (by decide) rfl ?_
  repeat' (
    (conv => whnf)
    first
    | refine Or.inl ?_
    | refine And.intro (Obl.out (?_ : Obl _)) ?_
    | refine ifB_intro (fun h => ?_) (fun h => ?_)
    | refine Exists.intro _ (And.intro rfl ?_)
    | ((with_reducible show _ = _); rfl))
  all_goals try (
    (with_reducible refine Obl.mk ?_)
    first
    | ((with_reducible show regOk _ _ = true); kernel_rfl)
    | rfl
    | exact trivial
    | ((repeat' (first | exact trivial | refine And.intro ?_ ?_)); done)
    | decide
    | (intro r hr; simp only [List.mem_cons, List.not_mem_nil, or_false] at hr; first | (subst hr; rfl) | (rcases hr with rfl | rfl <;> rfl) | (rcases hr with rfl | rfl | rfl <;> rfl) | (rcases hr with rfl | rfl | rfl | rfl <;> rfl))
    | (refine And.intro ?_ ?_ <;> simp only [List.length_map, List.length_append, List.length_cons, List.length_nil] <;> omega))
  · refine ⟨congrArg (Tr.int _) ?_⟩
    have h2 := of_decide_eq_true h
    rw [IntWalk.i64_in _ (by omega)] at h2
    rw [if_pos h2]
  have h2 := of_decide_eq_false h
  rw [IntWalk.i64_in _ (by omega)] at h2 ⊢
  rw [if_neg h2]
  conv => whnf
  refine ⟨{ q : Nat × Int // q.1 ≤ xs.length ∧ 0 ≤ q.2 ∧ q.2 ≤ 1048576 ∧ szRs ((xs.drop q.1).map TLine.tr) q.2 = szRs (xs.map TLine.tr) (left - (xs.map TLine.tr).length) }, fun q => ⟨[(0, .r (.c (.t (.lst 4 (xs.map TLine.tr))))), (1, tI .i64 q.1.2), (5, tI .i64 (q.1.1 : Int))], [], []⟩, fun q => xs.length - q.1.1, ⟨(0, left - (xs.map TLine.tr).length), by simp, by dsimp only; omega, by dsimp only; omega, by simp⟩, ?_, ?_⟩
  · skip
    repeat' (
      (conv => whnf)
      first
      | refine Or.inl ?_
      | refine And.intro (Obl.out (?_ : Obl _)) ?_
      | refine ifB_intro (fun h => ?_) (fun h => ?_)
      | refine Exists.intro _ (And.intro rfl ?_)
      | ((with_reducible show _ = _); rfl))
    all_goals try (
      (with_reducible refine Obl.mk ?_)
      first
      | ((with_reducible show regOk _ _ = true); kernel_rfl)
      | rfl
      | exact trivial
      | ((repeat' (first | exact trivial | refine And.intro ?_ ?_)); done)
      | decide
      | (intro r hr; simp only [List.mem_cons, List.not_mem_nil, or_false] at hr; first | (subst hr; rfl) | (rcases hr with rfl | rfl <;> rfl) | (rcases hr with rfl | rfl | rfl <;> rfl) | (rcases hr with rfl | rfl | rfl | rfl <;> rfl))
      | (refine And.intro ?_ ?_ <;> simp only [List.length_map, List.length_append, List.length_cons, List.length_nil] <;> omega))
  intro ⟨⟨k, lk⟩, hk, h0, h1, hsz⟩
  dsimp only at hk h0 h1 hsz ⊢
  repeat' (
    (conv => whnf)
    first
    | refine Or.inl ?_
    | refine And.intro (Obl.out (?_ : Obl _)) ?_
    | refine ifB_intro (fun h => ?_) (fun h => ?_)
    | refine Exists.intro _ (And.intro rfl ?_)
    | ((with_reducible show _ = _); rfl))
  all_goals try (
    (with_reducible refine Obl.mk ?_)
    first
    | ((with_reducible show regOk _ _ = true); kernel_rfl)
    | rfl
    | exact trivial
    | ((repeat' (first | exact trivial | refine And.intro ?_ ?_)); done)
    | decide
    | (intro r hr; simp only [List.mem_cons, List.not_mem_nil, or_false] at hr; first | (subst hr; rfl) | (rcases hr with rfl | rfl <;> rfl) | (rcases hr with rfl | rfl | rfl <;> rfl) | (rcases hr with rfl | rfl | rfl | rfl <;> rfl))
    | (refine And.intro ?_ ?_ <;> simp only [List.length_map, List.length_append, List.length_cons, List.length_nil] <;> omega))
  · have hlt : k < xs.length := by have := of_decide_eq_true h; omega
    obtain ⟨x, hx⟩ := get_of_lt hlt
    have hxw := hw.2 x (List.mem_of_getElem? hx)
    rw [drop_at hx, List.map_cons, szRs] at hsz
    conv => whnf
    refine ⟨k, _, rfl, map_get hx, ?_⟩
    repeat' (
      (conv => whnf)
      first
      | refine Or.inl ?_
      | refine And.intro (Obl.out (?_ : Obl _)) ?_
      | refine ifB_intro (fun h => ?_) (fun h => ?_)
      | refine call_intro ((s_laws_szLine x hxw lk h0 h1)) (And.intro (And.intro rfl (And.intro rfl (And.intro rfl (And.intro rfl trivial)))) (And.intro rfl trivial)) ?_
      | refine Exists.intro _ (And.intro rfl ?_)
      | ((with_reducible show _ = _); rfl))
    all_goals try (
      (with_reducible refine Obl.mk ?_)
      first
      | ((with_reducible show regOk _ _ = true); kernel_rfl)
      | rfl
      | exact trivial
      | ((repeat' (first | exact trivial | refine And.intro ?_ ?_)); done)
      | decide
      | (intro r hr; simp only [List.mem_cons, List.not_mem_nil, or_false] at hr; first | (subst hr; rfl) | (rcases hr with rfl | rfl <;> rfl) | (rcases hr with rfl | rfl | rfl <;> rfl) | (rcases hr with rfl | rfl | rfl | rfl <;> rfl))
      | (refine And.intro ?_ ?_ <;> simp only [List.length_map, List.length_append, List.length_cons, List.length_nil] <;> omega))
    · refine ⟨congrArg (Tr.int _) ?_⟩
      rw [← hsz, if_pos (of_decide_eq_true h)]
    have h3 := of_decide_eq_false h
    rw [if_neg h3] at hsz
    have hsm := szR_small (L := 1048576) _ _ (Int.not_lt.1 h3) h1
    conv => whnf
    refine ⟨⟨(k + 1, _), by dsimp only; omega, by dsimp only; exact Int.not_lt.1 h3, by dsimp only; exact Int.le_trans hsm.2 h1, hsz⟩, ?_, by dsimp only; omega⟩
    repeat' (
      (conv => whnf)
      first
      | refine Or.inl ?_
      | refine And.intro (Obl.out (?_ : Obl _)) ?_
      | refine ifB_intro (fun h => ?_) (fun h => ?_)
      | refine Exists.intro _ (And.intro rfl ?_)
      | ((with_reducible show _ = _); rfl))
    all_goals try (
      (with_reducible refine Obl.mk ?_)
      first
      | ((with_reducible show regOk _ _ = true); kernel_rfl)
      | rfl
      | exact trivial
      | ((repeat' (first | exact trivial | refine And.intro ?_ ?_)); done)
      | decide
      | (intro r hr; simp only [List.mem_cons, List.not_mem_nil, or_false] at hr; first | (subst hr; rfl) | (rcases hr with rfl | rfl <;> rfl) | (rcases hr with rfl | rfl | rfl <;> rfl) | (rcases hr with rfl | rfl | rfl | rfl <;> rfl))
      | (refine And.intro ?_ ?_ <;> simp only [List.length_map, List.length_append, List.length_cons, List.length_nil] <;> omega))
    exact ⟨by dsimp only; rw [IntWalk.i64_in _ (by omega)]; rfl⟩
  · have hge : xs.length ≤ k := by have := of_decide_eq_false h; omega
    rw [List.drop_eq_nil_of_le hge, List.map_nil, szRs] at hsz
    exact ⟨congrArg (Tr.int _) hsz⟩
theorem s_laws_toItem (x : TItem) (hs : smallR 1048576 x.tr) : Sim.Spec Try.prog 171 [.agg x.tr] (.r (.agg (x.tr.map resC))) := by
  simp only [TItem.tr, smallR] at hs
  refine spec_of_W hΓ hmix Try.func171 rfl (by decide) rfl ?_
  repeat' (
    (conv => whnf)
    first
    | refine Or.inl ?_
    | refine And.intro (Obl.out (?_ : Obl _)) ?_
    | refine ifB_intro (fun h => ?_) (fun h => ?_)
    | refine call_intro ((s_laws_toOp x.fOp (by rw [TOp.tr]; simp only [smallR]; exact ⟨hs.1, hs.2.1, trivial⟩))) (And.intro (And.intro rfl (And.intro rfl trivial)) trivial) ?_
    | refine call_intro ((s_laws_toIntS x.fChain (small_nat hs.2.2.2.2.1))) (And.intro rfl trivial) ?_
    | refine Exists.intro _ (And.intro rfl ?_)
    | ((with_reducible show _ = _); rfl))
  all_goals try (
    (with_reducible refine Obl.mk ?_)
    first
    | ((with_reducible show regOk _ _ = true); kernel_rfl)
    | rfl
    | exact trivial
    | ((repeat' (first | exact trivial | refine And.intro ?_ ?_)); done)
    | decide
    | (intro r hr; simp only [List.mem_cons, List.not_mem_nil, or_false] at hr; first | (subst hr; rfl) | (rcases hr with rfl | rfl <;> rfl) | (rcases hr with rfl | rfl | rfl <;> rfl) | (rcases hr with rfl | rfl | rfl | rfl <;> rfl))
    | (refine And.intro ?_ ?_ <;> simp only [List.length_map, List.length_append, List.length_cons, List.length_nil] <;> omega))
theorem s_laws_eqItem (x : TItem) (hs : smallR 1048576 x.tr) : Sim.Spec Try.prog 172 [.agg x.tr, .agg x.tr] (rB true) := by
  simp only [TItem.tr, smallR] at hs
  refine spec_of_W hΓ hmix Try.func172 rfl (by decide) rfl ?_
  repeat' (
    (conv => whnf)
    first
    | refine Or.inl ?_
    | refine And.intro (Obl.out (?_ : Obl _)) ?_
    | refine ifB_intro (fun h => ?_) (fun h => ?_)
    | refine call_intro ((s_laws_eqOp x.fOp (by rw [TOp.tr]; simp only [smallR]; exact ⟨hs.1, hs.2.1, trivial⟩))) (And.intro (And.intro rfl (And.intro rfl trivial)) (And.intro (And.intro rfl (And.intro rfl trivial)) trivial)) ?_
    | refine call_intro ((s_laws_eqIntS x.fChain x.fChain (small_nat hs.2.2.2.2.1))) (And.intro rfl (And.intro rfl trivial)) ?_
    | refine Exists.intro _ (And.intro rfl ?_)
    | ((with_reducible show _ = _); rfl))
  all_goals try (
    (with_reducible refine Obl.mk ?_)
    first
    | ((with_reducible show regOk _ _ = true); kernel_rfl)
    | rfl
    | exact trivial
    | ((repeat' (first | exact trivial | refine And.intro ?_ ?_)); done)
    | decide
    | (intro r hr; simp only [List.mem_cons, List.not_mem_nil, or_false] at hr; first | (subst hr; rfl) | (rcases hr with rfl | rfl <;> rfl) | (rcases hr with rfl | rfl | rfl <;> rfl) | (rcases hr with rfl | rfl | rfl | rfl <;> rfl))
    | (refine And.intro ?_ ?_ <;> simp only [List.length_map, List.length_append, List.length_cons, List.length_nil] <;> omega))
  all_goals simp at *
theorem s_laws_szItem (x : TItem) (hw : x.wf) (left : Int) (hle0 : 0 ≤ left) (hle1 : left ≤ 1048576) : Sim.Spec Try.prog 170 [.agg x.tr, tvI left] (rI (szR x.tr left)) := by
  simp only [TItem.wf, maxLen] at hw
  obtain ⟨Z, hz0⟩ : ∃ Z, Z = szR x.tr left := ⟨_, rfl⟩
  have hz := hz0
  rw [TItem.tr] at hz
  refine spec_of_W hΓ hmix Try.func170 rfl (by decide) rfl ?_
  rw [szR_int (by omega)] at hz
  rw [szR_int (by omega)] at hz
  rw [szR_int (by omega)] at hz
  rw [szR_bool (by omega)] at hz
  repeat' (
    (conv => whnf)
    first
    | refine Or.inl ?_
    | refine And.intro (Obl.out (?_ : Obl _)) ?_
    | refine ifB_intro (fun h => ?_) (fun h => ?_)
    | refine Exists.intro _ (And.intro rfl ?_)
    | ((with_reducible show _ = _); rfl))
  all_goals try (
    (with_reducible refine Obl.mk ?_)
    first
    | ((with_reducible show regOk _ _ = true); kernel_rfl)
    | rfl
    | exact trivial
    | ((repeat' (first | exact trivial | refine And.intro ?_ ?_)); done)
    | decide
    | (intro r hr; simp only [List.mem_cons, List.not_mem_nil, or_false] at hr; first | (subst hr; rfl) | (rcases hr with rfl | rfl <;> rfl) | (rcases hr with rfl | rfl | rfl <;> rfl) | (rcases hr with rfl | rfl | rfl | rfl <;> rfl))
    | (refine And.intro ?_ ?_ <;> simp only [List.length_map, List.length_append, List.length_cons, List.length_nil] <;> omega))
  repeat' (
    (conv => whnf)
    first
    | refine Or.inl ?_
    | refine And.intro (Obl.out (?_ : Obl _)) ?_
    | refine ifB_intro (fun h => ?_) (fun h => ?_)
    | refine call_intro ((s_laws_szIntS x.fChain (by simpa [maxLen] using hw.2.2.1.1) left (by omega) (by omega))) (And.intro rfl (And.intro rfl trivial)) ?_
    | refine Exists.intro _ (And.intro rfl ?_)
    | ((with_reducible show _ = _); rfl))
  all_goals try (
    (with_reducible refine Obl.mk ?_)
    first
    | ((with_reducible show regOk _ _ = true); kernel_rfl)
    | rfl
    | exact trivial
    | ((repeat' (first | exact trivial | refine And.intro ?_ ?_)); done)
    | decide
    | (intro r hr; simp only [List.mem_cons, List.not_mem_nil, or_false] at hr; first | (subst hr; rfl) | (rcases hr with rfl | rfl <;> rfl) | (rcases hr with rfl | rfl | rfl <;> rfl) | (rcases hr with rfl | rfl | rfl | rfl <;> rfl))
    | (refine And.intro ?_ ?_ <;> simp only [List.length_map, List.length_append, List.length_cons, List.length_nil] <;> omega))
  · exact ⟨congrArg (Tr.int _) (hz0.symm.trans (hz.trans (szR_neg (of_decide_eq_true h)))).symm⟩
  have g1 := of_decide_eq_false h
  clear h
  rw [szR_pos g1] at hz
  have b1 := (szT_small (L := 1048576) _ _ (Int.not_lt.1 g1) (by omega)).2
  rw [szR_int (by omega)] at hz
  rw [szR_bool (by omega)] at hz
  all_goals exact ⟨congrArg (Tr.int _) ((hz0.symm.trans (hz.trans (szR_nil _))).symm)⟩
theorem s_laws_toSymbol (x : TSymbol) (hs : smallR 1048576 x.tr) : Sim.Spec Try.prog 161 [.agg x.tr] (.r (.agg (x.tr.map resC))) := by
  simp only [TSymbol.tr, smallR] at hs
  refine spec_of_W hΓ hmix Try.func161 rfl (by decide) rfl ?_
  repeat' (
    (conv => whnf)
    first
    | refine Or.inl ?_
    | refine And.intro (Obl.out (?_ : Obl _)) ?_
    | refine ifB_intro (fun h => ?_) (fun h => ?_)
    | refine Exists.intro _ (And.intro rfl ?_)
    | ((with_reducible show _ = _); rfl))
  all_goals try (
    (with_reducible refine Obl.mk ?_)
    first
    | ((with_reducible show regOk _ _ = true); kernel_rfl)
    | rfl
    | exact trivial
    | ((repeat' (first | exact trivial | refine And.intro ?_ ?_)); done)
    | decide
    | (intro r hr; simp only [List.mem_cons, List.not_mem_nil, or_false] at hr; first | (subst hr; rfl) | (rcases hr with rfl | rfl <;> rfl) | (rcases hr with rfl | rfl | rfl <;> rfl) | (rcases hr with rfl | rfl | rfl | rfl <;> rfl))
    | (refine And.intro ?_ ?_ <;> simp only [List.length_map, List.length_append, List.length_cons, List.length_nil] <;> omega))
theorem s_laws_eqSymbol (x : TSymbol) (hs : smallR 1048576 x.tr) : Sim.Spec Try.prog 164 [.agg x.tr, .agg x.tr] (rB true) := by
  simp only [TSymbol.tr, smallR] at hs
  refine spec_of_W hΓ hmix Try.func164 rfl (by decide) rfl ?_
  repeat' (
    (conv => whnf)
    first
    | refine Or.inl ?_
    | refine And.intro (Obl.out (?_ : Obl _)) ?_
    | refine ifB_intro (fun h => ?_) (fun h => ?_)
    | refine Exists.intro _ (And.intro rfl ?_)
    | ((with_reducible show _ = _); rfl))
  all_goals try (
    (with_reducible refine Obl.mk ?_)
    first
    | ((with_reducible show regOk _ _ = true); kernel_rfl)
    | rfl
    | exact trivial
    | ((repeat' (first | exact trivial | refine And.intro ?_ ?_)); done)
    | decide
    | (intro r hr; simp only [List.mem_cons, List.not_mem_nil, or_false] at hr; first | (subst hr; rfl) | (rcases hr with rfl | rfl <;> rfl) | (rcases hr with rfl | rfl | rfl <;> rfl) | (rcases hr with rfl | rfl | rfl | rfl <;> rfl))
    | (refine And.intro ?_ ?_ <;> simp only [List.length_map, List.length_append, List.length_cons, List.length_nil] <;> omega))
  all_goals simp at *
theorem s_laws_szSymbol (x : TSymbol) (hw : x.wf) (left : Int) (hle0 : 0 ≤ left) (hle1 : left ≤ 1048576) : Sim.Spec Try.prog 160 [.agg x.tr, tvI left] (rI (szR x.tr left)) := by
  simp only [TSymbol.wf, maxLen] at hw
  obtain ⟨Z, hz0⟩ : ∃ Z, Z = szR x.tr left := ⟨_, rfl⟩
  have hz := hz0
  rw [TSymbol.tr] at hz
  refine spec_of_W hΓ hmix Try.func160 rfl (by decide) rfl ?_
  repeat' (
    (conv => whnf)
    first
    | refine Or.inl ?_
    | refine And.intro (Obl.out (?_ : Obl _)) ?_
    | refine ifB_intro (fun h => ?_) (fun h => ?_)
    | refine Exists.intro _ (And.intro rfl ?_)
    | ((with_reducible show _ = _); rfl))
  all_goals try (
    (with_reducible refine Obl.mk ?_)
    first
    | ((with_reducible show regOk _ _ = true); kernel_rfl)
    | rfl
    | exact trivial
    | ((repeat' (first | exact trivial | refine And.intro ?_ ?_)); done)
    | decide
    | (intro r hr; simp only [List.mem_cons, List.not_mem_nil, or_false] at hr; first | (subst hr; rfl) | (rcases hr with rfl | rfl <;> rfl) | (rcases hr with rfl | rfl | rfl <;> rfl) | (rcases hr with rfl | rfl | rfl | rfl <;> rfl))
    | (refine And.intro ?_ ?_ <;> simp only [List.length_map, List.length_append, List.length_cons, List.length_nil] <;> omega))
  · have h2 := of_decide_eq_true h
    rw [IntWalk.i64_in _ (by omega)] at h2
    exact ⟨congrArg (Tr.int _) (hz0.symm.trans (hz.trans (szR_str_neg h2))).symm⟩
  have g1 := of_decide_eq_false h
  rw [IntWalk.i64_in _ (by omega)] at g1
  clear h
  rw [IntWalk.i64_in (left - x.fName.length) (by omega)]
  rw [szR_str g1] at hz
  rw [szR_int (by omega)] at hz
  rw [szR_int (by omega)] at hz
  all_goals exact ⟨congrArg (Tr.int _) ((hz0.symm.trans (hz.trans (szR_nil _))).symm)⟩
theorem s_laws_toSymbolS (xs : List (TSymbol)) (hs : smallT 1048576 (.lst 3 (xs.map TSymbol.tr))) : Sim.Spec Try.prog 87 [tvL 3 (xs.map TSymbol.tr)] (rL 3 (xs.map TSymbol.tr)) := by
  have hl := small_len hs
  have hlen : (xs.map TSymbol.tr).length = xs.length := by simp
  refine spec_of_W hΓ hmix Try.func87 rfl (by decide) rfl ?_
  repeat' (
    (conv => whnf)
    first
    | refine Or.inl ?_
    | refine And.intro (Obl.out (?_ : Obl _)) ?_
    | refine ifB_intro (fun h => ?_) (fun h => ?_)
    | refine Exists.intro _ (And.intro rfl ?_)
    | ((with_reducible show _ = _); rfl))
  all_goals try (
    (with_reducible refine Obl.mk ?_)
    first
    | ((with_reducible show regOk _ _ = true); kernel_rfl)
    | rfl
    | exact trivial
    | ((repeat' (first | exact trivial | refine And.intro ?_ ?_)); done)
    | decide
    | (intro r hr; simp only [List.mem_cons, List.not_mem_nil, or_false] at hr; first | (subst hr; rfl) | (rcases hr with rfl | rfl <;> rfl) | (rcases hr with rfl | rfl | rfl <;> rfl) | (rcases hr with rfl | rfl | rfl | rfl <;> rfl))
    | (refine And.intro ?_ ?_ <;> simp only [List.length_map, List.length_append, List.length_cons, List.length_nil] <;> omega))
  · exact ⟨by omega⟩
  · exact ⟨by dsimp only; omega⟩
  repeat' (
    (conv => whnf)
    first
    | refine Or.inl ?_
    | refine And.intro (Obl.out (?_ : Obl _)) ?_
    | refine ifB_intro (fun h => ?_) (fun h => ?_)
    | refine Exists.intro _ (And.intro rfl ?_)
    | ((with_reducible show _ = _); rfl))
  all_goals try (
    (with_reducible refine Obl.mk ?_)
    first
    | ((with_reducible show regOk _ _ = true); kernel_rfl)
    | rfl
    | exact trivial
    | ((repeat' (first | exact trivial | refine And.intro ?_ ?_)); done)
    | decide
    | (intro r hr; simp only [List.mem_cons, List.not_mem_nil, or_false] at hr; first | (subst hr; rfl) | (rcases hr with rfl | rfl <;> rfl) | (rcases hr with rfl | rfl | rfl <;> rfl) | (rcases hr with rfl | rfl | rfl | rfl <;> rfl))
    | (refine And.intro ?_ ?_ <;> simp only [List.length_map, List.length_append, List.length_cons, List.length_nil] <;> omega))
  conv => whnf
  refine ⟨{ k : Nat // k ≤ xs.length }, fun k => ⟨[(0, .r (.c (.t (.lst 3 (xs.map TSymbol.tr))))), (3, .r (.c (.own (3, 0, 0)))), (4, tI .i64 (k.1 : Int))], [((3, 0, 0), some (.arr true 3 (filled (xs.map TSymbol.tr) [.str [], .int .i64 0, .int .i64 0] k.1)))], [3]⟩, fun k => xs.length - k.1, ⟨0, by omega⟩, ?_, ?_⟩
  · skip
    repeat' (
      (conv => whnf)
      first
      | refine Or.inl ?_
      | refine And.intro (Obl.out (?_ : Obl _)) ?_
      | refine ifB_intro (fun h => ?_) (fun h => ?_)
      | refine Exists.intro _ (And.intro rfl ?_)
      | ((with_reducible show _ = _); rfl))
    all_goals try (
      (with_reducible refine Obl.mk ?_)
      first
      | ((with_reducible show regOk _ _ = true); kernel_rfl)
      | rfl
      | exact trivial
      | ((repeat' (first | exact trivial | refine And.intro ?_ ?_)); done)
      | decide
      | (intro r hr; simp only [List.mem_cons, List.not_mem_nil, or_false] at hr; first | (subst hr; rfl) | (rcases hr with rfl | rfl <;> rfl) | (rcases hr with rfl | rfl | rfl <;> rfl) | (rcases hr with rfl | rfl | rfl | rfl <;> rfl))
      | (refine And.intro ?_ ?_ <;> simp only [List.length_map, List.length_append, List.length_cons, List.length_nil] <;> omega))
    all_goals exact ⟨by rw [← filled_zero, hlen]⟩
  intro ⟨k, hk⟩
  dsimp only
  repeat' (
    (conv => whnf)
    first
    | refine Or.inl ?_
    | refine And.intro (Obl.out (?_ : Obl _)) ?_
    | refine ifB_intro (fun h => ?_) (fun h => ?_)
    | refine Exists.intro _ (And.intro rfl ?_)
    | ((with_reducible show _ = _); rfl))
  all_goals try (
    (with_reducible refine Obl.mk ?_)
    first
    | ((with_reducible show regOk _ _ = true); kernel_rfl)
    | rfl
    | exact trivial
    | ((repeat' (first | exact trivial | refine And.intro ?_ ?_)); done)
    | decide
    | (intro r hr; simp only [List.mem_cons, List.not_mem_nil, or_false] at hr; first | (subst hr; rfl) | (rcases hr with rfl | rfl <;> rfl) | (rcases hr with rfl | rfl | rfl <;> rfl) | (rcases hr with rfl | rfl | rfl | rfl <;> rfl))
    | (refine And.intro ?_ ?_ <;> simp only [List.length_map, List.length_append, List.length_cons, List.length_nil] <;> omega))
  · have hlt : k < xs.length := by have := of_decide_eq_true h; omega
    obtain ⟨x, hx⟩ := get_of_lt hlt
    have hsr := smallRs_map hs (List.mem_of_getElem? hx)
    conv => whnf
    refine ⟨k, _, rfl, map_get hx, ?_⟩
    repeat' (
      (conv => whnf)
      first
      | refine Or.inl ?_
      | refine And.intro (Obl.out (?_ : Obl _)) ?_
      | refine ifB_intro (fun h => ?_) (fun h => ?_)
      | refine call_intro ((s_laws_toSymbol x hsr)) (And.intro (And.intro rfl (And.intro rfl (And.intro rfl trivial))) trivial) ?_
      | refine Exists.intro _ (And.intro rfl ?_)
      | ((with_reducible show _ = _); rfl))
    all_goals try (
      (with_reducible refine Obl.mk ?_)
      first
      | ((with_reducible show regOk _ _ = true); kernel_rfl)
      | rfl
      | exact trivial
      | ((repeat' (first | exact trivial | refine And.intro ?_ ?_)); done)
      | decide
      | (intro r hr; simp only [List.mem_cons, List.not_mem_nil, or_false] at hr; first | (subst hr; rfl) | (rcases hr with rfl | rfl <;> rfl) | (rcases hr with rfl | rfl | rfl <;> rfl) | (rcases hr with rfl | rfl | rfl | rfl <;> rfl))
      | (refine And.intro ?_ ?_ <;> simp only [List.length_map, List.length_append, List.length_cons, List.length_nil] <;> omega))
    · exact ⟨by rw [filled_len (by omega)]; omega⟩
    conv => whnf
    refine ⟨_, filled_get (by omega), ?_⟩
    repeat' (
      (conv => whnf)
      first
      | refine Or.inl ?_
      | refine And.intro (Obl.out (?_ : Obl _)) ?_
      | refine ifB_intro (fun h => ?_) (fun h => ?_)
      | refine Exists.intro _ (And.intro rfl ?_)
      | ((with_reducible show _ = _); rfl))
    all_goals try (
      (with_reducible refine Obl.mk ?_)
      first
      | ((with_reducible show regOk _ _ = true); kernel_rfl)
      | rfl
      | exact trivial
      | ((repeat' (first | exact trivial | refine And.intro ?_ ?_)); done)
      | decide
      | (intro r hr; simp only [List.mem_cons, List.not_mem_nil, or_false] at hr; first | (subst hr; rfl) | (rcases hr with rfl | rfl <;> rfl) | (rcases hr with rfl | rfl | rfl <;> rfl) | (rcases hr with rfl | rfl | rfl | rfl <;> rfl))
      | (refine And.intro ?_ ?_ <;> simp only [List.length_map, List.length_append, List.length_cons, List.length_nil] <;> omega))
    conv => whnf
    refine ⟨⟨k + 1, by omega⟩, ?_, by dsimp only; omega⟩
    repeat' (
      (conv => whnf)
      first
      | refine Or.inl ?_
      | refine And.intro (Obl.out (?_ : Obl _)) ?_
      | refine ifB_intro (fun h => ?_) (fun h => ?_)
      | refine Exists.intro _ (And.intro rfl ?_)
      | ((with_reducible show _ = _); rfl))
    all_goals try (
      (with_reducible refine Obl.mk ?_)
      first
      | ((with_reducible show regOk _ _ = true); kernel_rfl)
      | rfl
      | exact trivial
      | ((repeat' (first | exact trivial | refine And.intro ?_ ?_)); done)
      | decide
      | (intro r hr; simp only [List.mem_cons, List.not_mem_nil, or_false] at hr; first | (subst hr; rfl) | (rcases hr with rfl | rfl <;> rfl) | (rcases hr with rfl | rfl | rfl <;> rfl) | (rcases hr with rfl | rfl | rfl | rfl <;> rfl))
      | (refine And.intro ?_ ?_ <;> simp only [List.length_map, List.length_append, List.length_cons, List.length_nil] <;> omega))
    · exact ⟨by dsimp only; rw [IntWalk.i64_in _ (by omega)]; rfl⟩
    · exact ⟨filled_set (map_get hx)⟩
  · have hge : xs.length ≤ k := by have := of_decide_eq_false h; omega
    exact ⟨filled_all (by omega)⟩
theorem s_laws_eqSymbolS (xs : List (TSymbol)) (hs : smallT 1048576 (.lst 3 (xs.map TSymbol.tr))) : Sim.Spec Try.prog 92 [tvL 3 (xs.map TSymbol.tr), tvL 3 (xs.map TSymbol.tr)] (rB true) := by
  have hl := small_len hs
  have hlen : (xs.map TSymbol.tr).length = xs.length := by simp
  refine spec_of_W hΓ hmix Try.func92 rfl (by decide) rfl ?_
  repeat' (
    (conv => whnf)
    first
    | refine Or.inl ?_
    | refine And.intro (Obl.out (?_ : Obl _)) ?_
    | refine ifB_intro (fun h => ?_) (fun h => ?_)
    | refine Exists.intro _ (And.intro rfl ?_)
    | ((with_reducible show _ = _); rfl))
  all_goals try (
    (with_reducible refine Obl.mk ?_)
    first
    | ((with_reducible show regOk _ _ = true); kernel_rfl)
    | rfl
    | exact trivial
    | ((repeat' (first | exact trivial | refine And.intro ?_ ?_)); done)
    | decide
    | (intro r hr; simp only [List.mem_cons, List.not_mem_nil, or_false] at hr; first | (subst hr; rfl) | (rcases hr with rfl | rfl <;> rfl) | (rcases hr with rfl | rfl | rfl <;> rfl) | (rcases hr with rfl | rfl | rfl | rfl <;> rfl))
    | (refine And.intro ?_ ?_ <;> simp only [List.length_map, List.length_append, List.length_cons, List.length_nil] <;> omega))
  · simp at h
  conv => whnf
  refine ⟨{ k : Nat // k ≤ xs.length }, fun k => ⟨[(0, .r (.c (.t (.lst 3 (xs.map TSymbol.tr))))), (1, .r (.c (.t (.lst 3 (xs.map TSymbol.tr))))), (5, tI .i64 (k.1 : Int))], [], []⟩, fun k => xs.length - k.1, ⟨0, by omega⟩, ?_, ?_⟩
  · skip
    repeat' (
      (conv => whnf)
      first
      | refine Or.inl ?_
      | refine And.intro (Obl.out (?_ : Obl _)) ?_
      | refine ifB_intro (fun h => ?_) (fun h => ?_)
      | refine Exists.intro _ (And.intro rfl ?_)
      | ((with_reducible show _ = _); rfl))
    all_goals try (
      (with_reducible refine Obl.mk ?_)
      first
      | ((with_reducible show regOk _ _ = true); kernel_rfl)
      | rfl
      | exact trivial
      | ((repeat' (first | exact trivial | refine And.intro ?_ ?_)); done)
      | decide
      | (intro r hr; simp only [List.mem_cons, List.not_mem_nil, or_false] at hr; first | (subst hr; rfl) | (rcases hr with rfl | rfl <;> rfl) | (rcases hr with rfl | rfl | rfl <;> rfl) | (rcases hr with rfl | rfl | rfl | rfl <;> rfl))
      | (refine And.intro ?_ ?_ <;> simp only [List.length_map, List.length_append, List.length_cons, List.length_nil] <;> omega))
  intro ⟨k, hk⟩
  dsimp only
  repeat' (
    (conv => whnf)
    first
    | refine Or.inl ?_
    | refine And.intro (Obl.out (?_ : Obl _)) ?_
    | refine ifB_intro (fun h => ?_) (fun h => ?_)
    | refine Exists.intro _ (And.intro rfl ?_)
    | ((with_reducible show _ = _); rfl))
  all_goals try (
    (with_reducible refine Obl.mk ?_)
    first
    | ((with_reducible show regOk _ _ = true); kernel_rfl)
    | rfl
    | exact trivial
    | ((repeat' (first | exact trivial | refine And.intro ?_ ?_)); done)
    | decide
    | (intro r hr; simp only [List.mem_cons, List.not_mem_nil, or_false] at hr; first | (subst hr; rfl) | (rcases hr with rfl | rfl <;> rfl) | (rcases hr with rfl | rfl | rfl <;> rfl) | (rcases hr with rfl | rfl | rfl | rfl <;> rfl))
    | (refine And.intro ?_ ?_ <;> simp only [List.length_map, List.length_append, List.length_cons, List.length_nil] <;> omega))
  · have hlt : k < xs.length := by have := of_decide_eq_true h; omega
    obtain ⟨x, hx⟩ := get_of_lt hlt
    have hsr := smallRs_map hs (List.mem_of_getElem? hx)
    conv => whnf
    refine ⟨k, _, rfl, map_get hx, ?_⟩
    repeat' (
      (conv => whnf)
      first
      | refine Or.inl ?_
      | refine And.intro (Obl.out (?_ : Obl _)) ?_
      | refine ifB_intro (fun h => ?_) (fun h => ?_)
      | refine call_intro ((s_laws_eqSymbol x hsr)) (And.intro (And.intro rfl (And.intro rfl (And.intro rfl trivial))) (And.intro (And.intro rfl (And.intro rfl (And.intro rfl trivial))) trivial)) ?_
      | refine Exists.intro _ (And.intro rfl ?_)
      | ((with_reducible show _ = _); rfl))
    all_goals try (
      (with_reducible refine Obl.mk ?_)
      first
      | ((with_reducible show regOk _ _ = true); kernel_rfl)
      | rfl
      | exact trivial
      | ((repeat' (first | exact trivial | refine And.intro ?_ ?_)); done)
      | decide
      | (intro r hr; simp only [List.mem_cons, List.not_mem_nil, or_false] at hr; first | (subst hr; rfl) | (rcases hr with rfl | rfl <;> rfl) | (rcases hr with rfl | rfl | rfl <;> rfl) | (rcases hr with rfl | rfl | rfl | rfl <;> rfl))
      | (refine And.intro ?_ ?_ <;> simp only [List.length_map, List.length_append, List.length_cons, List.length_nil] <;> omega))
    conv => whnf
    refine ⟨k, _, rfl, map_get hx, ?_⟩
    repeat' (
      (conv => whnf)
      first
      | refine Or.inl ?_
      | refine And.intro (Obl.out (?_ : Obl _)) ?_
      | refine ifB_intro (fun h => ?_) (fun h => ?_)
      | refine call_intro ((s_laws_eqSymbol x hsr)) (And.intro (And.intro rfl (And.intro rfl (And.intro rfl trivial))) (And.intro (And.intro rfl (And.intro rfl (And.intro rfl trivial))) trivial)) ?_
      | refine Exists.intro _ (And.intro rfl ?_)
      | ((with_reducible show _ = _); rfl))
    all_goals try (
      (with_reducible refine Obl.mk ?_)
      first
      | ((with_reducible show regOk _ _ = true); kernel_rfl)
      | rfl
      | exact trivial
      | ((repeat' (first | exact trivial | refine And.intro ?_ ?_)); done)
      | decide
      | (intro r hr; simp only [List.mem_cons, List.not_mem_nil, or_false] at hr; first | (subst hr; rfl) | (rcases hr with rfl | rfl <;> rfl) | (rcases hr with rfl | rfl | rfl <;> rfl) | (rcases hr with rfl | rfl | rfl | rfl <;> rfl))
      | (refine And.intro ?_ ?_ <;> simp only [List.length_map, List.length_append, List.length_cons, List.length_nil] <;> omega))
    all_goals try (exfalso; simp at h; done)
    conv => whnf
    refine ⟨⟨k + 1, by omega⟩, ?_, by dsimp only; omega⟩
    repeat' (
      (conv => whnf)
      first
      | refine Or.inl ?_
      | refine And.intro (Obl.out (?_ : Obl _)) ?_
      | refine ifB_intro (fun h => ?_) (fun h => ?_)
      | refine Exists.intro _ (And.intro rfl ?_)
      | ((with_reducible show _ = _); rfl))
    all_goals try (
      (with_reducible refine Obl.mk ?_)
      first
      | ((with_reducible show regOk _ _ = true); kernel_rfl)
      | rfl
      | exact trivial
      | ((repeat' (first | exact trivial | refine And.intro ?_ ?_)); done)
      | decide
      | (intro r hr; simp only [List.mem_cons, List.not_mem_nil, or_false] at hr; first | (subst hr; rfl) | (rcases hr with rfl | rfl <;> rfl) | (rcases hr with rfl | rfl | rfl <;> rfl) | (rcases hr with rfl | rfl | rfl | rfl <;> rfl))
      | (refine And.intro ?_ ?_ <;> simp only [List.length_map, List.length_append, List.length_cons, List.length_nil] <;> omega))
    exact ⟨by dsimp only; rw [IntWalk.i64_in _ (by omega)]; rfl⟩
theorem s_laws_szSymbolS (xs : List (TSymbol)) (hw : xs.length ≤ maxLen ∧ ∀ y ∈ xs, y.wf) (left : Int) (hle0 : 0 ≤ left) (hle1 : left ≤ 1048576) : Sim.Spec Try.prog 83 [tvL 3 (xs.map TSymbol.tr), tvI left] (rI (szT (.lst 3 (xs.map TSymbol.tr)) left)) := by
  have hl2 : (xs.map TSymbol.tr).length ≤ 9223372036854775807 := by simpa [maxLen] using hw.1
  have hlen : (xs.map TSymbol.tr).length = xs.length := by simp
  rw [szT]
  refine spec_of_W hΓ hmix Try.func83 rfl (by decide) rfl ?_
  repeat' (
    (conv => whnf)
    first
    | refine Or.inl ?_
    | refine And.intro (Obl.out (?_ : Obl _)) ?_
    | refine ifB_intro (fun h => ?_) (fun h => ?_)
    | refine Exists.intro _ (And.intro rfl ?_)
    | ((with_reducible show _ = _); rfl))
  all_goals try (
    (with_reducible refine Obl.mk ?_)
    first
    | ((with_reducible show regOk _ _ = true); kernel_rfl)
    | rfl
    | exact trivial
    | ((repeat' (first | exact trivial | refine And.intro ?_ ?_)); done)
    | decide
    | (intro r hr; simp only [List.mem_cons, List.not_mem_nil, or_false] at hr; first | (subst hr; rfl) | (rcases hr with rfl | rfl <;> rfl) | (rcases hr with rfl | rfl | rfl <;> rfl) | (rcases hr with rfl | rfl | rfl | rfl <;> rfl))
    | (refine And.intro ?_ ?_ <;> simp only [List.length_map, List.length_append, List.length_cons, List.length_nil] <;> omega))
  · refine ⟨congrArg (Tr.int _) ?_⟩
    have h2 := of_decide_eq_true h
    rw [IntWalk.i64_in _ (by omega)] at h2
    rw [if_pos h2]
  have h2 := of_decide_eq_false h
  rw [IntWalk.i64_in _ (by omega)] at h2 ⊢
  rw [if_neg h2]
  conv => whnf
  refine ⟨{ q : Nat × Int // q.1 ≤ xs.length ∧ 0 ≤ q.2 ∧ q.2 ≤ 1048576 ∧ szRs ((xs.drop q.1).map TSymbol.tr) q.2 = szRs (xs.map TSymbol.tr) (left - (xs.map TSymbol.tr).length) }, fun q => ⟨[(0, .r (.c (.t (.lst 3 (xs.map TSymbol.tr))))), (1, tI .i64 q.1.2), (5, tI .i64 (q.1.1 : Int))], [], []⟩, fun q => xs.length - q.1.1, ⟨(0, left - (xs.map TSymbol.tr).length), by simp, by dsimp only; omega, by dsimp only; omega, by simp⟩, ?_, ?_⟩
  · skip
    repeat' (
      (conv => whnf)
      first
      | refine Or.inl ?_
      | refine And.intro (Obl.out (?_ : Obl _)) ?_
      | refine ifB_intro (fun h => ?_) (fun h => ?_)
      | refine Exists.intro _ (And.intro rfl ?_)
      | ((with_reducible show _ = _); rfl))
    all_goals try (
      (with_reducible refine Obl.mk ?_)
      first
      | ((with_reducible show regOk _ _ = true); kernel_rfl)
      | rfl
      | exact trivial
      | ((repeat' (first | exact trivial | refine And.intro ?_ ?_)); done)
      | decide
      | (intro r hr; simp only [List.mem_cons, List.not_mem_nil, or_false] at hr; first | (subst hr; rfl) | (rcases hr with rfl | rfl <;> rfl) | (rcases hr with rfl | rfl | rfl <;> rfl) | (rcases hr with rfl | rfl | rfl | rfl <;> rfl))
      | (refine And.intro ?_ ?_ <;> simp only [List.length_map, List.length_append, List.length_cons, List.length_nil] <;> omega))
  intro ⟨⟨k, lk⟩, hk, h0, h1, hsz⟩
  dsimp only at hk h0 h1 hsz ⊢
  repeat' (
    (conv => whnf)
    first
    | refine Or.inl ?_
    | refine And.intro (Obl.out (?_ : Obl _)) ?_
    | refine ifB_intro (fun h => ?_) (fun h => ?_)
    | refine Exists.intro _ (And.intro rfl ?_)
    | ((with_reducible show _ = _); rfl))
  all_goals try (
    (with_reducible refine Obl.mk ?_)
    first
    | ((with_reducible show regOk _ _ = true); kernel_rfl)
    | rfl
    | exact trivial
    | ((repeat' (first | exact trivial | refine And.intro ?_ ?_)); done)
    | decide
    | (intro r hr; simp only [List.mem_cons, List.not_mem_nil, or_false] at hr; first | (subst hr; rfl) | (rcases hr with rfl | rfl <;> rfl) | (rcases hr with rfl | rfl | rfl <;> rfl) | (rcases hr with rfl | rfl | rfl | rfl <;> rfl))
    | (refine And.intro ?_ ?_ <;> simp only [List.length_map, List.length_append, List.length_cons, List.length_nil] <;> omega))
  · have hlt : k < xs.length := by have := of_decide_eq_true h; omega
    obtain ⟨x, hx⟩ := get_of_lt hlt
    have hxw := hw.2 x (List.mem_of_getElem? hx)
    rw [drop_at hx, List.map_cons, szRs] at hsz
    conv => whnf
    refine ⟨k, _, rfl, map_get hx, ?_⟩
    repeat' (
      (conv => whnf)
      first
      | refine Or.inl ?_
      | refine And.intro (Obl.out (?_ : Obl _)) ?_
      | refine ifB_intro (fun h => ?_) (fun h => ?_)
      | refine call_intro ((s_laws_szSymbol x hxw lk h0 h1)) (And.intro (And.intro rfl (And.intro rfl (And.intro rfl trivial))) (And.intro rfl trivial)) ?_
      | refine Exists.intro _ (And.intro rfl ?_)
      | ((with_reducible show _ = _); rfl))
    all_goals try (
      (with_reducible refine Obl.mk ?_)
      first
      | ((with_reducible show regOk _ _ = true); kernel_rfl)
      | rfl
      | exact trivial
      | ((repeat' (first | exact trivial | refine And.intro ?_ ?_)); done)
      | decide
      | (intro r hr; simp only [List.mem_cons, List.not_mem_nil, or_false] at hr; first | (subst hr; rfl) | (rcases hr with rfl | rfl <;> rfl) | (rcases hr with rfl | rfl | rfl <;> rfl) | (rcases hr with rfl | rfl | rfl | rfl <;> rfl))
      | (refine And.intro ?_ ?_ <;> simp only [List.length_map, List.length_append, List.length_cons, List.length_nil] <;> omega))
    · refine ⟨congrArg (Tr.int _) ?_⟩
      rw [← hsz, if_pos (of_decide_eq_true h)]
    have h3 := of_decide_eq_false h
    rw [if_neg h3] at hsz
    have hsm := szR_small (L := 1048576) _ _ (Int.not_lt.1 h3) h1
    conv => whnf
    refine ⟨⟨(k + 1, _), by dsimp only; omega, by dsimp only; exact Int.not_lt.1 h3, by dsimp only; exact Int.le_trans hsm.2 h1, hsz⟩, ?_, by dsimp only; omega⟩
    repeat' (
      (conv => whnf)
      first
      | refine Or.inl ?_
      | refine And.intro (Obl.out (?_ : Obl _)) ?_
      | refine ifB_intro (fun h => ?_) (fun h => ?_)
      | refine Exists.intro _ (And.intro rfl ?_)
      | ((with_reducible show _ = _); rfl))
    all_goals try (
      (with_reducible refine Obl.mk ?_)
      first
      | ((with_reducible show regOk _ _ = true); kernel_rfl)
      | rfl
      | exact trivial
      | ((repeat' (first | exact trivial | refine And.intro ?_ ?_)); done)
      | decide
      | (intro r hr; simp only [List.mem_cons, List.not_mem_nil, or_false] at hr; first | (subst hr; rfl) | (rcases hr with rfl | rfl <;> rfl) | (rcases hr with rfl | rfl | rfl <;> rfl) | (rcases hr with rfl | rfl | rfl | rfl <;> rfl))
      | (refine And.intro ?_ ?_ <;> simp only [List.length_map, List.length_append, List.length_cons, List.length_nil] <;> omega))
    exact ⟨by dsimp only; rw [IntWalk.i64_in _ (by omega)]; rfl⟩
  · have hge : xs.length ≤ k := by have := of_decide_eq_false h; omega
    rw [List.drop_eq_nil_of_le hge, List.map_nil, szRs] at hsz
    exact ⟨congrArg (Tr.int _) hsz⟩
theorem s_laws_toImage (x : TImage) (hs : smallR 1048576 x.tr) : Sim.Spec Try.prog 23 [.agg x.tr] (.r (.agg (x.tr.map resC))) := by
  simp only [TImage.tr, smallR] at hs
  refine spec_of_W hΓ hmix Try.func23 rfl (by decide) rfl ?_
  repeat' (
    (conv => whnf)
    first
    | refine Or.inl ?_
    | refine And.intro (Obl.out (?_ : Obl _)) ?_
    | refine ifB_intro (fun h => ?_) (fun h => ?_)
    | refine call_intro ((s_laws_toSymbolS x.fSymbols hs.2.1)) (And.intro rfl trivial) ?_
    | refine Exists.intro _ (And.intro rfl ?_)
    | ((with_reducible show _ = _); rfl))
  all_goals try (
    (with_reducible refine Obl.mk ?_)
    first
    | ((with_reducible show regOk _ _ = true); kernel_rfl)
    | rfl
    | exact trivial
    | ((repeat' (first | exact trivial | refine And.intro ?_ ?_)); done)
    | decide
    | (intro r hr; simp only [List.mem_cons, List.not_mem_nil, or_false] at hr; first | (subst hr; rfl) | (rcases hr with rfl | rfl <;> rfl) | (rcases hr with rfl | rfl | rfl <;> rfl) | (rcases hr with rfl | rfl | rfl | rfl <;> rfl))
    | (refine And.intro ?_ ?_ <;> simp only [List.length_map, List.length_append, List.length_cons, List.length_nil] <;> omega))
theorem s_laws_eqImage (x : TImage) (hs : smallR 1048576 x.tr) : Sim.Spec Try.prog 26 [.agg x.tr, .agg x.tr] (rB true) := by
  simp only [TImage.tr, smallR] at hs
  refine spec_of_W hΓ hmix Try.func26 rfl (by decide) rfl ?_
  repeat' (
    (conv => whnf)
    first
    | refine Or.inl ?_
    | refine And.intro (Obl.out (?_ : Obl _)) ?_
    | refine ifB_intro (fun h => ?_) (fun h => ?_)
    | refine call_intro ((s_laws_eqSymbolS x.fSymbols hs.2.1)) (And.intro rfl (And.intro rfl trivial)) ?_
    | refine Exists.intro _ (And.intro rfl ?_)
    | ((with_reducible show _ = _); rfl))
  all_goals try (
    (with_reducible refine Obl.mk ?_)
    first
    | ((with_reducible show regOk _ _ = true); kernel_rfl)
    | rfl
    | exact trivial
    | ((repeat' (first | exact trivial | refine And.intro ?_ ?_)); done)
    | decide
    | (intro r hr; simp only [List.mem_cons, List.not_mem_nil, or_false] at hr; first | (subst hr; rfl) | (rcases hr with rfl | rfl <;> rfl) | (rcases hr with rfl | rfl | rfl <;> rfl) | (rcases hr with rfl | rfl | rfl | rfl <;> rfl))
    | (refine And.intro ?_ ?_ <;> simp only [List.length_map, List.length_append, List.length_cons, List.length_nil] <;> omega))
  all_goals simp at *
theorem s_laws_szImage (x : TImage) (hw : x.wf) (left : Int) (hle0 : 0 ≤ left) (hle1 : left ≤ 1048576) : Sim.Spec Try.prog 20 [.agg x.tr, tvI left] (rI (szR x.tr left)) := by
  simp only [TImage.wf, maxLen] at hw
  obtain ⟨Z, hz0⟩ : ∃ Z, Z = szR x.tr left := ⟨_, rfl⟩
  have hz := hz0
  rw [TImage.tr] at hz
  refine spec_of_W hΓ hmix Try.func20 rfl (by decide) rfl ?_
  repeat' (
    (conv => whnf)
    first
    | refine Or.inl ?_
    | refine And.intro (Obl.out (?_ : Obl _)) ?_
    | refine ifB_intro (fun h => ?_) (fun h => ?_)
    | refine Exists.intro _ (And.intro rfl ?_)
    | ((with_reducible show _ = _); rfl))
  all_goals try (
    (with_reducible refine Obl.mk ?_)
    first
    | ((with_reducible show regOk _ _ = true); kernel_rfl)
    | rfl
    | exact trivial
    | ((repeat' (first | exact trivial | refine And.intro ?_ ?_)); done)
    | decide
    | (intro r hr; simp only [List.mem_cons, List.not_mem_nil, or_false] at hr; first | (subst hr; rfl) | (rcases hr with rfl | rfl <;> rfl) | (rcases hr with rfl | rfl | rfl <;> rfl) | (rcases hr with rfl | rfl | rfl | rfl <;> rfl))
    | (refine And.intro ?_ ?_ <;> simp only [List.length_map, List.length_append, List.length_cons, List.length_nil] <;> omega))
  · have h2 := of_decide_eq_true h
    rw [IntWalk.i64_in _ (by omega)] at h2
    exact ⟨congrArg (Tr.int _) (hz0.symm.trans (hz.trans (szR_str_neg h2))).symm⟩
  have g1 := of_decide_eq_false h
  rw [IntWalk.i64_in _ (by omega)] at g1
  clear h
  rw [IntWalk.i64_in (left - x.fCode.length) (by omega)]
  rw [szR_str g1] at hz
  repeat' (
    (conv => whnf)
    first
    | refine Or.inl ?_
    | refine And.intro (Obl.out (?_ : Obl _)) ?_
    | refine ifB_intro (fun h => ?_) (fun h => ?_)
    | refine Exists.intro _ (And.intro rfl ?_)
    | ((with_reducible show _ = _); rfl))
  all_goals try (
    (with_reducible refine Obl.mk ?_)
    first
    | ((with_reducible show regOk _ _ = true); kernel_rfl)
    | rfl
    | exact trivial
    | ((repeat' (first | exact trivial | refine And.intro ?_ ?_)); done)
    | decide
    | (intro r hr; simp only [List.mem_cons, List.not_mem_nil, or_false] at hr; first | (subst hr; rfl) | (rcases hr with rfl | rfl <;> rfl) | (rcases hr with rfl | rfl | rfl <;> rfl) | (rcases hr with rfl | rfl | rfl | rfl <;> rfl))
    | (refine And.intro ?_ ?_ <;> simp only [List.length_map, List.length_append, List.length_cons, List.length_nil] <;> omega))
  repeat' (
    (conv => whnf)
    first
    | refine Or.inl ?_
    | refine And.intro (Obl.out (?_ : Obl _)) ?_
    | refine ifB_intro (fun h => ?_) (fun h => ?_)
    | refine call_intro ((s_laws_szSymbolS x.fSymbols (by simpa [maxLen] using hw.2) (left - x.fCode.length) (by omega) (by omega))) (And.intro rfl (And.intro rfl trivial)) ?_
    | refine Exists.intro _ (And.intro rfl ?_)
    | ((with_reducible show _ = _); rfl))
  all_goals try (
    (with_reducible refine Obl.mk ?_)
    first
    | ((with_reducible show regOk _ _ = true); kernel_rfl)
    | rfl
    | exact trivial
    | ((repeat' (first | exact trivial | refine And.intro ?_ ?_)); done)
    | decide
    | (intro r hr; simp only [List.mem_cons, List.not_mem_nil, or_false] at hr; first | (subst hr; rfl) | (rcases hr with rfl | rfl <;> rfl) | (rcases hr with rfl | rfl | rfl <;> rfl) | (rcases hr with rfl | rfl | rfl | rfl <;> rfl))
    | (refine And.intro ?_ ?_ <;> simp only [List.length_map, List.length_append, List.length_cons, List.length_nil] <;> omega))
  · exact ⟨congrArg (Tr.int _) (hz0.symm.trans (hz.trans (szR_neg (of_decide_eq_true h)))).symm⟩
  have g2 := of_decide_eq_false h
  clear h
  rw [szR_pos g2] at hz
  have b2 := (szT_small (L := 1048576) _ _ (Int.not_lt.1 g2) (by omega)).2
  all_goals exact ⟨congrArg (Tr.int _) ((hz0.symm.trans (hz.trans (szR_nil _))).symm)⟩
theorem s_laws_toImageS (xs : List (TImage)) (hs : smallT 1048576 (.lst 2 (xs.map TImage.tr))) : Sim.Spec Try.prog 142 [tvL 2 (xs.map TImage.tr)] (rL 2 (xs.map TImage.tr)) := by
  have hl := small_len hs
  have hlen : (xs.map TImage.tr).length = xs.length := by simp
  refine spec_of_W hΓ hmix Try.func142 rfl (by decide) rfl ?_
  repeat' (
    (conv => whnf)
    first
    | refine Or.inl ?_
    | refine And.intro (Obl.out (?_ : Obl _)) ?_
    | refine ifB_intro (fun h => ?_) (fun h => ?_)
    | refine Exists.intro _ (And.intro rfl ?_)
    | ((with_reducible show _ = _); rfl))
  all_goals try (
    (with_reducible refine Obl.mk ?_)
    first
    | ((with_reducible show regOk _ _ = true); kernel_rfl)
    | rfl
    | exact trivial
    | ((repeat' (first | exact trivial | refine And.intro ?_ ?_)); done)
    | decide
    | (intro r hr; simp only [List.mem_cons, List.not_mem_nil, or_false] at hr; first | (subst hr; rfl) | (rcases hr with rfl | rfl <;> rfl) | (rcases hr with rfl | rfl | rfl <;> rfl) | (rcases hr with rfl | rfl | rfl | rfl <;> rfl))
    | (refine And.intro ?_ ?_ <;> simp only [List.length_map, List.length_append, List.length_cons, List.length_nil] <;> omega))
  · exact ⟨by omega⟩
  · exact ⟨by dsimp only; omega⟩
  repeat' (
    (conv => whnf)
    first
    | refine Or.inl ?_
    | refine And.intro (Obl.out (?_ : Obl _)) ?_
    | refine ifB_intro (fun h => ?_) (fun h => ?_)
    | refine Exists.intro _ (And.intro rfl ?_)
    | ((with_reducible show _ = _); rfl))
  all_goals try (
    (with_reducible refine Obl.mk ?_)
    first
    | ((with_reducible show regOk _ _ = true); kernel_rfl)
    | rfl
    | exact trivial
    | ((repeat' (first | exact trivial | refine And.intro ?_ ?_)); done)
    | decide
    | (intro r hr; simp only [List.mem_cons, List.not_mem_nil, or_false] at hr; first | (subst hr; rfl) | (rcases hr with rfl | rfl <;> rfl) | (rcases hr with rfl | rfl | rfl <;> rfl) | (rcases hr with rfl | rfl | rfl | rfl <;> rfl))
    | (refine And.intro ?_ ?_ <;> simp only [List.length_map, List.length_append, List.length_cons, List.length_nil] <;> omega))
  conv => whnf
  refine ⟨{ k : Nat // k ≤ xs.length }, fun k => ⟨[(0, .r (.c (.t (.lst 2 (xs.map TImage.tr))))), (3, .r (.c (.own (3, 0, 0)))), (4, tI .i64 (k.1 : Int))], [((3, 0, 0), some (.arr true 2 (filled (xs.map TImage.tr) [.str [], .lst 0 []] k.1)))], [3]⟩, fun k => xs.length - k.1, ⟨0, by omega⟩, ?_, ?_⟩
  · skip
    repeat' (
      (conv => whnf)
      first
      | refine Or.inl ?_
      | refine And.intro (Obl.out (?_ : Obl _)) ?_
      | refine ifB_intro (fun h => ?_) (fun h => ?_)
      | refine Exists.intro _ (And.intro rfl ?_)
      | ((with_reducible show _ = _); rfl))
    all_goals try (
      (with_reducible refine Obl.mk ?_)
      first
      | ((with_reducible show regOk _ _ = true); kernel_rfl)
      | rfl
      | exact trivial
      | ((repeat' (first | exact trivial | refine And.intro ?_ ?_)); done)
      | decide
      | (intro r hr; simp only [List.mem_cons, List.not_mem_nil, or_false] at hr; first | (subst hr; rfl) | (rcases hr with rfl | rfl <;> rfl) | (rcases hr with rfl | rfl | rfl <;> rfl) | (rcases hr with rfl | rfl | rfl | rfl <;> rfl))
      | (refine And.intro ?_ ?_ <;> simp only [List.length_map, List.length_append, List.length_cons, List.length_nil] <;> omega))
    all_goals exact ⟨by rw [← filled_zero, hlen]⟩
  intro ⟨k, hk⟩
  dsimp only
  repeat' (
    (conv => whnf)
    first
    | refine Or.inl ?_
    | refine And.intro (Obl.out (?_ : Obl _)) ?_
    | refine ifB_intro (fun h => ?_) (fun h => ?_)
    | refine Exists.intro _ (And.intro rfl ?_)
    | ((with_reducible show _ = _); rfl))
  all_goals try (
    (with_reducible refine Obl.mk ?_)
    first
    | ((with_reducible show regOk _ _ = true); kernel_rfl)
    | rfl
    | exact trivial
    | ((repeat' (first | exact trivial | refine And.intro ?_ ?_)); done)
    | decide
    | (intro r hr; simp only [List.mem_cons, List.not_mem_nil, or_false] at hr; first | (subst hr; rfl) | (rcases hr with rfl | rfl <;> rfl) | (rcases hr with rfl | rfl | rfl <;> rfl) | (rcases hr with rfl | rfl | rfl | rfl <;> rfl))
    | (refine And.intro ?_ ?_ <;> simp only [List.length_map, List.length_append, List.length_cons, List.length_nil] <;> omega))
  · have hlt : k < xs.length := by have := of_decide_eq_true h; omega
    obtain ⟨x, hx⟩ := get_of_lt hlt
    have hsr := smallRs_map hs (List.mem_of_getElem? hx)
    conv => whnf
    refine ⟨k, _, rfl, map_get hx, ?_⟩
    repeat' (
      (conv => whnf)
      first
      | refine Or.inl ?_
      | refine And.intro (Obl.out (?_ : Obl _)) ?_
      | refine ifB_intro (fun h => ?_) (fun h => ?_)
      | refine call_intro ((s_laws_toImage x hsr)) (And.intro (And.intro rfl (And.intro rfl trivial)) trivial) ?_
      | refine Exists.intro _ (And.intro rfl ?_)
      | ((with_reducible show _ = _); rfl))
    all_goals try (
      (with_reducible refine Obl.mk ?_)
      first
      | ((with_reducible show regOk _ _ = true); kernel_rfl)
      | rfl
      | exact trivial
      | ((repeat' (first | exact trivial | refine And.intro ?_ ?_)); done)
      | decide
      | (intro r hr; simp only [List.mem_cons, List.not_mem_nil, or_false] at hr; first | (subst hr; rfl) | (rcases hr with rfl | rfl <;> rfl) | (rcases hr with rfl | rfl | rfl <;> rfl) | (rcases hr with rfl | rfl | rfl | rfl <;> rfl))
      | (refine And.intro ?_ ?_ <;> simp only [List.length_map, List.length_append, List.length_cons, List.length_nil] <;> omega))
    · exact ⟨by rw [filled_len (by omega)]; omega⟩
    conv => whnf
    refine ⟨_, filled_get (by omega), ?_⟩
    repeat' (
      (conv => whnf)
      first
      | refine Or.inl ?_
      | refine And.intro (Obl.out (?_ : Obl _)) ?_
      | refine ifB_intro (fun h => ?_) (fun h => ?_)
      | refine Exists.intro _ (And.intro rfl ?_)
      | ((with_reducible show _ = _); rfl))
    all_goals try (
      (with_reducible refine Obl.mk ?_)
      first
      | ((with_reducible show regOk _ _ = true); kernel_rfl)
      | rfl
      | exact trivial
      | ((repeat' (first | exact trivial | refine And.intro ?_ ?_)); done)
      | decide
      | (intro r hr; simp only [List.mem_cons, List.not_mem_nil, or_false] at hr; first | (subst hr; rfl) | (rcases hr with rfl | rfl <;> rfl) | (rcases hr with rfl | rfl | rfl <;> rfl) | (rcases hr with rfl | rfl | rfl | rfl <;> rfl))
      | (refine And.intro ?_ ?_ <;> simp only [List.length_map, List.length_append, List.length_cons, List.length_nil] <;> omega))
    conv => whnf
    refine ⟨⟨k + 1, by omega⟩, ?_, by dsimp only; omega⟩
    repeat' (
      (conv => whnf)
      first
      | refine Or.inl ?_
      | refine And.intro (Obl.out (?_ : Obl _)) ?_
      | refine ifB_intro (fun h => ?_) (fun h => ?_)
      | refine Exists.intro _ (And.intro rfl ?_)
      | ((with_reducible show _ = _); rfl))
    all_goals try (
      (with_reducible refine Obl.mk ?_)
      first
      | ((with_reducible show regOk _ _ = true); kernel_rfl)
      | rfl
      | exact trivial
      | ((repeat' (first | exact trivial | refine And.intro ?_ ?_)); done)
      | decide
      | (intro r hr; simp only [List.mem_cons, List.not_mem_nil, or_false] at hr; first | (subst hr; rfl) | (rcases hr with rfl | rfl <;> rfl) | (rcases hr with rfl | rfl | rfl <;> rfl) | (rcases hr with rfl | rfl | rfl | rfl <;> rfl))
      | (refine And.intro ?_ ?_ <;> simp only [List.length_map, List.length_append, List.length_cons, List.length_nil] <;> omega))
    · exact ⟨by dsimp only; rw [IntWalk.i64_in _ (by omega)]; rfl⟩
    · exact ⟨filled_set (map_get hx)⟩
  · have hge : xs.length ≤ k := by have := of_decide_eq_false h; omega
    exact ⟨filled_all (by omega)⟩
theorem s_laws_eqImageS (xs : List (TImage)) (hs : smallT 1048576 (.lst 2 (xs.map TImage.tr))) : Sim.Spec Try.prog 144 [tvL 2 (xs.map TImage.tr), tvL 2 (xs.map TImage.tr)] (rB true) := by
  have hl := small_len hs
  have hlen : (xs.map TImage.tr).length = xs.length := by simp
  refine spec_of_W hΓ hmix Try.func144 rfl (by decide) rfl ?_
  repeat' (
    (conv => whnf)
    first
    | refine Or.inl ?_
    | refine And.intro (Obl.out (?_ : Obl _)) ?_
    | refine ifB_intro (fun h => ?_) (fun h => ?_)
    | refine Exists.intro _ (And.intro rfl ?_)
    | ((with_reducible show _ = _); rfl))
  all_goals try (
    (with_reducible refine Obl.mk ?_)
    first
    | ((with_reducible show regOk _ _ = true); kernel_rfl)
    | rfl
    | exact trivial
    | ((repeat' (first | exact trivial | refine And.intro ?_ ?_)); done)
    | decide
    | (intro r hr; simp only [List.mem_cons, List.not_mem_nil, or_false] at hr; first | (subst hr; rfl) | (rcases hr with rfl | rfl <;> rfl) | (rcases hr with rfl | rfl | rfl <;> rfl) | (rcases hr with rfl | rfl | rfl | rfl <;> rfl))
    | (refine And.intro ?_ ?_ <;> simp only [List.length_map, List.length_append, List.length_cons, List.length_nil] <;> omega))
  · simp at h
  conv => whnf
  refine ⟨{ k : Nat // k ≤ xs.length }, fun k => ⟨[(0, .r (.c (.t (.lst 2 (xs.map TImage.tr))))), (1, .r (.c (.t (.lst 2 (xs.map TImage.tr))))), (5, tI .i64 (k.1 : Int))], [], []⟩, fun k => xs.length - k.1, ⟨0, by omega⟩, ?_, ?_⟩
  · skip
    repeat' (
      (conv => whnf)
      first
      | refine Or.inl ?_
      | refine And.intro (Obl.out (?_ : Obl _)) ?_
      | refine ifB_intro (fun h => ?_) (fun h => ?_)
      | refine Exists.intro _ (And.intro rfl ?_)
      | ((with_reducible show _ = _); rfl))
    all_goals try (
      (with_reducible refine Obl.mk ?_)
      first
      | ((with_reducible show regOk _ _ = true); kernel_rfl)
      | rfl
      | exact trivial
      | ((repeat' (first | exact trivial | refine And.intro ?_ ?_)); done)
      | decide
      | (intro r hr; simp only [List.mem_cons, List.not_mem_nil, or_false] at hr; first | (subst hr; rfl) | (rcases hr with rfl | rfl <;> rfl) | (rcases hr with rfl | rfl | rfl <;> rfl) | (rcases hr with rfl | rfl | rfl | rfl <;> rfl))
      | (refine And.intro ?_ ?_ <;> simp only [List.length_map, List.length_append, List.length_cons, List.length_nil] <;> omega))
  intro ⟨k, hk⟩
  dsimp only
  repeat' (
    (conv => whnf)
    first
    | refine Or.inl ?_
    | refine And.intro (Obl.out (?_ : Obl _)) ?_
    | refine ifB_intro (fun h => ?_) (fun h => ?_)
    | refine Exists.intro _ (And.intro rfl ?_)
    | ((with_reducible show _ = _); rfl))
  all_goals try (
    (with_reducible refine Obl.mk ?_)
    first
    | ((with_reducible show regOk _ _ = true); kernel_rfl)
    | rfl
    | exact trivial
    | ((repeat' (first | exact trivial | refine And.intro ?_ ?_)); done)
    | decide
    | (intro r hr; simp only [List.mem_cons, List.not_mem_nil, or_false] at hr; first | (subst hr; rfl) | (rcases hr with rfl | rfl <;> rfl) | (rcases hr with rfl | rfl | rfl <;> rfl) | (rcases hr with rfl | rfl | rfl | rfl <;> rfl))
    | (refine And.intro ?_ ?_ <;> simp only [List.length_map, List.length_append, List.length_cons, List.length_nil] <;> omega))
  · have hlt : k < xs.length := by have := of_decide_eq_true h; omega
    obtain ⟨x, hx⟩ := get_of_lt hlt
    have hsr := smallRs_map hs (List.mem_of_getElem? hx)
    conv => whnf
    refine ⟨k, _, rfl, map_get hx, ?_⟩
    repeat' (
      (conv => whnf)
      first
      | refine Or.inl ?_
      | refine And.intro (Obl.out (?_ : Obl _)) ?_
      | refine ifB_intro (fun h => ?_) (fun h => ?_)
      | refine call_intro ((s_laws_eqImage x hsr)) (And.intro (And.intro rfl (And.intro rfl trivial)) (And.intro (And.intro rfl (And.intro rfl trivial)) trivial)) ?_
      | refine Exists.intro _ (And.intro rfl ?_)
      | ((with_reducible show _ = _); rfl))
    all_goals try (
      (with_reducible refine Obl.mk ?_)
      first
      | ((with_reducible show regOk _ _ = true); kernel_rfl)
      | rfl
      | exact trivial
      | ((repeat' (first | exact trivial | refine And.intro ?_ ?_)); done)
      | decide
      | (intro r hr; simp only [List.mem_cons, List.not_mem_nil, or_false] at hr; first | (subst hr; rfl) | (rcases hr with rfl | rfl <;> rfl) | (rcases hr with rfl | rfl | rfl <;> rfl) | (rcases hr with rfl | rfl | rfl | rfl <;> rfl))
      | (refine And.intro ?_ ?_ <;> simp only [List.length_map, List.length_append, List.length_cons, List.length_nil] <;> omega))
    conv => whnf
    refine ⟨k, _, rfl, map_get hx, ?_⟩
    repeat' (
      (conv => whnf)
      first
      | refine Or.inl ?_
      | refine And.intro (Obl.out (?_ : Obl _)) ?_
      | refine ifB_intro (fun h => ?_) (fun h => ?_)
      | refine call_intro ((s_laws_eqImage x hsr)) (And.intro (And.intro rfl (And.intro rfl trivial)) (And.intro (And.intro rfl (And.intro rfl trivial)) trivial)) ?_
      | refine Exists.intro _ (And.intro rfl ?_)
      | ((with_reducible show _ = _); rfl))
    all_goals try (
      (with_reducible refine Obl.mk ?_)
      first
      | ((with_reducible show regOk _ _ = true); kernel_rfl)
      | rfl
      | exact trivial
      | ((repeat' (first | exact trivial | refine And.intro ?_ ?_)); done)
      | decide
      | (intro r hr; simp only [List.mem_cons, List.not_mem_nil, or_false] at hr; first | (subst hr; rfl) | (rcases hr with rfl | rfl <;> rfl) | (rcases hr with rfl | rfl | rfl <;> rfl) | (rcases hr with rfl | rfl | rfl | rfl <;> rfl))
      | (refine And.intro ?_ ?_ <;> simp only [List.length_map, List.length_append, List.length_cons, List.length_nil] <;> omega))
    all_goals try (exfalso; simp at h; done)
    conv => whnf
    refine ⟨⟨k + 1, by omega⟩, ?_, by dsimp only; omega⟩
    repeat' (
      (conv => whnf)
      first
      | refine Or.inl ?_
      | refine And.intro (Obl.out (?_ : Obl _)) ?_
      | refine ifB_intro (fun h => ?_) (fun h => ?_)
      | refine Exists.intro _ (And.intro rfl ?_)
      | ((with_reducible show _ = _); rfl))
    all_goals try (
      (with_reducible refine Obl.mk ?_)
      first
      | ((with_reducible show regOk _ _ = true); kernel_rfl)
      | rfl
      | exact trivial
      | ((repeat' (first | exact trivial | refine And.intro ?_ ?_)); done)
      | decide
      | (intro r hr; simp only [List.mem_cons, List.not_mem_nil, or_false] at hr; first | (subst hr; rfl) | (rcases hr with rfl | rfl <;> rfl) | (rcases hr with rfl | rfl | rfl <;> rfl) | (rcases hr with rfl | rfl | rfl | rfl <;> rfl))
      | (refine And.intro ?_ ?_ <;> simp only [List.length_map, List.length_append, List.length_cons, List.length_nil] <;> omega))
    exact ⟨by dsimp only; rw [IntWalk.i64_in _ (by omega)]; rfl⟩
theorem s_laws_szImageS (xs : List (TImage)) (hw : xs.length ≤ maxLen ∧ ∀ y ∈ xs, y.wf) (left : Int) (hle0 : 0 ≤ left) (hle1 : left ≤ 1048576) : Sim.Spec Try.prog 140 [tvL 2 (xs.map TImage.tr), tvI left] (rI (szT (.lst 2 (xs.map TImage.tr)) left)) := by
  have hl2 : (xs.map TImage.tr).length ≤ 9223372036854775807 := by simpa [maxLen] using hw.1
  have hlen : (xs.map TImage.tr).length = xs.length := by simp
  rw [szT]
  refine spec_of_W hΓ hmix Try.func140 rfl (by decide) rfl ?_
  repeat' (
    (conv => whnf)
    first
    | refine Or.inl ?_
    | refine And.intro (Obl.out (?_ : Obl _)) ?_
    | refine ifB_intro (fun h => ?_) (fun h => ?_)
    | refine Exists.intro _ (And.intro rfl ?_)
    | ((with_reducible show _ = _); rfl))
  all_goals try (
    (with_reducible refine Obl.mk ?_)
    first
    | ((with_reducible show regOk _ _ = true); kernel_rfl)
    | rfl
    | exact trivial
    | ((repeat' (first | exact trivial | refine And.intro ?_ ?_)); done)
    | decide
    | (intro r hr; simp only [List.mem_cons, List.not_mem_nil, or_false] at hr; first | (subst hr; rfl) | (rcases hr with rfl | rfl <;> rfl) | (rcases hr with rfl | rfl | rfl <;> rfl) | (rcases hr with rfl | rfl | rfl | rfl <;> rfl))
    | (refine And.intro ?_ ?_ <;> simp only [List.length_map, List.length_append, List.length_cons, List.length_nil] <;> omega))
  · refine ⟨congrArg (Tr.int _) ?_⟩
    have h2 := of_decide_eq_true h
    rw [IntWalk.i64_in _ (by omega)] at h2
    rw [if_pos h2]
  have h2 := of_decide_eq_false h
  rw [IntWalk.i64_in _ (by omega)] at h2 ⊢
  rw [if_neg h2]
  conv => whnf
  refine ⟨{ q : Nat × Int // q.1 ≤ xs.length ∧ 0 ≤ q.2 ∧ q.2 ≤ 1048576 ∧ szRs ((xs.drop q.1).map TImage.tr) q.2 = szRs (xs.map TImage.tr) (left - (xs.map TImage.tr).length) }, fun q => ⟨[(0, .r (.c (.t (.lst 2 (xs.map TImage.tr))))), (1, tI .i64 q.1.2), (5, tI .i64 (q.1.1 : Int))], [], []⟩, fun q => xs.length - q.1.1, ⟨(0, left - (xs.map TImage.tr).length), by simp, by dsimp only; omega, by dsimp only; omega, by simp⟩, ?_, ?_⟩
  · skip
    repeat' (
      (conv => whnf)
      first
      | refine Or.inl ?_
      | refine And.intro (Obl.out (?_ : Obl _)) ?_
      | refine ifB_intro (fun h => ?_) (fun h => ?_)
      | refine Exists.intro _ (And.intro rfl ?_)
      | ((with_reducible show _ = _); rfl))
    all_goals try (
      (with_reducible refine Obl.mk ?_)
      first
      | ((with_reducible show regOk _ _ = true); kernel_rfl)
      | rfl
      | exact trivial
      | ((repeat' (first | exact trivial | refine And.intro ?_ ?_)); done)
      | decide
      | (intro r hr; simp only [List.mem_cons, List.not_mem_nil, or_false] at hr; first | (subst hr; rfl) | (rcases hr with rfl | rfl <;> rfl) | (rcases hr with rfl | rfl | rfl <;> rfl) | (rcases hr with rfl | rfl | rfl | rfl <;> rfl))
      | (refine And.intro ?_ ?_ <;> simp only [List.length_map, List.length_append, List.length_cons, List.length_nil] <;> omega))
  intro ⟨⟨k, lk⟩, hk, h0, h1, hsz⟩
  dsimp only at hk h0 h1 hsz ⊢
  repeat' (
    (conv => whnf)
    first
    | refine Or.inl ?_
    | refine And.intro (Obl.out (?_ : Obl _)) ?_
    | refine ifB_intro (fun h => ?_) (fun h => ?_)
    | refine Exists.intro _ (And.intro rfl ?_)
    | ((with_reducible show _ = _); rfl))
  all_goals try (
    (with_reducible refine Obl.mk ?_)
    first
    | ((with_reducible show regOk _ _ = true); kernel_rfl)
    | rfl
    | exact trivial
    | ((repeat' (first | exact trivial | refine And.intro ?_ ?_)); done)
    | decide
    | (intro r hr; simp only [List.mem_cons, List.not_mem_nil, or_false] at hr; first | (subst hr; rfl) | (rcases hr with rfl | rfl <;> rfl) | (rcases hr with rfl | rfl | rfl <;> rfl) | (rcases hr with rfl | rfl | rfl | rfl <;> rfl))
    | (refine And.intro ?_ ?_ <;> simp only [List.length_map, List.length_append, List.length_cons, List.length_nil] <;> omega))
  · have hlt : k < xs.length := by have := of_decide_eq_true h; omega
    obtain ⟨x, hx⟩ := get_of_lt hlt
    have hxw := hw.2 x (List.mem_of_getElem? hx)
    rw [drop_at hx, List.map_cons, szRs] at hsz
    conv => whnf
    refine ⟨k, _, rfl, map_get hx, ?_⟩
    repeat' (
      (conv => whnf)
      first
      | refine Or.inl ?_
      | refine And.intro (Obl.out (?_ : Obl _)) ?_
      | refine ifB_intro (fun h => ?_) (fun h => ?_)
      | refine call_intro ((s_laws_szImage x hxw lk h0 h1)) (And.intro (And.intro rfl (And.intro rfl trivial)) (And.intro rfl trivial)) ?_
      | refine Exists.intro _ (And.intro rfl ?_)
      | ((with_reducible show _ = _); rfl))
    all_goals try (
      (with_reducible refine Obl.mk ?_)
      first
      | ((with_reducible show regOk _ _ = true); kernel_rfl)
      | rfl
      | exact trivial
      | ((repeat' (first | exact trivial | refine And.intro ?_ ?_)); done)
      | decide
      | (intro r hr; simp only [List.mem_cons, List.not_mem_nil, or_false] at hr; first | (subst hr; rfl) | (rcases hr with rfl | rfl <;> rfl) | (rcases hr with rfl | rfl | rfl <;> rfl) | (rcases hr with rfl | rfl | rfl | rfl <;> rfl))
      | (refine And.intro ?_ ?_ <;> simp only [List.length_map, List.length_append, List.length_cons, List.length_nil] <;> omega))
    · refine ⟨congrArg (Tr.int _) ?_⟩
      rw [← hsz, if_pos (of_decide_eq_true h)]
    have h3 := of_decide_eq_false h
    rw [if_neg h3] at hsz
    have hsm := szR_small (L := 1048576) _ _ (Int.not_lt.1 h3) h1
    conv => whnf
    refine ⟨⟨(k + 1, _), by dsimp only; omega, by dsimp only; exact Int.not_lt.1 h3, by dsimp only; exact Int.le_trans hsm.2 h1, hsz⟩, ?_, by dsimp only; omega⟩
    repeat' (
      (conv => whnf)
      first
      | refine Or.inl ?_
      | refine And.intro (Obl.out (?_ : Obl _)) ?_
      | refine ifB_intro (fun h => ?_) (fun h => ?_)
      | refine Exists.intro _ (And.intro rfl ?_)
      | ((with_reducible show _ = _); rfl))
    all_goals try (
      (with_reducible refine Obl.mk ?_)
      first
      | ((with_reducible show regOk _ _ = true); kernel_rfl)
      | rfl
      | exact trivial
      | ((repeat' (first | exact trivial | refine And.intro ?_ ?_)); done)
      | decide
      | (intro r hr; simp only [List.mem_cons, List.not_mem_nil, or_false] at hr; first | (subst hr; rfl) | (rcases hr with rfl | rfl <;> rfl) | (rcases hr with rfl | rfl | rfl <;> rfl) | (rcases hr with rfl | rfl | rfl | rfl <;> rfl))
      | (refine And.intro ?_ ?_ <;> simp only [List.length_map, List.length_append, List.length_cons, List.length_nil] <;> omega))
    exact ⟨by dsimp only; rw [IntWalk.i64_in _ (by omega)]; rfl⟩
  · have hge : xs.length ≤ k := by have := of_decide_eq_false h; omega
    rw [List.drop_eq_nil_of_le hge, List.map_nil, szRs] at hsz
    exact ⟨congrArg (Tr.int _) hsz⟩
theorem s_laws_toSpace (x : TSpace) (hs : smallR 1048576 x.tr) : Sim.Spec Try.prog 68 [.agg x.tr] (.r (.agg (x.tr.map resC))) := by
  simp only [TSpace.tr, smallR] at hs
  refine spec_of_W hΓ hmix Try.func68 rfl (by decide) rfl ?_
  repeat' (
    (conv => whnf)
    first
    | refine Or.inl ?_
    | refine And.intro (Obl.out (?_ : Obl _)) ?_
    | refine ifB_intro (fun h => ?_) (fun h => ?_)
    | refine call_intro ((s_laws_toImageS x.fImages hs.1)) (And.intro rfl trivial) ?_
    | refine call_intro ((s_laws_toIntS x.fBases (small_nat hs.2.1))) (And.intro rfl trivial) ?_
    | refine call_intro ((s_laws_toIntS x.fEntries (small_nat hs.2.2.1))) (And.intro rfl trivial) ?_
    | refine Exists.intro _ (And.intro rfl ?_)
    | ((with_reducible show _ = _); rfl))
  all_goals try (
    (with_reducible refine Obl.mk ?_)
    first
    | ((with_reducible show regOk _ _ = true); kernel_rfl)
    | rfl
    | exact trivial
    | ((repeat' (first | exact trivial | refine And.intro ?_ ?_)); done)
    | decide
    | (intro r hr; simp only [List.mem_cons, List.not_mem_nil, or_false] at hr; first | (subst hr; rfl) | (rcases hr with rfl | rfl <;> rfl) | (rcases hr with rfl | rfl | rfl <;> rfl) | (rcases hr with rfl | rfl | rfl | rfl <;> rfl))
    | (refine And.intro ?_ ?_ <;> simp only [List.length_map, List.length_append, List.length_cons, List.length_nil] <;> omega))
theorem s_laws_eqSpace (x : TSpace) (hs : smallR 1048576 x.tr) : Sim.Spec Try.prog 70 [.agg x.tr, .agg x.tr] (rB true) := by
  simp only [TSpace.tr, smallR] at hs
  refine spec_of_W hΓ hmix Try.func70 rfl (by decide) rfl ?_
  repeat' (
    (conv => whnf)
    first
    | refine Or.inl ?_
    | refine And.intro (Obl.out (?_ : Obl _)) ?_
    | refine ifB_intro (fun h => ?_) (fun h => ?_)
    | refine call_intro ((s_laws_eqImageS x.fImages hs.1)) (And.intro rfl (And.intro rfl trivial)) ?_
    | refine call_intro ((s_laws_eqIntS x.fBases x.fBases (small_nat hs.2.1))) (And.intro rfl (And.intro rfl trivial)) ?_
    | refine call_intro ((s_laws_eqIntS x.fEntries x.fEntries (small_nat hs.2.2.1))) (And.intro rfl (And.intro rfl trivial)) ?_
    | refine Exists.intro _ (And.intro rfl ?_)
    | ((with_reducible show _ = _); rfl))
  all_goals try (
    (with_reducible refine Obl.mk ?_)
    first
    | ((with_reducible show regOk _ _ = true); kernel_rfl)
    | rfl
    | exact trivial
    | ((repeat' (first | exact trivial | refine And.intro ?_ ?_)); done)
    | decide
    | (intro r hr; simp only [List.mem_cons, List.not_mem_nil, or_false] at hr; first | (subst hr; rfl) | (rcases hr with rfl | rfl <;> rfl) | (rcases hr with rfl | rfl | rfl <;> rfl) | (rcases hr with rfl | rfl | rfl | rfl <;> rfl))
    | (refine And.intro ?_ ?_ <;> simp only [List.length_map, List.length_append, List.length_cons, List.length_nil] <;> omega))
  all_goals simp at *
theorem s_laws_szSpace (x : TSpace) (hw : x.wf) (left : Int) (hle0 : 0 ≤ left) (hle1 : left ≤ 1048576) : Sim.Spec Try.prog 66 [.agg x.tr, tvI left] (rI (szR x.tr left)) := by
  simp only [TSpace.wf, maxLen] at hw
  obtain ⟨Z, hz0⟩ : ∃ Z, Z = szR x.tr left := ⟨_, rfl⟩
  have hz := hz0
  rw [TSpace.tr] at hz
  refine spec_of_W hΓ hmix Try.func66 rfl (by decide) rfl ?_
  repeat' (
    (conv => whnf)
    first
    | refine Or.inl ?_
    | refine And.intro (Obl.out (?_ : Obl _)) ?_
    | refine ifB_intro (fun h => ?_) (fun h => ?_)
    | refine Exists.intro _ (And.intro rfl ?_)
    | ((with_reducible show _ = _); rfl))
  all_goals try (
    (with_reducible refine Obl.mk ?_)
    first
    | ((with_reducible show regOk _ _ = true); kernel_rfl)
    | rfl
    | exact trivial
    | ((repeat' (first | exact trivial | refine And.intro ?_ ?_)); done)
    | decide
    | (intro r hr; simp only [List.mem_cons, List.not_mem_nil, or_false] at hr; first | (subst hr; rfl) | (rcases hr with rfl | rfl <;> rfl) | (rcases hr with rfl | rfl | rfl <;> rfl) | (rcases hr with rfl | rfl | rfl | rfl <;> rfl))
    | (refine And.intro ?_ ?_ <;> simp only [List.length_map, List.length_append, List.length_cons, List.length_nil] <;> omega))
  repeat' (
    (conv => whnf)
    first
    | refine Or.inl ?_
    | refine And.intro (Obl.out (?_ : Obl _)) ?_
    | refine ifB_intro (fun h => ?_) (fun h => ?_)
    | refine call_intro ((s_laws_szImageS x.fImages (by simpa [maxLen] using hw.1) left (by omega) (by omega))) (And.intro rfl (And.intro rfl trivial)) ?_
    | refine Exists.intro _ (And.intro rfl ?_)
    | ((with_reducible show _ = _); rfl))
  all_goals try (
    (with_reducible refine Obl.mk ?_)
    first
    | ((with_reducible show regOk _ _ = true); kernel_rfl)
    | rfl
    | exact trivial
    | ((repeat' (first | exact trivial | refine And.intro ?_ ?_)); done)
    | decide
    | (intro r hr; simp only [List.mem_cons, List.not_mem_nil, or_false] at hr; first | (subst hr; rfl) | (rcases hr with rfl | rfl <;> rfl) | (rcases hr with rfl | rfl | rfl <;> rfl) | (rcases hr with rfl | rfl | rfl | rfl <;> rfl))
    | (refine And.intro ?_ ?_ <;> simp only [List.length_map, List.length_append, List.length_cons, List.length_nil] <;> omega))
  · exact ⟨congrArg (Tr.int _) (hz0.symm.trans (hz.trans (szR_neg (of_decide_eq_true h)))).symm⟩
  have g1 := of_decide_eq_false h
  clear h
  rw [szR_pos g1] at hz
  have b1 := (szT_small (L := 1048576) _ _ (Int.not_lt.1 g1) (by omega)).2
  repeat' (
    (conv => whnf)
    first
    | refine Or.inl ?_
    | refine And.intro (Obl.out (?_ : Obl _)) ?_
    | refine ifB_intro (fun h => ?_) (fun h => ?_)
    | refine Exists.intro _ (And.intro rfl ?_)
    | ((with_reducible show _ = _); rfl))
  all_goals try (
    (with_reducible refine Obl.mk ?_)
    first
    | ((with_reducible show regOk _ _ = true); kernel_rfl)
    | rfl
    | exact trivial
    | ((repeat' (first | exact trivial | refine And.intro ?_ ?_)); done)
    | decide
    | (intro r hr; simp only [List.mem_cons, List.not_mem_nil, or_false] at hr; first | (subst hr; rfl) | (rcases hr with rfl | rfl <;> rfl) | (rcases hr with rfl | rfl | rfl <;> rfl) | (rcases hr with rfl | rfl | rfl | rfl <;> rfl))
    | (refine And.intro ?_ ?_ <;> simp only [List.length_map, List.length_append, List.length_cons, List.length_nil] <;> omega))
  repeat' (
    (conv => whnf)
    first
    | refine Or.inl ?_
    | refine And.intro (Obl.out (?_ : Obl _)) ?_
    | refine ifB_intro (fun h => ?_) (fun h => ?_)
    | refine call_intro ((s_laws_szIntS x.fBases (by simpa [maxLen] using hw.2.1.1) (szT (.lst 2 (x.fImages.map TImage.tr)) left) (by omega) (by omega))) (And.intro rfl (And.intro rfl trivial)) ?_
    | refine Exists.intro _ (And.intro rfl ?_)
    | ((with_reducible show _ = _); rfl))
  all_goals try (
    (with_reducible refine Obl.mk ?_)
    first
    | ((with_reducible show regOk _ _ = true); kernel_rfl)
    | rfl
    | exact trivial
    | ((repeat' (first | exact trivial | refine And.intro ?_ ?_)); done)
    | decide
    | (intro r hr; simp only [List.mem_cons, List.not_mem_nil, or_false] at hr; first | (subst hr; rfl) | (rcases hr with rfl | rfl <;> rfl) | (rcases hr with rfl | rfl | rfl <;> rfl) | (rcases hr with rfl | rfl | rfl | rfl <;> rfl))
    | (refine And.intro ?_ ?_ <;> simp only [List.length_map, List.length_append, List.length_cons, List.length_nil] <;> omega))
  · exact ⟨congrArg (Tr.int _) (hz0.symm.trans (hz.trans (szR_neg (of_decide_eq_true h)))).symm⟩
  have g2 := of_decide_eq_false h
  clear h
  rw [szR_pos g2] at hz
  have b2 := (szT_small (L := 1048576) _ _ (Int.not_lt.1 g2) (by omega)).2
  repeat' (
    (conv => whnf)
    first
    | refine Or.inl ?_
    | refine And.intro (Obl.out (?_ : Obl _)) ?_
    | refine ifB_intro (fun h => ?_) (fun h => ?_)
    | refine Exists.intro _ (And.intro rfl ?_)
    | ((with_reducible show _ = _); rfl))
  all_goals try (
    (with_reducible refine Obl.mk ?_)
    first
    | ((with_reducible show regOk _ _ = true); kernel_rfl)
    | rfl
    | exact trivial
    | ((repeat' (first | exact trivial | refine And.intro ?_ ?_)); done)
    | decide
    | (intro r hr; simp only [List.mem_cons, List.not_mem_nil, or_false] at hr; first | (subst hr; rfl) | (rcases hr with rfl | rfl <;> rfl) | (rcases hr with rfl | rfl | rfl <;> rfl) | (rcases hr with rfl | rfl | rfl | rfl <;> rfl))
    | (refine And.intro ?_ ?_ <;> simp only [List.length_map, List.length_append, List.length_cons, List.length_nil] <;> omega))
  repeat' (
    (conv => whnf)
    first
    | refine Or.inl ?_
    | refine And.intro (Obl.out (?_ : Obl _)) ?_
    | refine ifB_intro (fun h => ?_) (fun h => ?_)
    | refine call_intro ((s_laws_szIntS x.fEntries (by simpa [maxLen] using hw.2.2.1) (szT (.lst 1 (x.fBases.map intRow)) (szT (.lst 2 (x.fImages.map TImage.tr)) left)) (by omega) (by omega))) (And.intro rfl (And.intro rfl trivial)) ?_
    | refine Exists.intro _ (And.intro rfl ?_)
    | ((with_reducible show _ = _); rfl))
  all_goals try (
    (with_reducible refine Obl.mk ?_)
    first
    | ((with_reducible show regOk _ _ = true); kernel_rfl)
    | rfl
    | exact trivial
    | ((repeat' (first | exact trivial | refine And.intro ?_ ?_)); done)
    | decide
    | (intro r hr; simp only [List.mem_cons, List.not_mem_nil, or_false] at hr; first | (subst hr; rfl) | (rcases hr with rfl | rfl <;> rfl) | (rcases hr with rfl | rfl | rfl <;> rfl) | (rcases hr with rfl | rfl | rfl | rfl <;> rfl))
    | (refine And.intro ?_ ?_ <;> simp only [List.length_map, List.length_append, List.length_cons, List.length_nil] <;> omega))
  · exact ⟨congrArg (Tr.int _) (hz0.symm.trans (hz.trans (szR_neg (of_decide_eq_true h)))).symm⟩
  have g3 := of_decide_eq_false h
  clear h
  rw [szR_pos g3] at hz
  have b3 := (szT_small (L := 1048576) _ _ (Int.not_lt.1 g3) (by omega)).2
  all_goals exact ⟨congrArg (Tr.int _) ((hz0.symm.trans (hz.trans (szR_nil _))).symm)⟩
theorem s_laws_toMachine (x : TMachine) (hs : smallR 1048576 x.tr) : Sim.Spec Try.prog 32 [.agg x.tr] (.r (.agg (x.tr.map resC))) := by
  simp only [TMachine.tr, smallR] at hs
  refine spec_of_W hΓ hmix Try.func32 rfl (by decide) rfl ?_
  repeat' (
    (conv => whnf)
    first
    | refine Or.inl ?_
    | refine And.intro (Obl.out (?_ : Obl _)) ?_
    | refine ifB_intro (fun h => ?_) (fun h => ?_)
    | refine call_intro ((s_laws_toIntS x.fStack (small_nat hs.2.2.2.1))) (And.intro rfl trivial) ?_
    | refine call_intro ((s_laws_toIntS x.fOut (small_nat hs.2.2.2.2.1))) (And.intro rfl trivial) ?_
    | refine Exists.intro _ (And.intro rfl ?_)
    | ((with_reducible show _ = _); rfl))
  all_goals try (
    (with_reducible refine Obl.mk ?_)
    first
    | ((with_reducible show regOk _ _ = true); kernel_rfl)
    | rfl
    | exact trivial
    | ((repeat' (first | exact trivial | refine And.intro ?_ ?_)); done)
    | decide
    | (intro r hr; simp only [List.mem_cons, List.not_mem_nil, or_false] at hr; first | (subst hr; rfl) | (rcases hr with rfl | rfl <;> rfl) | (rcases hr with rfl | rfl | rfl <;> rfl) | (rcases hr with rfl | rfl | rfl | rfl <;> rfl))
    | (refine And.intro ?_ ?_ <;> simp only [List.length_map, List.length_append, List.length_cons, List.length_nil] <;> omega))
theorem s_laws_eqMachine (x : TMachine) (hs : smallR 1048576 x.tr) : Sim.Spec Try.prog 35 [.agg x.tr, .agg x.tr] (rB true) := by
  simp only [TMachine.tr, smallR] at hs
  refine spec_of_W hΓ hmix Try.func35 rfl (by decide) rfl ?_
  repeat' (
    (conv => whnf)
    first
    | refine Or.inl ?_
    | refine And.intro (Obl.out (?_ : Obl _)) ?_
    | refine ifB_intro (fun h => ?_) (fun h => ?_)
    | refine call_intro ((s_laws_eqIntS x.fStack x.fStack (small_nat hs.2.2.2.1))) (And.intro rfl (And.intro rfl trivial)) ?_
    | refine call_intro ((s_laws_eqIntS x.fOut x.fOut (small_nat hs.2.2.2.2.1))) (And.intro rfl (And.intro rfl trivial)) ?_
    | refine Exists.intro _ (And.intro rfl ?_)
    | ((with_reducible show _ = _); rfl))
  all_goals try (
    (with_reducible refine Obl.mk ?_)
    first
    | ((with_reducible show regOk _ _ = true); kernel_rfl)
    | rfl
    | exact trivial
    | ((repeat' (first | exact trivial | refine And.intro ?_ ?_)); done)
    | decide
    | (intro r hr; simp only [List.mem_cons, List.not_mem_nil, or_false] at hr; first | (subst hr; rfl) | (rcases hr with rfl | rfl <;> rfl) | (rcases hr with rfl | rfl | rfl <;> rfl) | (rcases hr with rfl | rfl | rfl | rfl <;> rfl))
    | (refine And.intro ?_ ?_ <;> simp only [List.length_map, List.length_append, List.length_cons, List.length_nil] <;> omega))
  all_goals simp at *
theorem s_laws_szMachine (x : TMachine) (hw : x.wf) (left : Int) (hle0 : 0 ≤ left) (hle1 : left ≤ 1048576) : Sim.Spec Try.prog 30 [.agg x.tr, tvI left] (rI (szR x.tr left)) := by
  simp only [TMachine.wf, maxLen] at hw
  obtain ⟨Z, hz0⟩ : ∃ Z, Z = szR x.tr left := ⟨_, rfl⟩
  have hz := hz0
  rw [TMachine.tr] at hz
  refine spec_of_W hΓ hmix Try.func30 rfl (by decide) rfl ?_
  rw [szR_int (by omega)] at hz
  rw [szR_int (by omega)] at hz
  rw [szR_int (by omega)] at hz
  repeat' (
    (conv => whnf)
    first
    | refine Or.inl ?_
    | refine And.intro (Obl.out (?_ : Obl _)) ?_
    | refine ifB_intro (fun h => ?_) (fun h => ?_)
    | refine Exists.intro _ (And.intro rfl ?_)
    | ((with_reducible show _ = _); rfl))
  all_goals try (
    (with_reducible refine Obl.mk ?_)
    first
    | ((with_reducible show regOk _ _ = true); kernel_rfl)
    | rfl
    | exact trivial
    | ((repeat' (first | exact trivial | refine And.intro ?_ ?_)); done)
    | decide
    | (intro r hr; simp only [List.mem_cons, List.not_mem_nil, or_false] at hr; first | (subst hr; rfl) | (rcases hr with rfl | rfl <;> rfl) | (rcases hr with rfl | rfl | rfl <;> rfl) | (rcases hr with rfl | rfl | rfl | rfl <;> rfl))
    | (refine And.intro ?_ ?_ <;> simp only [List.length_map, List.length_append, List.length_cons, List.length_nil] <;> omega))
  repeat' (
    (conv => whnf)
    first
    | refine Or.inl ?_
    | refine And.intro (Obl.out (?_ : Obl _)) ?_
    | refine ifB_intro (fun h => ?_) (fun h => ?_)
    | refine call_intro ((s_laws_szIntS x.fStack (by simpa [maxLen] using hw.2.2.2.1.1) left (by omega) (by omega))) (And.intro rfl (And.intro rfl trivial)) ?_
    | refine Exists.intro _ (And.intro rfl ?_)
    | ((with_reducible show _ = _); rfl))
  all_goals try (
    (with_reducible refine Obl.mk ?_)
    first
    | ((with_reducible show regOk _ _ = true); kernel_rfl)
    | rfl
    | exact trivial
    | ((repeat' (first | exact trivial | refine And.intro ?_ ?_)); done)
    | decide
    | (intro r hr; simp only [List.mem_cons, List.not_mem_nil, or_false] at hr; first | (subst hr; rfl) | (rcases hr with rfl | rfl <;> rfl) | (rcases hr with rfl | rfl | rfl <;> rfl) | (rcases hr with rfl | rfl | rfl | rfl <;> rfl))
    | (refine And.intro ?_ ?_ <;> simp only [List.length_map, List.length_append, List.length_cons, List.length_nil] <;> omega))
  · exact ⟨congrArg (Tr.int _) (hz0.symm.trans (hz.trans (szR_neg (of_decide_eq_true h)))).symm⟩
  have g1 := of_decide_eq_false h
  clear h
  rw [szR_pos g1] at hz
  have b1 := (szT_small (L := 1048576) _ _ (Int.not_lt.1 g1) (by omega)).2
  repeat' (
    (conv => whnf)
    first
    | refine Or.inl ?_
    | refine And.intro (Obl.out (?_ : Obl _)) ?_
    | refine ifB_intro (fun h => ?_) (fun h => ?_)
    | refine Exists.intro _ (And.intro rfl ?_)
    | ((with_reducible show _ = _); rfl))
  all_goals try (
    (with_reducible refine Obl.mk ?_)
    first
    | ((with_reducible show regOk _ _ = true); kernel_rfl)
    | rfl
    | exact trivial
    | ((repeat' (first | exact trivial | refine And.intro ?_ ?_)); done)
    | decide
    | (intro r hr; simp only [List.mem_cons, List.not_mem_nil, or_false] at hr; first | (subst hr; rfl) | (rcases hr with rfl | rfl <;> rfl) | (rcases hr with rfl | rfl | rfl <;> rfl) | (rcases hr with rfl | rfl | rfl | rfl <;> rfl))
    | (refine And.intro ?_ ?_ <;> simp only [List.length_map, List.length_append, List.length_cons, List.length_nil] <;> omega))
  repeat' (
    (conv => whnf)
    first
    | refine Or.inl ?_
    | refine And.intro (Obl.out (?_ : Obl _)) ?_
    | refine ifB_intro (fun h => ?_) (fun h => ?_)
    | refine call_intro ((s_laws_szIntS x.fOut (by simpa [maxLen] using hw.2.2.2.2.1.1) (szT (.lst 1 (x.fStack.map intRow)) left) (by omega) (by omega))) (And.intro rfl (And.intro rfl trivial)) ?_
    | refine Exists.intro _ (And.intro rfl ?_)
    | ((with_reducible show _ = _); rfl))
  all_goals try (
    (with_reducible refine Obl.mk ?_)
    first
    | ((with_reducible show regOk _ _ = true); kernel_rfl)
    | rfl
    | exact trivial
    | ((repeat' (first | exact trivial | refine And.intro ?_ ?_)); done)
    | decide
    | (intro r hr; simp only [List.mem_cons, List.not_mem_nil, or_false] at hr; first | (subst hr; rfl) | (rcases hr with rfl | rfl <;> rfl) | (rcases hr with rfl | rfl | rfl <;> rfl) | (rcases hr with rfl | rfl | rfl | rfl <;> rfl))
    | (refine And.intro ?_ ?_ <;> simp only [List.length_map, List.length_append, List.length_cons, List.length_nil] <;> omega))
  · exact ⟨congrArg (Tr.int _) (hz0.symm.trans (hz.trans (szR_neg (of_decide_eq_true h)))).symm⟩
  have g2 := of_decide_eq_false h
  clear h
  rw [szR_pos g2] at hz
  have b2 := (szT_small (L := 1048576) _ _ (Int.not_lt.1 g2) (by omega)).2
  rw [szR_int (by omega)] at hz
  rw [szR_int (by omega)] at hz
  all_goals exact ⟨congrArg (Tr.int _) ((hz0.symm.trans (hz.trans (szR_nil _))).symm)⟩
theorem s_laws_toPlace (x : TPlace) (hs : smallR 1048576 x.tr) : Sim.Spec Try.prog 127 [.agg x.tr] (.r (.agg (x.tr.map resC))) := by
  simp only [TPlace.tr, smallR] at hs
  refine spec_of_W hΓ hmix Try.func127 rfl (by decide) rfl ?_
  repeat' (
    (conv => whnf)
    first
    | refine Or.inl ?_
    | refine And.intro (Obl.out (?_ : Obl _)) ?_
    | refine ifB_intro (fun h => ?_) (fun h => ?_)
    | refine call_intro ((s_laws_toItem x.fItem (by rw [TItem.tr]; simp only [smallR]; exact ⟨hs.2.1, hs.2.2.1, hs.2.2.2.1, hs.2.2.2.2.1, hs.2.2.2.2.2.1, hs.2.2.2.2.2.2.1, hs.2.2.2.2.2.2.2.1, trivial⟩))) (And.intro (And.intro rfl (And.intro rfl (And.intro rfl (And.intro rfl (And.intro rfl (And.intro rfl (And.intro rfl trivial))))))) trivial) ?_
    | refine Exists.intro _ (And.intro rfl ?_)
    | ((with_reducible show _ = _); rfl))
  all_goals try (
    (with_reducible refine Obl.mk ?_)
    first
    | ((with_reducible show regOk _ _ = true); kernel_rfl)
    | rfl
    | exact trivial
    | ((repeat' (first | exact trivial | refine And.intro ?_ ?_)); done)
    | decide
    | (intro r hr; simp only [List.mem_cons, List.not_mem_nil, or_false] at hr; first | (subst hr; rfl) | (rcases hr with rfl | rfl <;> rfl) | (rcases hr with rfl | rfl | rfl <;> rfl) | (rcases hr with rfl | rfl | rfl | rfl <;> rfl))
    | (refine And.intro ?_ ?_ <;> simp only [List.length_map, List.length_append, List.length_cons, List.length_nil] <;> omega))
theorem s_laws_eqPlace (x : TPlace) (hs : smallR 1048576 x.tr) : Sim.Spec Try.prog 129 [.agg x.tr, .agg x.tr] (rB true) := by
  simp only [TPlace.tr, smallR] at hs
  refine spec_of_W hΓ hmix Try.func129 rfl (by decide) rfl ?_
  repeat' (
    (conv => whnf)
    first
    | refine Or.inl ?_
    | refine And.intro (Obl.out (?_ : Obl _)) ?_
    | refine ifB_intro (fun h => ?_) (fun h => ?_)
    | refine call_intro ((s_laws_eqItem x.fItem (by rw [TItem.tr]; simp only [smallR]; exact ⟨hs.2.1, hs.2.2.1, hs.2.2.2.1, hs.2.2.2.2.1, hs.2.2.2.2.2.1, hs.2.2.2.2.2.2.1, hs.2.2.2.2.2.2.2.1, trivial⟩))) (And.intro (And.intro rfl (And.intro rfl (And.intro rfl (And.intro rfl (And.intro rfl (And.intro rfl (And.intro rfl trivial))))))) (And.intro (And.intro rfl (And.intro rfl (And.intro rfl (And.intro rfl (And.intro rfl (And.intro rfl (And.intro rfl trivial))))))) trivial)) ?_
    | refine Exists.intro _ (And.intro rfl ?_)
    | ((with_reducible show _ = _); rfl))
  all_goals try (
    (with_reducible refine Obl.mk ?_)
    first
    | ((with_reducible show regOk _ _ = true); kernel_rfl)
    | rfl
    | exact trivial
    | ((repeat' (first | exact trivial | refine And.intro ?_ ?_)); done)
    | decide
    | (intro r hr; simp only [List.mem_cons, List.not_mem_nil, or_false] at hr; first | (subst hr; rfl) | (rcases hr with rfl | rfl <;> rfl) | (rcases hr with rfl | rfl | rfl <;> rfl) | (rcases hr with rfl | rfl | rfl | rfl <;> rfl))
    | (refine And.intro ?_ ?_ <;> simp only [List.length_map, List.length_append, List.length_cons, List.length_nil] <;> omega))
  all_goals simp at *
theorem s_laws_szPlace (x : TPlace) (hw : x.wf) (left : Int) (hle0 : 0 ≤ left) (hle1 : left ≤ 1048576) : Sim.Spec Try.prog 126 [.agg x.tr, tvI left] (rI (szR x.tr left)) := by
  simp only [TPlace.wf, maxLen] at hw
  obtain ⟨Z, hz0⟩ : ∃ Z, Z = szR x.tr left := ⟨_, rfl⟩
  have hz := hz0
  rw [TPlace.tr] at hz
  refine spec_of_W hΓ hmix Try.func126 rfl (by decide) rfl ?_
  rw [szR_int (by omega)] at hz
  have happ1 := szR_append x.fItem.tr [] left (by omega)
  rw [show x.fItem.tr ++ [] = [.int .i64 x.fItem.fOp.fCode, .int .i64 x.fItem.fOp.fArg, .int .i64 x.fItem.fLine, .bool x.fItem.fStart, .lst 1 (x.fItem.fChain.map intRow), .int .i64 x.fItem.fDepth, .bool x.fItem.fEntered] from rfl] at happ1
  rw [happ1] at hz
  repeat' (
    (conv => whnf)
    first
    | refine Or.inl ?_
    | refine And.intro (Obl.out (?_ : Obl _)) ?_
    | refine ifB_intro (fun h => ?_) (fun h => ?_)
    | refine call_intro ((s_laws_szItem x.fItem hw.2 left (by omega) (by omega))) (And.intro (And.intro rfl (And.intro rfl (And.intro rfl (And.intro rfl (And.intro rfl (And.intro rfl (And.intro rfl trivial))))))) (And.intro rfl trivial)) ?_
    | refine Exists.intro _ (And.intro rfl ?_)
    | ((with_reducible show _ = _); rfl))
  all_goals try (
    (with_reducible refine Obl.mk ?_)
    first
    | ((with_reducible show regOk _ _ = true); kernel_rfl)
    | rfl
    | exact trivial
    | ((repeat' (first | exact trivial | refine And.intro ?_ ?_)); done)
    | decide
    | (intro r hr; simp only [List.mem_cons, List.not_mem_nil, or_false] at hr; first | (subst hr; rfl) | (rcases hr with rfl | rfl <;> rfl) | (rcases hr with rfl | rfl | rfl <;> rfl) | (rcases hr with rfl | rfl | rfl | rfl <;> rfl))
    | (refine And.intro ?_ ?_ <;> simp only [List.length_map, List.length_append, List.length_cons, List.length_nil] <;> omega))
  · rw [if_pos (of_decide_eq_true h)] at hz
    exact ⟨congrArg (Tr.int _) (hz0.symm.trans hz).symm⟩
  have g1 := of_decide_eq_false h
  clear h
  rw [if_neg g1] at hz
  have b1 := (szR_small (L := 1048576) _ _ (Int.not_lt.1 g1) (by omega)).2
  all_goals exact ⟨congrArg (Tr.int _) ((hz0.symm.trans (hz.trans (szR_nil _))).symm)⟩
theorem s_laws_toPlaceS (xs : List (TPlace)) (hs : smallT 1048576 (.lst 8 (xs.map TPlace.tr))) : Sim.Spec Try.prog 48 [tvL 8 (xs.map TPlace.tr)] (rL 8 (xs.map TPlace.tr)) := by
  have hl := small_len hs
  have hlen : (xs.map TPlace.tr).length = xs.length := by simp
  refine spec_of_W hΓ hmix Try.func48 rfl (by decide) rfl ?_
  repeat' (
    (conv => whnf)
    first
    | refine Or.inl ?_
    | refine And.intro (Obl.out (?_ : Obl _)) ?_
    | refine ifB_intro (fun h => ?_) (fun h => ?_)
    | refine Exists.intro _ (And.intro rfl ?_)
    | ((with_reducible show _ = _); rfl))
  all_goals try (
    (with_reducible refine Obl.mk ?_)
    first
    | ((with_reducible show regOk _ _ = true); kernel_rfl)
    | rfl
    | exact trivial
    | ((repeat' (first | exact trivial | refine And.intro ?_ ?_)); done)
    | decide
    | (intro r hr; simp only [List.mem_cons, List.not_mem_nil, or_false] at hr; first | (subst hr; rfl) | (rcases hr with rfl | rfl <;> rfl) | (rcases hr with rfl | rfl | rfl <;> rfl) | (rcases hr with rfl | rfl | rfl | rfl <;> rfl))
    | (refine And.intro ?_ ?_ <;> simp only [List.length_map, List.length_append, List.length_cons, List.length_nil] <;> omega))
  · exact ⟨by omega⟩
  · exact ⟨by dsimp only; omega⟩
  repeat' (
    (conv => whnf)
    first
    | refine Or.inl ?_
    | refine And.intro (Obl.out (?_ : Obl _)) ?_
    | refine ifB_intro (fun h => ?_) (fun h => ?_)
    | refine Exists.intro _ (And.intro rfl ?_)
    | ((with_reducible show _ = _); rfl))
  all_goals try (
    (with_reducible refine Obl.mk ?_)
    first
    | ((with_reducible show regOk _ _ = true); kernel_rfl)
    | rfl
    | exact trivial
    | ((repeat' (first | exact trivial | refine And.intro ?_ ?_)); done)
    | decide
    | (intro r hr; simp only [List.mem_cons, List.not_mem_nil, or_false] at hr; first | (subst hr; rfl) | (rcases hr with rfl | rfl <;> rfl) | (rcases hr with rfl | rfl | rfl <;> rfl) | (rcases hr with rfl | rfl | rfl | rfl <;> rfl))
    | (refine And.intro ?_ ?_ <;> simp only [List.length_map, List.length_append, List.length_cons, List.length_nil] <;> omega))
  conv => whnf
  refine ⟨{ k : Nat // k ≤ xs.length }, fun k => ⟨[(0, .r (.c (.t (.lst 8 (xs.map TPlace.tr))))), (3, .r (.c (.own (3, 0, 0)))), (4, tI .i64 (k.1 : Int))], [((3, 0, 0), some (.arr true 8 (filled (xs.map TPlace.tr) [.int .i64 0, .int .i64 0, .int .i64 0, .int .i64 0, .bool false, .lst 0 [], .int .i64 0, .bool false] k.1)))], [3]⟩, fun k => xs.length - k.1, ⟨0, by omega⟩, ?_, ?_⟩
  · skip
    repeat' (
      (conv => whnf)
      first
      | refine Or.inl ?_
      | refine And.intro (Obl.out (?_ : Obl _)) ?_
      | refine ifB_intro (fun h => ?_) (fun h => ?_)
      | refine Exists.intro _ (And.intro rfl ?_)
      | ((with_reducible show _ = _); rfl))
    all_goals try (
      (with_reducible refine Obl.mk ?_)
      first
      | ((with_reducible show regOk _ _ = true); kernel_rfl)
      | rfl
      | exact trivial
      | ((repeat' (first | exact trivial | refine And.intro ?_ ?_)); done)
      | decide
      | (intro r hr; simp only [List.mem_cons, List.not_mem_nil, or_false] at hr; first | (subst hr; rfl) | (rcases hr with rfl | rfl <;> rfl) | (rcases hr with rfl | rfl | rfl <;> rfl) | (rcases hr with rfl | rfl | rfl | rfl <;> rfl))
      | (refine And.intro ?_ ?_ <;> simp only [List.length_map, List.length_append, List.length_cons, List.length_nil] <;> omega))
    all_goals exact ⟨by rw [← filled_zero, hlen]⟩
  intro ⟨k, hk⟩
  dsimp only
  repeat' (
    (conv => whnf)
    first
    | refine Or.inl ?_
    | refine And.intro (Obl.out (?_ : Obl _)) ?_
    | refine ifB_intro (fun h => ?_) (fun h => ?_)
    | refine Exists.intro _ (And.intro rfl ?_)
    | ((with_reducible show _ = _); rfl))
  all_goals try (
    (with_reducible refine Obl.mk ?_)
    first
    | ((with_reducible show regOk _ _ = true); kernel_rfl)
    | rfl
    | exact trivial
    | ((repeat' (first | exact trivial | refine And.intro ?_ ?_)); done)
    | decide
    | (intro r hr; simp only [List.mem_cons, List.not_mem_nil, or_false] at hr; first | (subst hr; rfl) | (rcases hr with rfl | rfl <;> rfl) | (rcases hr with rfl | rfl | rfl <;> rfl) | (rcases hr with rfl | rfl | rfl | rfl <;> rfl))
    | (refine And.intro ?_ ?_ <;> simp only [List.length_map, List.length_append, List.length_cons, List.length_nil] <;> omega))
  · have hlt : k < xs.length := by have := of_decide_eq_true h; omega
    obtain ⟨x, hx⟩ := get_of_lt hlt
    have hsr := smallRs_map hs (List.mem_of_getElem? hx)
    conv => whnf
    refine ⟨k, _, rfl, map_get hx, ?_⟩
    repeat' (
      (conv => whnf)
      first
      | refine Or.inl ?_
      | refine And.intro (Obl.out (?_ : Obl _)) ?_
      | refine ifB_intro (fun h => ?_) (fun h => ?_)
      | refine call_intro ((s_laws_toPlace x hsr)) (And.intro (And.intro rfl (And.intro rfl (And.intro rfl (And.intro rfl (And.intro rfl (And.intro rfl (And.intro rfl (And.intro rfl trivial)))))))) trivial) ?_
      | refine Exists.intro _ (And.intro rfl ?_)
      | ((with_reducible show _ = _); rfl))
    all_goals try (
      (with_reducible refine Obl.mk ?_)
      first
      | ((with_reducible show regOk _ _ = true); kernel_rfl)
      | rfl
      | exact trivial
      | ((repeat' (first | exact trivial | refine And.intro ?_ ?_)); done)
      | decide
      | (intro r hr; simp only [List.mem_cons, List.not_mem_nil, or_false] at hr; first | (subst hr; rfl) | (rcases hr with rfl | rfl <;> rfl) | (rcases hr with rfl | rfl | rfl <;> rfl) | (rcases hr with rfl | rfl | rfl | rfl <;> rfl))
      | (refine And.intro ?_ ?_ <;> simp only [List.length_map, List.length_append, List.length_cons, List.length_nil] <;> omega))
    · exact ⟨by rw [filled_len (by omega)]; omega⟩
    conv => whnf
    refine ⟨_, filled_get (by omega), ?_⟩
    repeat' (
      (conv => whnf)
      first
      | refine Or.inl ?_
      | refine And.intro (Obl.out (?_ : Obl _)) ?_
      | refine ifB_intro (fun h => ?_) (fun h => ?_)
      | refine Exists.intro _ (And.intro rfl ?_)
      | ((with_reducible show _ = _); rfl))
    all_goals try (
      (with_reducible refine Obl.mk ?_)
      first
      | ((with_reducible show regOk _ _ = true); kernel_rfl)
      | rfl
      | exact trivial
      | ((repeat' (first | exact trivial | refine And.intro ?_ ?_)); done)
      | decide
      | (intro r hr; simp only [List.mem_cons, List.not_mem_nil, or_false] at hr; first | (subst hr; rfl) | (rcases hr with rfl | rfl <;> rfl) | (rcases hr with rfl | rfl | rfl <;> rfl) | (rcases hr with rfl | rfl | rfl | rfl <;> rfl))
      | (refine And.intro ?_ ?_ <;> simp only [List.length_map, List.length_append, List.length_cons, List.length_nil] <;> omega))
    conv => whnf
    refine ⟨⟨k + 1, by omega⟩, ?_, by dsimp only; omega⟩
    repeat' (
      (conv => whnf)
      first
      | refine Or.inl ?_
      | refine And.intro (Obl.out (?_ : Obl _)) ?_
      | refine ifB_intro (fun h => ?_) (fun h => ?_)
      | refine Exists.intro _ (And.intro rfl ?_)
      | ((with_reducible show _ = _); rfl))
    all_goals try (
      (with_reducible refine Obl.mk ?_)
      first
      | ((with_reducible show regOk _ _ = true); kernel_rfl)
      | rfl
      | exact trivial
      | ((repeat' (first | exact trivial | refine And.intro ?_ ?_)); done)
      | decide
      | (intro r hr; simp only [List.mem_cons, List.not_mem_nil, or_false] at hr; first | (subst hr; rfl) | (rcases hr with rfl | rfl <;> rfl) | (rcases hr with rfl | rfl | rfl <;> rfl) | (rcases hr with rfl | rfl | rfl | rfl <;> rfl))
      | (refine And.intro ?_ ?_ <;> simp only [List.length_map, List.length_append, List.length_cons, List.length_nil] <;> omega))
    · exact ⟨by dsimp only; rw [IntWalk.i64_in _ (by omega)]; rfl⟩
    · exact ⟨filled_set (map_get hx)⟩
  · have hge : xs.length ≤ k := by have := of_decide_eq_false h; omega
    exact ⟨filled_all (by omega)⟩
theorem s_laws_eqPlaceS (xs : List (TPlace)) (hs : smallT 1048576 (.lst 8 (xs.map TPlace.tr))) : Sim.Spec Try.prog 51 [tvL 8 (xs.map TPlace.tr), tvL 8 (xs.map TPlace.tr)] (rB true) := by
  have hl := small_len hs
  have hlen : (xs.map TPlace.tr).length = xs.length := by simp
  refine spec_of_W hΓ hmix Try.func51 rfl (by decide) rfl ?_
  repeat' (
    (conv => whnf)
    first
    | refine Or.inl ?_
    | refine And.intro (Obl.out (?_ : Obl _)) ?_
    | refine ifB_intro (fun h => ?_) (fun h => ?_)
    | refine Exists.intro _ (And.intro rfl ?_)
    | ((with_reducible show _ = _); rfl))
  all_goals try (
    (with_reducible refine Obl.mk ?_)
    first
    | ((with_reducible show regOk _ _ = true); kernel_rfl)
    | rfl
    | exact trivial
    | ((repeat' (first | exact trivial | refine And.intro ?_ ?_)); done)
    | decide
    | (intro r hr; simp only [List.mem_cons, List.not_mem_nil, or_false] at hr; first | (subst hr; rfl) | (rcases hr with rfl | rfl <;> rfl) | (rcases hr with rfl | rfl | rfl <;> rfl) | (rcases hr with rfl | rfl | rfl | rfl <;> rfl))
    | (refine And.intro ?_ ?_ <;> simp only [List.length_map, List.length_append, List.length_cons, List.length_nil] <;> omega))
  · simp at h
  conv => whnf
  refine ⟨{ k : Nat // k ≤ xs.length }, fun k => ⟨[(0, .r (.c (.t (.lst 8 (xs.map TPlace.tr))))), (1, .r (.c (.t (.lst 8 (xs.map TPlace.tr))))), (5, tI .i64 (k.1 : Int))], [], []⟩, fun k => xs.length - k.1, ⟨0, by omega⟩, ?_, ?_⟩
  · skip
    repeat' (
      (conv => whnf)
      first
      | refine Or.inl ?_
      | refine And.intro (Obl.out (?_ : Obl _)) ?_
      | refine ifB_intro (fun h => ?_) (fun h => ?_)
      | refine Exists.intro _ (And.intro rfl ?_)
      | ((with_reducible show _ = _); rfl))
    all_goals try (
      (with_reducible refine Obl.mk ?_)
      first
      | ((with_reducible show regOk _ _ = true); kernel_rfl)
      | rfl
      | exact trivial
      | ((repeat' (first | exact trivial | refine And.intro ?_ ?_)); done)
      | decide
      | (intro r hr; simp only [List.mem_cons, List.not_mem_nil, or_false] at hr; first | (subst hr; rfl) | (rcases hr with rfl | rfl <;> rfl) | (rcases hr with rfl | rfl | rfl <;> rfl) | (rcases hr with rfl | rfl | rfl | rfl <;> rfl))
      | (refine And.intro ?_ ?_ <;> simp only [List.length_map, List.length_append, List.length_cons, List.length_nil] <;> omega))
  intro ⟨k, hk⟩
  dsimp only
  repeat' (
    (conv => whnf)
    first
    | refine Or.inl ?_
    | refine And.intro (Obl.out (?_ : Obl _)) ?_
    | refine ifB_intro (fun h => ?_) (fun h => ?_)
    | refine Exists.intro _ (And.intro rfl ?_)
    | ((with_reducible show _ = _); rfl))
  all_goals try (
    (with_reducible refine Obl.mk ?_)
    first
    | ((with_reducible show regOk _ _ = true); kernel_rfl)
    | rfl
    | exact trivial
    | ((repeat' (first | exact trivial | refine And.intro ?_ ?_)); done)
    | decide
    | (intro r hr; simp only [List.mem_cons, List.not_mem_nil, or_false] at hr; first | (subst hr; rfl) | (rcases hr with rfl | rfl <;> rfl) | (rcases hr with rfl | rfl | rfl <;> rfl) | (rcases hr with rfl | rfl | rfl | rfl <;> rfl))
    | (refine And.intro ?_ ?_ <;> simp only [List.length_map, List.length_append, List.length_cons, List.length_nil] <;> omega))
  · have hlt : k < xs.length := by have := of_decide_eq_true h; omega
    obtain ⟨x, hx⟩ := get_of_lt hlt
    have hsr := smallRs_map hs (List.mem_of_getElem? hx)
    conv => whnf
    refine ⟨k, _, rfl, map_get hx, ?_⟩
    repeat' (
      (conv => whnf)
      first
      | refine Or.inl ?_
      | refine And.intro (Obl.out (?_ : Obl _)) ?_
      | refine ifB_intro (fun h => ?_) (fun h => ?_)
      | refine call_intro ((s_laws_eqPlace x hsr)) (And.intro (And.intro rfl (And.intro rfl (And.intro rfl (And.intro rfl (And.intro rfl (And.intro rfl (And.intro rfl (And.intro rfl trivial)))))))) (And.intro (And.intro rfl (And.intro rfl (And.intro rfl (And.intro rfl (And.intro rfl (And.intro rfl (And.intro rfl (And.intro rfl trivial)))))))) trivial)) ?_
      | refine Exists.intro _ (And.intro rfl ?_)
      | ((with_reducible show _ = _); rfl))
    all_goals try (
      (with_reducible refine Obl.mk ?_)
      first
      | ((with_reducible show regOk _ _ = true); kernel_rfl)
      | rfl
      | exact trivial
      | ((repeat' (first | exact trivial | refine And.intro ?_ ?_)); done)
      | decide
      | (intro r hr; simp only [List.mem_cons, List.not_mem_nil, or_false] at hr; first | (subst hr; rfl) | (rcases hr with rfl | rfl <;> rfl) | (rcases hr with rfl | rfl | rfl <;> rfl) | (rcases hr with rfl | rfl | rfl | rfl <;> rfl))
      | (refine And.intro ?_ ?_ <;> simp only [List.length_map, List.length_append, List.length_cons, List.length_nil] <;> omega))
    conv => whnf
    refine ⟨k, _, rfl, map_get hx, ?_⟩
    repeat' (
      (conv => whnf)
      first
      | refine Or.inl ?_
      | refine And.intro (Obl.out (?_ : Obl _)) ?_
      | refine ifB_intro (fun h => ?_) (fun h => ?_)
      | refine call_intro ((s_laws_eqPlace x hsr)) (And.intro (And.intro rfl (And.intro rfl (And.intro rfl (And.intro rfl (And.intro rfl (And.intro rfl (And.intro rfl (And.intro rfl trivial)))))))) (And.intro (And.intro rfl (And.intro rfl (And.intro rfl (And.intro rfl (And.intro rfl (And.intro rfl (And.intro rfl (And.intro rfl trivial)))))))) trivial)) ?_
      | refine Exists.intro _ (And.intro rfl ?_)
      | ((with_reducible show _ = _); rfl))
    all_goals try (
      (with_reducible refine Obl.mk ?_)
      first
      | ((with_reducible show regOk _ _ = true); kernel_rfl)
      | rfl
      | exact trivial
      | ((repeat' (first | exact trivial | refine And.intro ?_ ?_)); done)
      | decide
      | (intro r hr; simp only [List.mem_cons, List.not_mem_nil, or_false] at hr; first | (subst hr; rfl) | (rcases hr with rfl | rfl <;> rfl) | (rcases hr with rfl | rfl | rfl <;> rfl) | (rcases hr with rfl | rfl | rfl | rfl <;> rfl))
      | (refine And.intro ?_ ?_ <;> simp only [List.length_map, List.length_append, List.length_cons, List.length_nil] <;> omega))
    all_goals try (exfalso; simp at h; done)
    conv => whnf
    refine ⟨⟨k + 1, by omega⟩, ?_, by dsimp only; omega⟩
    repeat' (
      (conv => whnf)
      first
      | refine Or.inl ?_
      | refine And.intro (Obl.out (?_ : Obl _)) ?_
      | refine ifB_intro (fun h => ?_) (fun h => ?_)
      | refine Exists.intro _ (And.intro rfl ?_)
      | ((with_reducible show _ = _); rfl))
    all_goals try (
      (with_reducible refine Obl.mk ?_)
      first
      | ((with_reducible show regOk _ _ = true); kernel_rfl)
      | rfl
      | exact trivial
      | ((repeat' (first | exact trivial | refine And.intro ?_ ?_)); done)
      | decide
      | (intro r hr; simp only [List.mem_cons, List.not_mem_nil, or_false] at hr; first | (subst hr; rfl) | (rcases hr with rfl | rfl <;> rfl) | (rcases hr with rfl | rfl | rfl <;> rfl) | (rcases hr with rfl | rfl | rfl | rfl <;> rfl))
      | (refine And.intro ?_ ?_ <;> simp only [List.length_map, List.length_append, List.length_cons, List.length_nil] <;> omega))
    exact ⟨by dsimp only; rw [IntWalk.i64_in _ (by omega)]; rfl⟩
theorem s_laws_szPlaceS (xs : List (TPlace)) (hw : xs.length ≤ maxLen ∧ ∀ y ∈ xs, y.wf) (left : Int) (hle0 : 0 ≤ left) (hle1 : left ≤ 1048576) : Sim.Spec Try.prog 46 [tvL 8 (xs.map TPlace.tr), tvI left] (rI (szT (.lst 8 (xs.map TPlace.tr)) left)) := by
  have hl2 : (xs.map TPlace.tr).length ≤ 9223372036854775807 := by simpa [maxLen] using hw.1
  have hlen : (xs.map TPlace.tr).length = xs.length := by simp
  rw [szT]
  refine spec_of_W hΓ hmix Try.func46 rfl (by decide) rfl ?_
  repeat' (
    (conv => whnf)
    first
    | refine Or.inl ?_
    | refine And.intro (Obl.out (?_ : Obl _)) ?_
    | refine ifB_intro (fun h => ?_) (fun h => ?_)
    | refine Exists.intro _ (And.intro rfl ?_)
    | ((with_reducible show _ = _); rfl))
  all_goals try (
    (with_reducible refine Obl.mk ?_)
    first
    | ((with_reducible show regOk _ _ = true); kernel_rfl)
    | rfl
    | exact trivial
    | ((repeat' (first | exact trivial | refine And.intro ?_ ?_)); done)
    | decide
    | (intro r hr; simp only [List.mem_cons, List.not_mem_nil, or_false] at hr; first | (subst hr; rfl) | (rcases hr with rfl | rfl <;> rfl) | (rcases hr with rfl | rfl | rfl <;> rfl) | (rcases hr with rfl | rfl | rfl | rfl <;> rfl))
    | (refine And.intro ?_ ?_ <;> simp only [List.length_map, List.length_append, List.length_cons, List.length_nil] <;> omega))
  · refine ⟨congrArg (Tr.int _) ?_⟩
    have h2 := of_decide_eq_true h
    rw [IntWalk.i64_in _ (by omega)] at h2
    rw [if_pos h2]
  have h2 := of_decide_eq_false h
  rw [IntWalk.i64_in _ (by omega)] at h2 ⊢
  rw [if_neg h2]
  conv => whnf
  refine ⟨{ q : Nat × Int // q.1 ≤ xs.length ∧ 0 ≤ q.2 ∧ q.2 ≤ 1048576 ∧ szRs ((xs.drop q.1).map TPlace.tr) q.2 = szRs (xs.map TPlace.tr) (left - (xs.map TPlace.tr).length) }, fun q => ⟨[(0, .r (.c (.t (.lst 8 (xs.map TPlace.tr))))), (1, tI .i64 q.1.2), (5, tI .i64 (q.1.1 : Int))], [], []⟩, fun q => xs.length - q.1.1, ⟨(0, left - (xs.map TPlace.tr).length), by simp, by dsimp only; omega, by dsimp only; omega, by simp⟩, ?_, ?_⟩
  · skip
    repeat' (
      (conv => whnf)
      first
      | refine Or.inl ?_
      | refine And.intro (Obl.out (?_ : Obl _)) ?_
      | refine ifB_intro (fun h => ?_) (fun h => ?_)
      | refine Exists.intro _ (And.intro rfl ?_)
      | ((with_reducible show _ = _); rfl))
    all_goals try (
      (with_reducible refine Obl.mk ?_)
      first
      | ((with_reducible show regOk _ _ = true); kernel_rfl)
      | rfl
      | exact trivial
      | ((repeat' (first | exact trivial | refine And.intro ?_ ?_)); done)
      | decide
      | (intro r hr; simp only [List.mem_cons, List.not_mem_nil, or_false] at hr; first | (subst hr; rfl) | (rcases hr with rfl | rfl <;> rfl) | (rcases hr with rfl | rfl | rfl <;> rfl) | (rcases hr with rfl | rfl | rfl | rfl <;> rfl))
      | (refine And.intro ?_ ?_ <;> simp only [List.length_map, List.length_append, List.length_cons, List.length_nil] <;> omega))
  intro ⟨⟨k, lk⟩, hk, h0, h1, hsz⟩
  dsimp only at hk h0 h1 hsz ⊢
  repeat' (
    (conv => whnf)
    first
    | refine Or.inl ?_
    | refine And.intro (Obl.out (?_ : Obl _)) ?_
    | refine ifB_intro (fun h => ?_) (fun h => ?_)
    | refine Exists.intro _ (And.intro rfl ?_)
    | ((with_reducible show _ = _); rfl))
  all_goals try (
    (with_reducible refine Obl.mk ?_)
    first
    | ((with_reducible show regOk _ _ = true); kernel_rfl)
    | rfl
    | exact trivial
    | ((repeat' (first | exact trivial | refine And.intro ?_ ?_)); done)
    | decide
    | (intro r hr; simp only [List.mem_cons, List.not_mem_nil, or_false] at hr; first | (subst hr; rfl) | (rcases hr with rfl | rfl <;> rfl) | (rcases hr with rfl | rfl | rfl <;> rfl) | (rcases hr with rfl | rfl | rfl | rfl <;> rfl))
    | (refine And.intro ?_ ?_ <;> simp only [List.length_map, List.length_append, List.length_cons, List.length_nil] <;> omega))
  · have hlt : k < xs.length := by have := of_decide_eq_true h; omega
    obtain ⟨x, hx⟩ := get_of_lt hlt
    have hxw := hw.2 x (List.mem_of_getElem? hx)
    rw [drop_at hx, List.map_cons, szRs] at hsz
    conv => whnf
    refine ⟨k, _, rfl, map_get hx, ?_⟩
    repeat' (
      (conv => whnf)
      first
      | refine Or.inl ?_
      | refine And.intro (Obl.out (?_ : Obl _)) ?_
      | refine ifB_intro (fun h => ?_) (fun h => ?_)
      | refine call_intro ((s_laws_szPlace x hxw lk h0 h1)) (And.intro (And.intro rfl (And.intro rfl (And.intro rfl (And.intro rfl (And.intro rfl (And.intro rfl (And.intro rfl (And.intro rfl trivial)))))))) (And.intro rfl trivial)) ?_
      | refine Exists.intro _ (And.intro rfl ?_)
      | ((with_reducible show _ = _); rfl))
    all_goals try (
      (with_reducible refine Obl.mk ?_)
      first
      | ((with_reducible show regOk _ _ = true); kernel_rfl)
      | rfl
      | exact trivial
      | ((repeat' (first | exact trivial | refine And.intro ?_ ?_)); done)
      | decide
      | (intro r hr; simp only [List.mem_cons, List.not_mem_nil, or_false] at hr; first | (subst hr; rfl) | (rcases hr with rfl | rfl <;> rfl) | (rcases hr with rfl | rfl | rfl <;> rfl) | (rcases hr with rfl | rfl | rfl | rfl <;> rfl))
      | (refine And.intro ?_ ?_ <;> simp only [List.length_map, List.length_append, List.length_cons, List.length_nil] <;> omega))
    · refine ⟨congrArg (Tr.int _) ?_⟩
      rw [← hsz, if_pos (of_decide_eq_true h)]
    have h3 := of_decide_eq_false h
    rw [if_neg h3] at hsz
    have hsm := szR_small (L := 1048576) _ _ (Int.not_lt.1 h3) h1
    conv => whnf
    refine ⟨⟨(k + 1, _), by dsimp only; omega, by dsimp only; exact Int.not_lt.1 h3, by dsimp only; exact Int.le_trans hsm.2 h1, hsz⟩, ?_, by dsimp only; omega⟩
    repeat' (
      (conv => whnf)
      first
      | refine Or.inl ?_
      | refine And.intro (Obl.out (?_ : Obl _)) ?_
      | refine ifB_intro (fun h => ?_) (fun h => ?_)
      | refine Exists.intro _ (And.intro rfl ?_)
      | ((with_reducible show _ = _); rfl))
    all_goals try (
      (with_reducible refine Obl.mk ?_)
      first
      | ((with_reducible show regOk _ _ = true); kernel_rfl)
      | rfl
      | exact trivial
      | ((repeat' (first | exact trivial | refine And.intro ?_ ?_)); done)
      | decide
      | (intro r hr; simp only [List.mem_cons, List.not_mem_nil, or_false] at hr; first | (subst hr; rfl) | (rcases hr with rfl | rfl <;> rfl) | (rcases hr with rfl | rfl | rfl <;> rfl) | (rcases hr with rfl | rfl | rfl | rfl <;> rfl))
      | (refine And.intro ?_ ?_ <;> simp only [List.length_map, List.length_append, List.length_cons, List.length_nil] <;> omega))
    exact ⟨by dsimp only; rw [IntWalk.i64_in _ (by omega)]; rfl⟩
  · have hge : xs.length ≤ k := by have := of_decide_eq_false h; omega
    rw [List.drop_eq_nil_of_le hge, List.map_nil, szRs] at hsz
    exact ⟨congrArg (Tr.int _) hsz⟩
theorem s_laws_toRule (x : TRule) (hs : smallR 1048576 x.tr) : Sim.Spec Try.prog 162 [.agg x.tr] (.r (.agg (x.tr.map resC))) := by
  simp only [TRule.tr, smallR] at hs
  refine spec_of_W hΓ hmix Try.func162 rfl (by decide) rfl ?_
  repeat' (
    (conv => whnf)
    first
    | refine Or.inl ?_
    | refine And.intro (Obl.out (?_ : Obl _)) ?_
    | refine ifB_intro (fun h => ?_) (fun h => ?_)
    | refine Exists.intro _ (And.intro rfl ?_)
    | ((with_reducible show _ = _); rfl))
  all_goals try (
    (with_reducible refine Obl.mk ?_)
    first
    | ((with_reducible show regOk _ _ = true); kernel_rfl)
    | rfl
    | exact trivial
    | ((repeat' (first | exact trivial | refine And.intro ?_ ?_)); done)
    | decide
    | (intro r hr; simp only [List.mem_cons, List.not_mem_nil, or_false] at hr; first | (subst hr; rfl) | (rcases hr with rfl | rfl <;> rfl) | (rcases hr with rfl | rfl | rfl <;> rfl) | (rcases hr with rfl | rfl | rfl | rfl <;> rfl))
    | (refine And.intro ?_ ?_ <;> simp only [List.length_map, List.length_append, List.length_cons, List.length_nil] <;> omega))
theorem s_laws_eqRule (x : TRule) (hs : smallR 1048576 x.tr) : Sim.Spec Try.prog 132 [.agg x.tr, .agg x.tr] (rB true) := by
  simp only [TRule.tr, smallR] at hs
  refine spec_of_W hΓ hmix Try.func132 rfl (by decide) rfl ?_
  repeat' (
    (conv => whnf)
    first
    | refine Or.inl ?_
    | refine And.intro (Obl.out (?_ : Obl _)) ?_
    | refine ifB_intro (fun h => ?_) (fun h => ?_)
    | refine Exists.intro _ (And.intro rfl ?_)
    | ((with_reducible show _ = _); rfl))
  all_goals try (
    (with_reducible refine Obl.mk ?_)
    first
    | ((with_reducible show regOk _ _ = true); kernel_rfl)
    | rfl
    | exact trivial
    | ((repeat' (first | exact trivial | refine And.intro ?_ ?_)); done)
    | decide
    | (intro r hr; simp only [List.mem_cons, List.not_mem_nil, or_false] at hr; first | (subst hr; rfl) | (rcases hr with rfl | rfl <;> rfl) | (rcases hr with rfl | rfl | rfl <;> rfl) | (rcases hr with rfl | rfl | rfl | rfl <;> rfl))
    | (refine And.intro ?_ ?_ <;> simp only [List.length_map, List.length_append, List.length_cons, List.length_nil] <;> omega))
  all_goals simp at *
theorem s_laws_toRuleS (xs : List (TRule)) (hs : smallT 1048576 (.lst 4 (xs.map TRule.tr))) : Sim.Spec Try.prog 88 [tvL 4 (xs.map TRule.tr)] (rL 4 (xs.map TRule.tr)) := by
  have hl := small_len hs
  have hlen : (xs.map TRule.tr).length = xs.length := by simp
  refine spec_of_W hΓ hmix Try.func88 rfl (by decide) rfl ?_
  repeat' (
    (conv => whnf)
    first
    | refine Or.inl ?_
    | refine And.intro (Obl.out (?_ : Obl _)) ?_
    | refine ifB_intro (fun h => ?_) (fun h => ?_)
    | refine Exists.intro _ (And.intro rfl ?_)
    | ((with_reducible show _ = _); rfl))
  all_goals try (
    (with_reducible refine Obl.mk ?_)
    first
    | ((with_reducible show regOk _ _ = true); kernel_rfl)
    | rfl
    | exact trivial
    | ((repeat' (first | exact trivial | refine And.intro ?_ ?_)); done)
    | decide
    | (intro r hr; simp only [List.mem_cons, List.not_mem_nil, or_false] at hr; first | (subst hr; rfl) | (rcases hr with rfl | rfl <;> rfl) | (rcases hr with rfl | rfl | rfl <;> rfl) | (rcases hr with rfl | rfl | rfl | rfl <;> rfl))
    | (refine And.intro ?_ ?_ <;> simp only [List.length_map, List.length_append, List.length_cons, List.length_nil] <;> omega))
  · exact ⟨by omega⟩
  · exact ⟨by dsimp only; omega⟩
  repeat' (
    (conv => whnf)
    first
    | refine Or.inl ?_
    | refine And.intro (Obl.out (?_ : Obl _)) ?_
    | refine ifB_intro (fun h => ?_) (fun h => ?_)
    | refine Exists.intro _ (And.intro rfl ?_)
    | ((with_reducible show _ = _); rfl))
  all_goals try (
    (with_reducible refine Obl.mk ?_)
    first
    | ((with_reducible show regOk _ _ = true); kernel_rfl)
    | rfl
    | exact trivial
    | ((repeat' (first | exact trivial | refine And.intro ?_ ?_)); done)
    | decide
    | (intro r hr; simp only [List.mem_cons, List.not_mem_nil, or_false] at hr; first | (subst hr; rfl) | (rcases hr with rfl | rfl <;> rfl) | (rcases hr with rfl | rfl | rfl <;> rfl) | (rcases hr with rfl | rfl | rfl | rfl <;> rfl))
    | (refine And.intro ?_ ?_ <;> simp only [List.length_map, List.length_append, List.length_cons, List.length_nil] <;> omega))
  conv => whnf
  refine ⟨{ k : Nat // k ≤ xs.length }, fun k => ⟨[(0, .r (.c (.t (.lst 4 (xs.map TRule.tr))))), (3, .r (.c (.own (3, 0, 0)))), (4, tI .i64 (k.1 : Int))], [((3, 0, 0), some (.arr true 4 (filled (xs.map TRule.tr) [.int .i64 0, .int .i64 0, .bool false, .int .i64 0] k.1)))], [3]⟩, fun k => xs.length - k.1, ⟨0, by omega⟩, ?_, ?_⟩
  · skip
    repeat' (
      (conv => whnf)
      first
      | refine Or.inl ?_
      | refine And.intro (Obl.out (?_ : Obl _)) ?_
      | refine ifB_intro (fun h => ?_) (fun h => ?_)
      | refine Exists.intro _ (And.intro rfl ?_)
      | ((with_reducible show _ = _); rfl))
    all_goals try (
      (with_reducible refine Obl.mk ?_)
      first
      | ((with_reducible show regOk _ _ = true); kernel_rfl)
      | rfl
      | exact trivial
      | ((repeat' (first | exact trivial | refine And.intro ?_ ?_)); done)
      | decide
      | (intro r hr; simp only [List.mem_cons, List.not_mem_nil, or_false] at hr; first | (subst hr; rfl) | (rcases hr with rfl | rfl <;> rfl) | (rcases hr with rfl | rfl | rfl <;> rfl) | (rcases hr with rfl | rfl | rfl | rfl <;> rfl))
      | (refine And.intro ?_ ?_ <;> simp only [List.length_map, List.length_append, List.length_cons, List.length_nil] <;> omega))
    all_goals exact ⟨by rw [← filled_zero, hlen]⟩
  intro ⟨k, hk⟩
  dsimp only
  repeat' (
    (conv => whnf)
    first
    | refine Or.inl ?_
    | refine And.intro (Obl.out (?_ : Obl _)) ?_
    | refine ifB_intro (fun h => ?_) (fun h => ?_)
    | refine Exists.intro _ (And.intro rfl ?_)
    | ((with_reducible show _ = _); rfl))
  all_goals try (
    (with_reducible refine Obl.mk ?_)
    first
    | ((with_reducible show regOk _ _ = true); kernel_rfl)
    | rfl
    | exact trivial
    | ((repeat' (first | exact trivial | refine And.intro ?_ ?_)); done)
    | decide
    | (intro r hr; simp only [List.mem_cons, List.not_mem_nil, or_false] at hr; first | (subst hr; rfl) | (rcases hr with rfl | rfl <;> rfl) | (rcases hr with rfl | rfl | rfl <;> rfl) | (rcases hr with rfl | rfl | rfl | rfl <;> rfl))
    | (refine And.intro ?_ ?_ <;> simp only [List.length_map, List.length_append, List.length_cons, List.length_nil] <;> omega))
  · have hlt : k < xs.length := by have := of_decide_eq_true h; omega
    obtain ⟨x, hx⟩ := get_of_lt hlt
    have hsr := smallRs_map hs (List.mem_of_getElem? hx)
    conv => whnf
    refine ⟨k, _, rfl, map_get hx, ?_⟩
    repeat' (
      (conv => whnf)
      first
      | refine Or.inl ?_
      | refine And.intro (Obl.out (?_ : Obl _)) ?_
      | refine ifB_intro (fun h => ?_) (fun h => ?_)
      | refine call_intro ((s_laws_toRule x hsr)) (And.intro (And.intro rfl (And.intro rfl (And.intro rfl (And.intro rfl trivial)))) trivial) ?_
      | refine Exists.intro _ (And.intro rfl ?_)
      | ((with_reducible show _ = _); rfl))
    all_goals try (
      (with_reducible refine Obl.mk ?_)
      first
      | ((with_reducible show regOk _ _ = true); kernel_rfl)
      | rfl
      | exact trivial
      | ((repeat' (first | exact trivial | refine And.intro ?_ ?_)); done)
      | decide
      | (intro r hr; simp only [List.mem_cons, List.not_mem_nil, or_false] at hr; first | (subst hr; rfl) | (rcases hr with rfl | rfl <;> rfl) | (rcases hr with rfl | rfl | rfl <;> rfl) | (rcases hr with rfl | rfl | rfl | rfl <;> rfl))
      | (refine And.intro ?_ ?_ <;> simp only [List.length_map, List.length_append, List.length_cons, List.length_nil] <;> omega))
    · exact ⟨by rw [filled_len (by omega)]; omega⟩
    conv => whnf
    refine ⟨_, filled_get (by omega), ?_⟩
    repeat' (
      (conv => whnf)
      first
      | refine Or.inl ?_
      | refine And.intro (Obl.out (?_ : Obl _)) ?_
      | refine ifB_intro (fun h => ?_) (fun h => ?_)
      | refine Exists.intro _ (And.intro rfl ?_)
      | ((with_reducible show _ = _); rfl))
    all_goals try (
      (with_reducible refine Obl.mk ?_)
      first
      | ((with_reducible show regOk _ _ = true); kernel_rfl)
      | rfl
      | exact trivial
      | ((repeat' (first | exact trivial | refine And.intro ?_ ?_)); done)
      | decide
      | (intro r hr; simp only [List.mem_cons, List.not_mem_nil, or_false] at hr; first | (subst hr; rfl) | (rcases hr with rfl | rfl <;> rfl) | (rcases hr with rfl | rfl | rfl <;> rfl) | (rcases hr with rfl | rfl | rfl | rfl <;> rfl))
      | (refine And.intro ?_ ?_ <;> simp only [List.length_map, List.length_append, List.length_cons, List.length_nil] <;> omega))
    conv => whnf
    refine ⟨⟨k + 1, by omega⟩, ?_, by dsimp only; omega⟩
    repeat' (
      (conv => whnf)
      first
      | refine Or.inl ?_
      | refine And.intro (Obl.out (?_ : Obl _)) ?_
      | refine ifB_intro (fun h => ?_) (fun h => ?_)
      | refine Exists.intro _ (And.intro rfl ?_)
      | ((with_reducible show _ = _); rfl))
    all_goals try (
      (with_reducible refine Obl.mk ?_)
      first
      | ((with_reducible show regOk _ _ = true); kernel_rfl)
      | rfl
      | exact trivial
      | ((repeat' (first | exact trivial | refine And.intro ?_ ?_)); done)
      | decide
      | (intro r hr; simp only [List.mem_cons, List.not_mem_nil, or_false] at hr; first | (subst hr; rfl) | (rcases hr with rfl | rfl <;> rfl) | (rcases hr with rfl | rfl | rfl <;> rfl) | (rcases hr with rfl | rfl | rfl | rfl <;> rfl))
      | (refine And.intro ?_ ?_ <;> simp only [List.length_map, List.length_append, List.length_cons, List.length_nil] <;> omega))
    · exact ⟨by dsimp only; rw [IntWalk.i64_in _ (by omega)]; rfl⟩
    · exact ⟨filled_set (map_get hx)⟩
  · have hge : xs.length ≤ k := by have := of_decide_eq_false h; omega
    exact ⟨filled_all (by omega)⟩
theorem s_laws_eqRuleS (xs : List (TRule)) (hs : smallT 1048576 (.lst 4 (xs.map TRule.tr))) : Sim.Spec Try.prog 59 [tvL 4 (xs.map TRule.tr), tvL 4 (xs.map TRule.tr)] (rB true) := by
  have hl := small_len hs
  have hlen : (xs.map TRule.tr).length = xs.length := by simp
  refine spec_of_W hΓ hmix Try.func59 rfl (by decide) rfl ?_
  repeat' (
    (conv => whnf)
    first
    | refine Or.inl ?_
    | refine And.intro (Obl.out (?_ : Obl _)) ?_
    | refine ifB_intro (fun h => ?_) (fun h => ?_)
    | refine Exists.intro _ (And.intro rfl ?_)
    | ((with_reducible show _ = _); rfl))
  all_goals try (
    (with_reducible refine Obl.mk ?_)
    first
    | ((with_reducible show regOk _ _ = true); kernel_rfl)
    | rfl
    | exact trivial
    | ((repeat' (first | exact trivial | refine And.intro ?_ ?_)); done)
    | decide
    | (intro r hr; simp only [List.mem_cons, List.not_mem_nil, or_false] at hr; first | (subst hr; rfl) | (rcases hr with rfl | rfl <;> rfl) | (rcases hr with rfl | rfl | rfl <;> rfl) | (rcases hr with rfl | rfl | rfl | rfl <;> rfl))
    | (refine And.intro ?_ ?_ <;> simp only [List.length_map, List.length_append, List.length_cons, List.length_nil] <;> omega))
  · simp at h
  conv => whnf
  refine ⟨{ k : Nat // k ≤ xs.length }, fun k => ⟨[(0, .r (.c (.t (.lst 4 (xs.map TRule.tr))))), (1, .r (.c (.t (.lst 4 (xs.map TRule.tr))))), (5, tI .i64 (k.1 : Int))], [], []⟩, fun k => xs.length - k.1, ⟨0, by omega⟩, ?_, ?_⟩
  · skip
    repeat' (
      (conv => whnf)
      first
      | refine Or.inl ?_
      | refine And.intro (Obl.out (?_ : Obl _)) ?_
      | refine ifB_intro (fun h => ?_) (fun h => ?_)
      | refine Exists.intro _ (And.intro rfl ?_)
      | ((with_reducible show _ = _); rfl))
    all_goals try (
      (with_reducible refine Obl.mk ?_)
      first
      | ((with_reducible show regOk _ _ = true); kernel_rfl)
      | rfl
      | exact trivial
      | ((repeat' (first | exact trivial | refine And.intro ?_ ?_)); done)
      | decide
      | (intro r hr; simp only [List.mem_cons, List.not_mem_nil, or_false] at hr; first | (subst hr; rfl) | (rcases hr with rfl | rfl <;> rfl) | (rcases hr with rfl | rfl | rfl <;> rfl) | (rcases hr with rfl | rfl | rfl | rfl <;> rfl))
      | (refine And.intro ?_ ?_ <;> simp only [List.length_map, List.length_append, List.length_cons, List.length_nil] <;> omega))
  intro ⟨k, hk⟩
  dsimp only
  repeat' (
    (conv => whnf)
    first
    | refine Or.inl ?_
    | refine And.intro (Obl.out (?_ : Obl _)) ?_
    | refine ifB_intro (fun h => ?_) (fun h => ?_)
    | refine Exists.intro _ (And.intro rfl ?_)
    | ((with_reducible show _ = _); rfl))
  all_goals try (
    (with_reducible refine Obl.mk ?_)
    first
    | ((with_reducible show regOk _ _ = true); kernel_rfl)
    | rfl
    | exact trivial
    | ((repeat' (first | exact trivial | refine And.intro ?_ ?_)); done)
    | decide
    | (intro r hr; simp only [List.mem_cons, List.not_mem_nil, or_false] at hr; first | (subst hr; rfl) | (rcases hr with rfl | rfl <;> rfl) | (rcases hr with rfl | rfl | rfl <;> rfl) | (rcases hr with rfl | rfl | rfl | rfl <;> rfl))
    | (refine And.intro ?_ ?_ <;> simp only [List.length_map, List.length_append, List.length_cons, List.length_nil] <;> omega))
  · have hlt : k < xs.length := by have := of_decide_eq_true h; omega
    obtain ⟨x, hx⟩ := get_of_lt hlt
    have hsr := smallRs_map hs (List.mem_of_getElem? hx)
    conv => whnf
    refine ⟨k, _, rfl, map_get hx, ?_⟩
    repeat' (
      (conv => whnf)
      first
      | refine Or.inl ?_
      | refine And.intro (Obl.out (?_ : Obl _)) ?_
      | refine ifB_intro (fun h => ?_) (fun h => ?_)
      | refine call_intro ((s_laws_eqRule x hsr)) (And.intro (And.intro rfl (And.intro rfl (And.intro rfl (And.intro rfl trivial)))) (And.intro (And.intro rfl (And.intro rfl (And.intro rfl (And.intro rfl trivial)))) trivial)) ?_
      | refine Exists.intro _ (And.intro rfl ?_)
      | ((with_reducible show _ = _); rfl))
    all_goals try (
      (with_reducible refine Obl.mk ?_)
      first
      | ((with_reducible show regOk _ _ = true); kernel_rfl)
      | rfl
      | exact trivial
      | ((repeat' (first | exact trivial | refine And.intro ?_ ?_)); done)
      | decide
      | (intro r hr; simp only [List.mem_cons, List.not_mem_nil, or_false] at hr; first | (subst hr; rfl) | (rcases hr with rfl | rfl <;> rfl) | (rcases hr with rfl | rfl | rfl <;> rfl) | (rcases hr with rfl | rfl | rfl | rfl <;> rfl))
      | (refine And.intro ?_ ?_ <;> simp only [List.length_map, List.length_append, List.length_cons, List.length_nil] <;> omega))
    conv => whnf
    refine ⟨k, _, rfl, map_get hx, ?_⟩
    repeat' (
      (conv => whnf)
      first
      | refine Or.inl ?_
      | refine And.intro (Obl.out (?_ : Obl _)) ?_
      | refine ifB_intro (fun h => ?_) (fun h => ?_)
      | refine call_intro ((s_laws_eqRule x hsr)) (And.intro (And.intro rfl (And.intro rfl (And.intro rfl (And.intro rfl trivial)))) (And.intro (And.intro rfl (And.intro rfl (And.intro rfl (And.intro rfl trivial)))) trivial)) ?_
      | refine Exists.intro _ (And.intro rfl ?_)
      | ((with_reducible show _ = _); rfl))
    all_goals try (
      (with_reducible refine Obl.mk ?_)
      first
      | ((with_reducible show regOk _ _ = true); kernel_rfl)
      | rfl
      | exact trivial
      | ((repeat' (first | exact trivial | refine And.intro ?_ ?_)); done)
      | decide
      | (intro r hr; simp only [List.mem_cons, List.not_mem_nil, or_false] at hr; first | (subst hr; rfl) | (rcases hr with rfl | rfl <;> rfl) | (rcases hr with rfl | rfl | rfl <;> rfl) | (rcases hr with rfl | rfl | rfl | rfl <;> rfl))
      | (refine And.intro ?_ ?_ <;> simp only [List.length_map, List.length_append, List.length_cons, List.length_nil] <;> omega))
    all_goals try (exfalso; simp at h; done)
    conv => whnf
    refine ⟨⟨k + 1, by omega⟩, ?_, by dsimp only; omega⟩
    repeat' (
      (conv => whnf)
      first
      | refine Or.inl ?_
      | refine And.intro (Obl.out (?_ : Obl _)) ?_
      | refine ifB_intro (fun h => ?_) (fun h => ?_)
      | refine Exists.intro _ (And.intro rfl ?_)
      | ((with_reducible show _ = _); rfl))
    all_goals try (
      (with_reducible refine Obl.mk ?_)
      first
      | ((with_reducible show regOk _ _ = true); kernel_rfl)
      | rfl
      | exact trivial
      | ((repeat' (first | exact trivial | refine And.intro ?_ ?_)); done)
      | decide
      | (intro r hr; simp only [List.mem_cons, List.not_mem_nil, or_false] at hr; first | (subst hr; rfl) | (rcases hr with rfl | rfl <;> rfl) | (rcases hr with rfl | rfl | rfl <;> rfl) | (rcases hr with rfl | rfl | rfl | rfl <;> rfl))
      | (refine And.intro ?_ ?_ <;> simp only [List.length_map, List.length_append, List.length_cons, List.length_nil] <;> omega))
    exact ⟨by dsimp only; rw [IntWalk.i64_in _ (by omega)]; rfl⟩
theorem s_laws_szRuleS (xs : List (TRule)) (hw : xs.length ≤ maxLen ∧ ∀ y ∈ xs, y.wf) (left : Int) (hle0 : 0 ≤ left) (hle1 : left ≤ 1048576) : Sim.Spec Try.prog 84 [tvL 4 (xs.map TRule.tr), tvI left] (rI (szT (.lst 4 (xs.map TRule.tr)) left)) := by
  have hl2 : (xs.map TRule.tr).length ≤ 9223372036854775807 := by simpa [maxLen] using hw.1
  have hlen : (xs.map TRule.tr).length = xs.length := by simp
  rw [szT]
  refine spec_of_W hΓ hmix Try.func84 rfl (by decide) rfl ?_
  repeat' (
    (conv => whnf)
    first
    | refine Or.inl ?_
    | refine And.intro (Obl.out (?_ : Obl _)) ?_
    | refine ifB_intro (fun h => ?_) (fun h => ?_)
    | refine Exists.intro _ (And.intro rfl ?_)
    | ((with_reducible show _ = _); rfl))
  all_goals try (
    (with_reducible refine Obl.mk ?_)
    first
    | ((with_reducible show regOk _ _ = true); kernel_rfl)
    | rfl
    | exact trivial
    | ((repeat' (first | exact trivial | refine And.intro ?_ ?_)); done)
    | decide
    | (intro r hr; simp only [List.mem_cons, List.not_mem_nil, or_false] at hr; first | (subst hr; rfl) | (rcases hr with rfl | rfl <;> rfl) | (rcases hr with rfl | rfl | rfl <;> rfl) | (rcases hr with rfl | rfl | rfl | rfl <;> rfl))
    | (refine And.intro ?_ ?_ <;> simp only [List.length_map, List.length_append, List.length_cons, List.length_nil] <;> omega))
  all_goals refine ⟨congrArg (Tr.int _) ?_⟩
  · have h2 := of_decide_eq_true h
    rw [IntWalk.i64_in _ (by omega)] at h2
    rw [if_pos h2]
  · have h2 := of_decide_eq_false h
    rw [IntWalk.i64_in _ (by omega)] at h2 ⊢
    rw [if_neg h2, szRs_plain _ _ (fun r hr c hc => ?_) (by omega)]
    obtain ⟨x, _, rfl⟩ := List.mem_map.1 hr
    simp only [TRule.tr, List.mem_cons, List.not_mem_nil, or_false] at hc
    rcases hc with rfl | rfl | rfl | rfl <;> trivial
theorem s_laws_eqView (x : TView) (hs : smallR 1048576 x.tr) : Sim.Spec Try.prog 34 [.agg x.tr, .agg x.tr] (rB true) := by
  simp only [TView.tr, smallR] at hs
  refine spec_of_W hΓ hmix Try.func34 rfl (by decide) rfl ?_
  repeat' (
    (conv => whnf)
    first
    | refine Or.inl ?_
    | refine And.intro (Obl.out (?_ : Obl _)) ?_
    | refine ifB_intro (fun h => ?_) (fun h => ?_)
    | refine call_intro ((s_laws_eqIntS x.fWords x.fWords (small_nat hs.2.2.2.1))) (And.intro rfl (And.intro rfl trivial)) ?_
    | refine Exists.intro _ (And.intro rfl ?_)
    | ((with_reducible show _ = _); rfl))
  all_goals try (
    (with_reducible refine Obl.mk ?_)
    first
    | ((with_reducible show regOk _ _ = true); kernel_rfl)
    | rfl
    | exact trivial
    | ((repeat' (first | exact trivial | refine And.intro ?_ ?_)); done)
    | decide
    | (intro r hr; simp only [List.mem_cons, List.not_mem_nil, or_false] at hr; first | (subst hr; rfl) | (rcases hr with rfl | rfl <;> rfl) | (rcases hr with rfl | rfl | rfl <;> rfl) | (rcases hr with rfl | rfl | rfl | rfl <;> rfl))
    | (refine And.intro ?_ ?_ <;> simp only [List.length_map, List.length_append, List.length_cons, List.length_nil] <;> omega))
  all_goals simp at *
theorem s_laws_toRow (x : TRow) (hs : smallR 1048576 x.tr) : Sim.Spec Try.prog 163 [.agg x.tr] (.r (.agg (x.tr.map resC))) := by
  simp only [TRow.tr, smallR] at hs
  refine spec_of_W hΓ hmix Try.func163 rfl (by decide) rfl ?_
  repeat' (
    (conv => whnf)
    first
    | refine Or.inl ?_
    | refine And.intro (Obl.out (?_ : Obl _)) ?_
    | refine ifB_intro (fun h => ?_) (fun h => ?_)
    | refine Exists.intro _ (And.intro rfl ?_)
    | ((with_reducible show _ = _); rfl))
  all_goals try (
    (with_reducible refine Obl.mk ?_)
    first
    | ((with_reducible show regOk _ _ = true); kernel_rfl)
    | rfl
    | exact trivial
    | ((repeat' (first | exact trivial | refine And.intro ?_ ?_)); done)
    | decide
    | (intro r hr; simp only [List.mem_cons, List.not_mem_nil, or_false] at hr; first | (subst hr; rfl) | (rcases hr with rfl | rfl <;> rfl) | (rcases hr with rfl | rfl | rfl <;> rfl) | (rcases hr with rfl | rfl | rfl | rfl <;> rfl))
    | (refine And.intro ?_ ?_ <;> simp only [List.length_map, List.length_append, List.length_cons, List.length_nil] <;> omega))
theorem s_laws_eqRow (x : TRow) (hs : smallR 1048576 x.tr) : Sim.Spec Try.prog 128 [.agg x.tr, .agg x.tr] (rB true) := by
  simp only [TRow.tr, smallR] at hs
  refine spec_of_W hΓ hmix Try.func128 rfl (by decide) rfl ?_
  repeat' (
    (conv => whnf)
    first
    | refine Or.inl ?_
    | refine And.intro (Obl.out (?_ : Obl _)) ?_
    | refine ifB_intro (fun h => ?_) (fun h => ?_)
    | refine Exists.intro _ (And.intro rfl ?_)
    | ((with_reducible show _ = _); rfl))
  all_goals try (
    (with_reducible refine Obl.mk ?_)
    first
    | ((with_reducible show regOk _ _ = true); kernel_rfl)
    | rfl
    | exact trivial
    | ((repeat' (first | exact trivial | refine And.intro ?_ ?_)); done)
    | decide
    | (intro r hr; simp only [List.mem_cons, List.not_mem_nil, or_false] at hr; first | (subst hr; rfl) | (rcases hr with rfl | rfl <;> rfl) | (rcases hr with rfl | rfl | rfl <;> rfl) | (rcases hr with rfl | rfl | rfl | rfl <;> rfl))
    | (refine And.intro ?_ ?_ <;> simp only [List.length_map, List.length_append, List.length_cons, List.length_nil] <;> omega))
  all_goals simp at *
theorem s_laws_toRowS (xs : List (TRow)) (hs : smallT 1048576 (.lst 3 (xs.map TRow.tr))) : Sim.Spec Try.prog 89 [tvL 3 (xs.map TRow.tr)] (rL 3 (xs.map TRow.tr)) := by
  have hl := small_len hs
  have hlen : (xs.map TRow.tr).length = xs.length := by simp
  refine spec_of_W hΓ hmix Try.func89 rfl (by decide) rfl ?_
  repeat' (
    (conv => whnf)
    first
    | refine Or.inl ?_
    | refine And.intro (Obl.out (?_ : Obl _)) ?_
    | refine ifB_intro (fun h => ?_) (fun h => ?_)
    | refine Exists.intro _ (And.intro rfl ?_)
    | ((with_reducible show _ = _); rfl))
  all_goals try (
    (with_reducible refine Obl.mk ?_)
    first
    | ((with_reducible show regOk _ _ = true); kernel_rfl)
    | rfl
    | exact trivial
    | ((repeat' (first | exact trivial | refine And.intro ?_ ?_)); done)
    | decide
    | (intro r hr; simp only [List.mem_cons, List.not_mem_nil, or_false] at hr; first | (subst hr; rfl) | (rcases hr with rfl | rfl <;> rfl) | (rcases hr with rfl | rfl | rfl <;> rfl) | (rcases hr with rfl | rfl | rfl | rfl <;> rfl))
    | (refine And.intro ?_ ?_ <;> simp only [List.length_map, List.length_append, List.length_cons, List.length_nil] <;> omega))
  · exact ⟨by omega⟩
  · exact ⟨by dsimp only; omega⟩
  repeat' (
    (conv => whnf)
    first
    | refine Or.inl ?_
    | refine And.intro (Obl.out (?_ : Obl _)) ?_
    | refine ifB_intro (fun h => ?_) (fun h => ?_)
    | refine Exists.intro _ (And.intro rfl ?_)
    | ((with_reducible show _ = _); rfl))
  all_goals try (
    (with_reducible refine Obl.mk ?_)
    first
    | ((with_reducible show regOk _ _ = true); kernel_rfl)
    | rfl
    | exact trivial
    | ((repeat' (first | exact trivial | refine And.intro ?_ ?_)); done)
    | decide
    | (intro r hr; simp only [List.mem_cons, List.not_mem_nil, or_false] at hr; first | (subst hr; rfl) | (rcases hr with rfl | rfl <;> rfl) | (rcases hr with rfl | rfl | rfl <;> rfl) | (rcases hr with rfl | rfl | rfl | rfl <;> rfl))
    | (refine And.intro ?_ ?_ <;> simp only [List.length_map, List.length_append, List.length_cons, List.length_nil] <;> omega))
  conv => whnf
  refine ⟨{ k : Nat // k ≤ xs.length }, fun k => ⟨[(0, .r (.c (.t (.lst 3 (xs.map TRow.tr))))), (3, .r (.c (.own (3, 0, 0)))), (4, tI .i64 (k.1 : Int))], [((3, 0, 0), some (.arr true 3 (filled (xs.map TRow.tr) [.int .i64 0, .int .i64 0, .bool false] k.1)))], [3]⟩, fun k => xs.length - k.1, ⟨0, by omega⟩, ?_, ?_⟩
  · skip
    repeat' (
      (conv => whnf)
      first
      | refine Or.inl ?_
      | refine And.intro (Obl.out (?_ : Obl _)) ?_
      | refine ifB_intro (fun h => ?_) (fun h => ?_)
      | refine Exists.intro _ (And.intro rfl ?_)
      | ((with_reducible show _ = _); rfl))
    all_goals try (
      (with_reducible refine Obl.mk ?_)
      first
      | ((with_reducible show regOk _ _ = true); kernel_rfl)
      | rfl
      | exact trivial
      | ((repeat' (first | exact trivial | refine And.intro ?_ ?_)); done)
      | decide
      | (intro r hr; simp only [List.mem_cons, List.not_mem_nil, or_false] at hr; first | (subst hr; rfl) | (rcases hr with rfl | rfl <;> rfl) | (rcases hr with rfl | rfl | rfl <;> rfl) | (rcases hr with rfl | rfl | rfl | rfl <;> rfl))
      | (refine And.intro ?_ ?_ <;> simp only [List.length_map, List.length_append, List.length_cons, List.length_nil] <;> omega))
    all_goals exact ⟨by rw [← filled_zero, hlen]⟩
  intro ⟨k, hk⟩
  dsimp only
  repeat' (
    (conv => whnf)
    first
    | refine Or.inl ?_
    | refine And.intro (Obl.out (?_ : Obl _)) ?_
    | refine ifB_intro (fun h => ?_) (fun h => ?_)
    | refine Exists.intro _ (And.intro rfl ?_)
    | ((with_reducible show _ = _); rfl))
  all_goals try (
    (with_reducible refine Obl.mk ?_)
    first
    | ((with_reducible show regOk _ _ = true); kernel_rfl)
    | rfl
    | exact trivial
    | ((repeat' (first | exact trivial | refine And.intro ?_ ?_)); done)
    | decide
    | (intro r hr; simp only [List.mem_cons, List.not_mem_nil, or_false] at hr; first | (subst hr; rfl) | (rcases hr with rfl | rfl <;> rfl) | (rcases hr with rfl | rfl | rfl <;> rfl) | (rcases hr with rfl | rfl | rfl | rfl <;> rfl))
    | (refine And.intro ?_ ?_ <;> simp only [List.length_map, List.length_append, List.length_cons, List.length_nil] <;> omega))
  · have hlt : k < xs.length := by have := of_decide_eq_true h; omega
    obtain ⟨x, hx⟩ := get_of_lt hlt
    have hsr := smallRs_map hs (List.mem_of_getElem? hx)
    conv => whnf
    refine ⟨k, _, rfl, map_get hx, ?_⟩
    repeat' (
      (conv => whnf)
      first
      | refine Or.inl ?_
      | refine And.intro (Obl.out (?_ : Obl _)) ?_
      | refine ifB_intro (fun h => ?_) (fun h => ?_)
      | refine call_intro ((s_laws_toRow x hsr)) (And.intro (And.intro rfl (And.intro rfl (And.intro rfl trivial))) trivial) ?_
      | refine Exists.intro _ (And.intro rfl ?_)
      | ((with_reducible show _ = _); rfl))
    all_goals try (
      (with_reducible refine Obl.mk ?_)
      first
      | ((with_reducible show regOk _ _ = true); kernel_rfl)
      | rfl
      | exact trivial
      | ((repeat' (first | exact trivial | refine And.intro ?_ ?_)); done)
      | decide
      | (intro r hr; simp only [List.mem_cons, List.not_mem_nil, or_false] at hr; first | (subst hr; rfl) | (rcases hr with rfl | rfl <;> rfl) | (rcases hr with rfl | rfl | rfl <;> rfl) | (rcases hr with rfl | rfl | rfl | rfl <;> rfl))
      | (refine And.intro ?_ ?_ <;> simp only [List.length_map, List.length_append, List.length_cons, List.length_nil] <;> omega))
    · exact ⟨by rw [filled_len (by omega)]; omega⟩
    conv => whnf
    refine ⟨_, filled_get (by omega), ?_⟩
    repeat' (
      (conv => whnf)
      first
      | refine Or.inl ?_
      | refine And.intro (Obl.out (?_ : Obl _)) ?_
      | refine ifB_intro (fun h => ?_) (fun h => ?_)
      | refine Exists.intro _ (And.intro rfl ?_)
      | ((with_reducible show _ = _); rfl))
    all_goals try (
      (with_reducible refine Obl.mk ?_)
      first
      | ((with_reducible show regOk _ _ = true); kernel_rfl)
      | rfl
      | exact trivial
      | ((repeat' (first | exact trivial | refine And.intro ?_ ?_)); done)
      | decide
      | (intro r hr; simp only [List.mem_cons, List.not_mem_nil, or_false] at hr; first | (subst hr; rfl) | (rcases hr with rfl | rfl <;> rfl) | (rcases hr with rfl | rfl | rfl <;> rfl) | (rcases hr with rfl | rfl | rfl | rfl <;> rfl))
      | (refine And.intro ?_ ?_ <;> simp only [List.length_map, List.length_append, List.length_cons, List.length_nil] <;> omega))
    conv => whnf
    refine ⟨⟨k + 1, by omega⟩, ?_, by dsimp only; omega⟩
    repeat' (
      (conv => whnf)
      first
      | refine Or.inl ?_
      | refine And.intro (Obl.out (?_ : Obl _)) ?_
      | refine ifB_intro (fun h => ?_) (fun h => ?_)
      | refine Exists.intro _ (And.intro rfl ?_)
      | ((with_reducible show _ = _); rfl))
    all_goals try (
      (with_reducible refine Obl.mk ?_)
      first
      | ((with_reducible show regOk _ _ = true); kernel_rfl)
      | rfl
      | exact trivial
      | ((repeat' (first | exact trivial | refine And.intro ?_ ?_)); done)
      | decide
      | (intro r hr; simp only [List.mem_cons, List.not_mem_nil, or_false] at hr; first | (subst hr; rfl) | (rcases hr with rfl | rfl <;> rfl) | (rcases hr with rfl | rfl | rfl <;> rfl) | (rcases hr with rfl | rfl | rfl | rfl <;> rfl))
      | (refine And.intro ?_ ?_ <;> simp only [List.length_map, List.length_append, List.length_cons, List.length_nil] <;> omega))
    · exact ⟨by dsimp only; rw [IntWalk.i64_in _ (by omega)]; rfl⟩
    · exact ⟨filled_set (map_get hx)⟩
  · have hge : xs.length ≤ k := by have := of_decide_eq_false h; omega
    exact ⟨filled_all (by omega)⟩
theorem s_laws_eqRowS (xs : List (TRow)) (hs : smallT 1048576 (.lst 3 (xs.map TRow.tr))) : Sim.Spec Try.prog 50 [tvL 3 (xs.map TRow.tr), tvL 3 (xs.map TRow.tr)] (rB true) := by
  have hl := small_len hs
  have hlen : (xs.map TRow.tr).length = xs.length := by simp
  refine spec_of_W hΓ hmix Try.func50 rfl (by decide) rfl ?_
  repeat' (
    (conv => whnf)
    first
    | refine Or.inl ?_
    | refine And.intro (Obl.out (?_ : Obl _)) ?_
    | refine ifB_intro (fun h => ?_) (fun h => ?_)
    | refine Exists.intro _ (And.intro rfl ?_)
    | ((with_reducible show _ = _); rfl))
  all_goals try (
    (with_reducible refine Obl.mk ?_)
    first
    | ((with_reducible show regOk _ _ = true); kernel_rfl)
    | rfl
    | exact trivial
    | ((repeat' (first | exact trivial | refine And.intro ?_ ?_)); done)
    | decide
    | (intro r hr; simp only [List.mem_cons, List.not_mem_nil, or_false] at hr; first | (subst hr; rfl) | (rcases hr with rfl | rfl <;> rfl) | (rcases hr with rfl | rfl | rfl <;> rfl) | (rcases hr with rfl | rfl | rfl | rfl <;> rfl))
    | (refine And.intro ?_ ?_ <;> simp only [List.length_map, List.length_append, List.length_cons, List.length_nil] <;> omega))
  · simp at h
  conv => whnf
  refine ⟨{ k : Nat // k ≤ xs.length }, fun k => ⟨[(0, .r (.c (.t (.lst 3 (xs.map TRow.tr))))), (1, .r (.c (.t (.lst 3 (xs.map TRow.tr))))), (5, tI .i64 (k.1 : Int))], [], []⟩, fun k => xs.length - k.1, ⟨0, by omega⟩, ?_, ?_⟩
  · skip
    repeat' (
      (conv => whnf)
      first
      | refine Or.inl ?_
      | refine And.intro (Obl.out (?_ : Obl _)) ?_
      | refine ifB_intro (fun h => ?_) (fun h => ?_)
      | refine Exists.intro _ (And.intro rfl ?_)
      | ((with_reducible show _ = _); rfl))
    all_goals try (
      (with_reducible refine Obl.mk ?_)
      first
      | ((with_reducible show regOk _ _ = true); kernel_rfl)
      | rfl
      | exact trivial
      | ((repeat' (first | exact trivial | refine And.intro ?_ ?_)); done)
      | decide
      | (intro r hr; simp only [List.mem_cons, List.not_mem_nil, or_false] at hr; first | (subst hr; rfl) | (rcases hr with rfl | rfl <;> rfl) | (rcases hr with rfl | rfl | rfl <;> rfl) | (rcases hr with rfl | rfl | rfl | rfl <;> rfl))
      | (refine And.intro ?_ ?_ <;> simp only [List.length_map, List.length_append, List.length_cons, List.length_nil] <;> omega))
  intro ⟨k, hk⟩
  dsimp only
  repeat' (
    (conv => whnf)
    first
    | refine Or.inl ?_
    | refine And.intro (Obl.out (?_ : Obl _)) ?_
    | refine ifB_intro (fun h => ?_) (fun h => ?_)
    | refine Exists.intro _ (And.intro rfl ?_)
    | ((with_reducible show _ = _); rfl))
  all_goals try (
    (with_reducible refine Obl.mk ?_)
    first
    | ((with_reducible show regOk _ _ = true); kernel_rfl)
    | rfl
    | exact trivial
    | ((repeat' (first | exact trivial | refine And.intro ?_ ?_)); done)
    | decide
    | (intro r hr; simp only [List.mem_cons, List.not_mem_nil, or_false] at hr; first | (subst hr; rfl) | (rcases hr with rfl | rfl <;> rfl) | (rcases hr with rfl | rfl | rfl <;> rfl) | (rcases hr with rfl | rfl | rfl | rfl <;> rfl))
    | (refine And.intro ?_ ?_ <;> simp only [List.length_map, List.length_append, List.length_cons, List.length_nil] <;> omega))
  · have hlt : k < xs.length := by have := of_decide_eq_true h; omega
    obtain ⟨x, hx⟩ := get_of_lt hlt
    have hsr := smallRs_map hs (List.mem_of_getElem? hx)
    conv => whnf
    refine ⟨k, _, rfl, map_get hx, ?_⟩
    repeat' (
      (conv => whnf)
      first
      | refine Or.inl ?_
      | refine And.intro (Obl.out (?_ : Obl _)) ?_
      | refine ifB_intro (fun h => ?_) (fun h => ?_)
      | refine call_intro ((s_laws_eqRow x hsr)) (And.intro (And.intro rfl (And.intro rfl (And.intro rfl trivial))) (And.intro (And.intro rfl (And.intro rfl (And.intro rfl trivial))) trivial)) ?_
      | refine Exists.intro _ (And.intro rfl ?_)
      | ((with_reducible show _ = _); rfl))
    all_goals try (
      (with_reducible refine Obl.mk ?_)
      first
      | ((with_reducible show regOk _ _ = true); kernel_rfl)
      | rfl
      | exact trivial
      | ((repeat' (first | exact trivial | refine And.intro ?_ ?_)); done)
      | decide
      | (intro r hr; simp only [List.mem_cons, List.not_mem_nil, or_false] at hr; first | (subst hr; rfl) | (rcases hr with rfl | rfl <;> rfl) | (rcases hr with rfl | rfl | rfl <;> rfl) | (rcases hr with rfl | rfl | rfl | rfl <;> rfl))
      | (refine And.intro ?_ ?_ <;> simp only [List.length_map, List.length_append, List.length_cons, List.length_nil] <;> omega))
    conv => whnf
    refine ⟨k, _, rfl, map_get hx, ?_⟩
    repeat' (
      (conv => whnf)
      first
      | refine Or.inl ?_
      | refine And.intro (Obl.out (?_ : Obl _)) ?_
      | refine ifB_intro (fun h => ?_) (fun h => ?_)
      | refine call_intro ((s_laws_eqRow x hsr)) (And.intro (And.intro rfl (And.intro rfl (And.intro rfl trivial))) (And.intro (And.intro rfl (And.intro rfl (And.intro rfl trivial))) trivial)) ?_
      | refine Exists.intro _ (And.intro rfl ?_)
      | ((with_reducible show _ = _); rfl))
    all_goals try (
      (with_reducible refine Obl.mk ?_)
      first
      | ((with_reducible show regOk _ _ = true); kernel_rfl)
      | rfl
      | exact trivial
      | ((repeat' (first | exact trivial | refine And.intro ?_ ?_)); done)
      | decide
      | (intro r hr; simp only [List.mem_cons, List.not_mem_nil, or_false] at hr; first | (subst hr; rfl) | (rcases hr with rfl | rfl <;> rfl) | (rcases hr with rfl | rfl | rfl <;> rfl) | (rcases hr with rfl | rfl | rfl | rfl <;> rfl))
      | (refine And.intro ?_ ?_ <;> simp only [List.length_map, List.length_append, List.length_cons, List.length_nil] <;> omega))
    all_goals try (exfalso; simp at h; done)
    conv => whnf
    refine ⟨⟨k + 1, by omega⟩, ?_, by dsimp only; omega⟩
    repeat' (
      (conv => whnf)
      first
      | refine Or.inl ?_
      | refine And.intro (Obl.out (?_ : Obl _)) ?_
      | refine ifB_intro (fun h => ?_) (fun h => ?_)
      | refine Exists.intro _ (And.intro rfl ?_)
      | ((with_reducible show _ = _); rfl))
    all_goals try (
      (with_reducible refine Obl.mk ?_)
      first
      | ((with_reducible show regOk _ _ = true); kernel_rfl)
      | rfl
      | exact trivial
      | ((repeat' (first | exact trivial | refine And.intro ?_ ?_)); done)
      | decide
      | (intro r hr; simp only [List.mem_cons, List.not_mem_nil, or_false] at hr; first | (subst hr; rfl) | (rcases hr with rfl | rfl <;> rfl) | (rcases hr with rfl | rfl | rfl <;> rfl) | (rcases hr with rfl | rfl | rfl | rfl <;> rfl))
      | (refine And.intro ?_ ?_ <;> simp only [List.length_map, List.length_append, List.length_cons, List.length_nil] <;> omega))
    exact ⟨by dsimp only; rw [IntWalk.i64_in _ (by omega)]; rfl⟩
theorem s_laws_szRowS (xs : List (TRow)) (hw : xs.length ≤ maxLen ∧ ∀ y ∈ xs, y.wf) (left : Int) (hle0 : 0 ≤ left) (hle1 : left ≤ 1048576) : Sim.Spec Try.prog 85 [tvL 3 (xs.map TRow.tr), tvI left] (rI (szT (.lst 3 (xs.map TRow.tr)) left)) := by
  have hl2 : (xs.map TRow.tr).length ≤ 9223372036854775807 := by simpa [maxLen] using hw.1
  have hlen : (xs.map TRow.tr).length = xs.length := by simp
  rw [szT]
  refine spec_of_W hΓ hmix Try.func85 rfl (by decide) rfl ?_
  repeat' (
    (conv => whnf)
    first
    | refine Or.inl ?_
    | refine And.intro (Obl.out (?_ : Obl _)) ?_
    | refine ifB_intro (fun h => ?_) (fun h => ?_)
    | refine Exists.intro _ (And.intro rfl ?_)
    | ((with_reducible show _ = _); rfl))
  all_goals try (
    (with_reducible refine Obl.mk ?_)
    first
    | ((with_reducible show regOk _ _ = true); kernel_rfl)
    | rfl
    | exact trivial
    | ((repeat' (first | exact trivial | refine And.intro ?_ ?_)); done)
    | decide
    | (intro r hr; simp only [List.mem_cons, List.not_mem_nil, or_false] at hr; first | (subst hr; rfl) | (rcases hr with rfl | rfl <;> rfl) | (rcases hr with rfl | rfl | rfl <;> rfl) | (rcases hr with rfl | rfl | rfl | rfl <;> rfl))
    | (refine And.intro ?_ ?_ <;> simp only [List.length_map, List.length_append, List.length_cons, List.length_nil] <;> omega))
  all_goals refine ⟨congrArg (Tr.int _) ?_⟩
  · have h2 := of_decide_eq_true h
    rw [IntWalk.i64_in _ (by omega)] at h2
    rw [if_pos h2]
  · have h2 := of_decide_eq_false h
    rw [IntWalk.i64_in _ (by omega)] at h2 ⊢
    rw [if_neg h2, szRs_plain _ _ (fun r hr c hc => ?_) (by omega)]
    obtain ⟨x, _, rfl⟩ := List.mem_map.1 hr
    simp only [TRow.tr, List.mem_cons, List.not_mem_nil, or_false] at hc
    rcases hc with rfl | rfl | rfl <;> trivial
theorem s_laws_toInline (x : TInline) (hs : smallR 1048576 x.tr) : Sim.Spec Try.prog 123 [.agg x.tr] (.r (.agg (x.tr.map resC))) := by
  simp only [TInline.tr, smallR] at hs
  refine spec_of_W hΓ hmix Try.func123 rfl (by decide) rfl ?_
  repeat' (
    (conv => whnf)
    first
    | refine Or.inl ?_
    | refine And.intro (Obl.out (?_ : Obl _)) ?_
    | refine ifB_intro (fun h => ?_) (fun h => ?_)
    | refine Exists.intro _ (And.intro rfl ?_)
    | ((with_reducible show _ = _); rfl))
  all_goals try (
    (with_reducible refine Obl.mk ?_)
    first
    | ((with_reducible show regOk _ _ = true); kernel_rfl)
    | rfl
    | exact trivial
    | ((repeat' (first | exact trivial | refine And.intro ?_ ?_)); done)
    | decide
    | (intro r hr; simp only [List.mem_cons, List.not_mem_nil, or_false] at hr; first | (subst hr; rfl) | (rcases hr with rfl | rfl <;> rfl) | (rcases hr with rfl | rfl | rfl <;> rfl) | (rcases hr with rfl | rfl | rfl | rfl <;> rfl))
    | (refine And.intro ?_ ?_ <;> simp only [List.length_map, List.length_append, List.length_cons, List.length_nil] <;> omega))
theorem s_laws_eqInline (x : TInline) (hs : smallR 1048576 x.tr) : Sim.Spec Try.prog 124 [.agg x.tr, .agg x.tr] (rB true) := by
  simp only [TInline.tr, smallR] at hs
  refine spec_of_W hΓ hmix Try.func124 rfl (by decide) rfl ?_
  repeat' (
    (conv => whnf)
    first
    | refine Or.inl ?_
    | refine And.intro (Obl.out (?_ : Obl _)) ?_
    | refine ifB_intro (fun h => ?_) (fun h => ?_)
    | refine Exists.intro _ (And.intro rfl ?_)
    | ((with_reducible show _ = _); rfl))
  all_goals try (
    (with_reducible refine Obl.mk ?_)
    first
    | ((with_reducible show regOk _ _ = true); kernel_rfl)
    | rfl
    | exact trivial
    | ((repeat' (first | exact trivial | refine And.intro ?_ ?_)); done)
    | decide
    | (intro r hr; simp only [List.mem_cons, List.not_mem_nil, or_false] at hr; first | (subst hr; rfl) | (rcases hr with rfl | rfl <;> rfl) | (rcases hr with rfl | rfl | rfl <;> rfl) | (rcases hr with rfl | rfl | rfl | rfl <;> rfl))
    | (refine And.intro ?_ ?_ <;> simp only [List.length_map, List.length_append, List.length_cons, List.length_nil] <;> omega))
  all_goals simp at *
theorem s_laws_szInline (x : TInline) (hw : x.wf) (left : Int) (hle0 : 0 ≤ left) (hle1 : left ≤ 1048576) : Sim.Spec Try.prog 122 [.agg x.tr, tvI left] (rI (szR x.tr left)) := by
  simp only [TInline.wf, maxLen] at hw
  obtain ⟨Z, hz0⟩ : ∃ Z, Z = szR x.tr left := ⟨_, rfl⟩
  have hz := hz0
  rw [TInline.tr] at hz
  refine spec_of_W hΓ hmix Try.func122 rfl (by decide) rfl ?_
  rw [szR_int (by omega)] at hz
  rw [szR_int (by omega)] at hz
  rw [szR_int (by omega)] at hz
  rw [szR_int (by omega)] at hz
  repeat' (
    (conv => whnf)
    first
    | refine Or.inl ?_
    | refine And.intro (Obl.out (?_ : Obl _)) ?_
    | refine ifB_intro (fun h => ?_) (fun h => ?_)
    | refine Exists.intro _ (And.intro rfl ?_)
    | ((with_reducible show _ = _); rfl))
  all_goals try (
    (with_reducible refine Obl.mk ?_)
    first
    | ((with_reducible show regOk _ _ = true); kernel_rfl)
    | rfl
    | exact trivial
    | ((repeat' (first | exact trivial | refine And.intro ?_ ?_)); done)
    | decide
    | (intro r hr; simp only [List.mem_cons, List.not_mem_nil, or_false] at hr; first | (subst hr; rfl) | (rcases hr with rfl | rfl <;> rfl) | (rcases hr with rfl | rfl | rfl <;> rfl) | (rcases hr with rfl | rfl | rfl | rfl <;> rfl))
    | (refine And.intro ?_ ?_ <;> simp only [List.length_map, List.length_append, List.length_cons, List.length_nil] <;> omega))
  · have h2 := of_decide_eq_true h
    rw [IntWalk.i64_in _ (by omega)] at h2
    exact ⟨congrArg (Tr.int _) (hz0.symm.trans (hz.trans (szR_str_neg h2))).symm⟩
  have g1 := of_decide_eq_false h
  rw [IntWalk.i64_in _ (by omega)] at g1
  clear h
  rw [IntWalk.i64_in (left - x.fName.length) (by omega)]
  rw [szR_str g1] at hz
  all_goals exact ⟨congrArg (Tr.int _) ((hz0.symm.trans (hz.trans (szR_nil _))).symm)⟩
theorem s_laws_toInlineS (xs : List (TInline)) (hs : smallT 1048576 (.lst 5 (xs.map TInline.tr))) : Sim.Spec Try.prog 41 [tvL 5 (xs.map TInline.tr)] (rL 5 (xs.map TInline.tr)) := by
  have hl := small_len hs
  have hlen : (xs.map TInline.tr).length = xs.length := by simp
  refine spec_of_W hΓ hmix Try.func41 rfl (by decide) rfl ?_
  repeat' (
    (conv => whnf)
    first
    | refine Or.inl ?_
    | refine And.intro (Obl.out (?_ : Obl _)) ?_
    | refine ifB_intro (fun h => ?_) (fun h => ?_)
    | refine Exists.intro _ (And.intro rfl ?_)
    | ((with_reducible show _ = _); rfl))
  all_goals try (
    (with_reducible refine Obl.mk ?_)
    first
    | ((with_reducible show regOk _ _ = true); kernel_rfl)
    | rfl
    | exact trivial
    | ((repeat' (first | exact trivial | refine And.intro ?_ ?_)); done)
    | decide
    | (intro r hr; simp only [List.mem_cons, List.not_mem_nil, or_false] at hr; first | (subst hr; rfl) | (rcases hr with rfl | rfl <;> rfl) | (rcases hr with rfl | rfl | rfl <;> rfl) | (rcases hr with rfl | rfl | rfl | rfl <;> rfl))
    | (refine And.intro ?_ ?_ <;> simp only [List.length_map, List.length_append, List.length_cons, List.length_nil] <;> omega))
  · exact ⟨by omega⟩
  · exact ⟨by dsimp only; omega⟩
  repeat' (
    (conv => whnf)
    first
    | refine Or.inl ?_
    | refine And.intro (Obl.out (?_ : Obl _)) ?_
    | refine ifB_intro (fun h => ?_) (fun h => ?_)
    | refine Exists.intro _ (And.intro rfl ?_)
    | ((with_reducible show _ = _); rfl))
  all_goals try (
    (with_reducible refine Obl.mk ?_)
    first
    | ((with_reducible show regOk _ _ = true); kernel_rfl)
    | rfl
    | exact trivial
    | ((repeat' (first | exact trivial | refine And.intro ?_ ?_)); done)
    | decide
    | (intro r hr; simp only [List.mem_cons, List.not_mem_nil, or_false] at hr; first | (subst hr; rfl) | (rcases hr with rfl | rfl <;> rfl) | (rcases hr with rfl | rfl | rfl <;> rfl) | (rcases hr with rfl | rfl | rfl | rfl <;> rfl))
    | (refine And.intro ?_ ?_ <;> simp only [List.length_map, List.length_append, List.length_cons, List.length_nil] <;> omega))
  conv => whnf
  refine ⟨{ k : Nat // k ≤ xs.length }, fun k => ⟨[(0, .r (.c (.t (.lst 5 (xs.map TInline.tr))))), (3, .r (.c (.own (3, 0, 0)))), (4, tI .i64 (k.1 : Int))], [((3, 0, 0), some (.arr true 5 (filled (xs.map TInline.tr) [.int .i64 0, .int .i64 0, .int .i64 0, .int .i64 0, .str []] k.1)))], [3]⟩, fun k => xs.length - k.1, ⟨0, by omega⟩, ?_, ?_⟩
  · skip
    repeat' (
      (conv => whnf)
      first
      | refine Or.inl ?_
      | refine And.intro (Obl.out (?_ : Obl _)) ?_
      | refine ifB_intro (fun h => ?_) (fun h => ?_)
      | refine Exists.intro _ (And.intro rfl ?_)
      | ((with_reducible show _ = _); rfl))
    all_goals try (
      (with_reducible refine Obl.mk ?_)
      first
      | ((with_reducible show regOk _ _ = true); kernel_rfl)
      | rfl
      | exact trivial
      | ((repeat' (first | exact trivial | refine And.intro ?_ ?_)); done)
      | decide
      | (intro r hr; simp only [List.mem_cons, List.not_mem_nil, or_false] at hr; first | (subst hr; rfl) | (rcases hr with rfl | rfl <;> rfl) | (rcases hr with rfl | rfl | rfl <;> rfl) | (rcases hr with rfl | rfl | rfl | rfl <;> rfl))
      | (refine And.intro ?_ ?_ <;> simp only [List.length_map, List.length_append, List.length_cons, List.length_nil] <;> omega))
    all_goals exact ⟨by rw [← filled_zero, hlen]⟩
  intro ⟨k, hk⟩
  dsimp only
  repeat' (
    (conv => whnf)
    first
    | refine Or.inl ?_
    | refine And.intro (Obl.out (?_ : Obl _)) ?_
    | refine ifB_intro (fun h => ?_) (fun h => ?_)
    | refine Exists.intro _ (And.intro rfl ?_)
    | ((with_reducible show _ = _); rfl))
  all_goals try (
    (with_reducible refine Obl.mk ?_)
    first
    | ((with_reducible show regOk _ _ = true); kernel_rfl)
    | rfl
    | exact trivial
    | ((repeat' (first | exact trivial | refine And.intro ?_ ?_)); done)
    | decide
    | (intro r hr; simp only [List.mem_cons, List.not_mem_nil, or_false] at hr; first | (subst hr; rfl) | (rcases hr with rfl | rfl <;> rfl) | (rcases hr with rfl | rfl | rfl <;> rfl) | (rcases hr with rfl | rfl | rfl | rfl <;> rfl))
    | (refine And.intro ?_ ?_ <;> simp only [List.length_map, List.length_append, List.length_cons, List.length_nil] <;> omega))
  · have hlt : k < xs.length := by have := of_decide_eq_true h; omega
    obtain ⟨x, hx⟩ := get_of_lt hlt
    have hsr := smallRs_map hs (List.mem_of_getElem? hx)
    conv => whnf
    refine ⟨k, _, rfl, map_get hx, ?_⟩
    repeat' (
      (conv => whnf)
      first
      | refine Or.inl ?_
      | refine And.intro (Obl.out (?_ : Obl _)) ?_
      | refine ifB_intro (fun h => ?_) (fun h => ?_)
      | refine call_intro ((s_laws_toInline x hsr)) (And.intro (And.intro rfl (And.intro rfl (And.intro rfl (And.intro rfl (And.intro rfl trivial))))) trivial) ?_
      | refine Exists.intro _ (And.intro rfl ?_)
      | ((with_reducible show _ = _); rfl))
    all_goals try (
      (with_reducible refine Obl.mk ?_)
      first
      | ((with_reducible show regOk _ _ = true); kernel_rfl)
      | rfl
      | exact trivial
      | ((repeat' (first | exact trivial | refine And.intro ?_ ?_)); done)
      | decide
      | (intro r hr; simp only [List.mem_cons, List.not_mem_nil, or_false] at hr; first | (subst hr; rfl) | (rcases hr with rfl | rfl <;> rfl) | (rcases hr with rfl | rfl | rfl <;> rfl) | (rcases hr with rfl | rfl | rfl | rfl <;> rfl))
      | (refine And.intro ?_ ?_ <;> simp only [List.length_map, List.length_append, List.length_cons, List.length_nil] <;> omega))
    · exact ⟨by rw [filled_len (by omega)]; omega⟩
    conv => whnf
    refine ⟨_, filled_get (by omega), ?_⟩
    repeat' (
      (conv => whnf)
      first
      | refine Or.inl ?_
      | refine And.intro (Obl.out (?_ : Obl _)) ?_
      | refine ifB_intro (fun h => ?_) (fun h => ?_)
      | refine Exists.intro _ (And.intro rfl ?_)
      | ((with_reducible show _ = _); rfl))
    all_goals try (
      (with_reducible refine Obl.mk ?_)
      first
      | ((with_reducible show regOk _ _ = true); kernel_rfl)
      | rfl
      | exact trivial
      | ((repeat' (first | exact trivial | refine And.intro ?_ ?_)); done)
      | decide
      | (intro r hr; simp only [List.mem_cons, List.not_mem_nil, or_false] at hr; first | (subst hr; rfl) | (rcases hr with rfl | rfl <;> rfl) | (rcases hr with rfl | rfl | rfl <;> rfl) | (rcases hr with rfl | rfl | rfl | rfl <;> rfl))
      | (refine And.intro ?_ ?_ <;> simp only [List.length_map, List.length_append, List.length_cons, List.length_nil] <;> omega))
    conv => whnf
    refine ⟨⟨k + 1, by omega⟩, ?_, by dsimp only; omega⟩
    repeat' (
      (conv => whnf)
      first
      | refine Or.inl ?_
      | refine And.intro (Obl.out (?_ : Obl _)) ?_
      | refine ifB_intro (fun h => ?_) (fun h => ?_)
      | refine Exists.intro _ (And.intro rfl ?_)
      | ((with_reducible show _ = _); rfl))
    all_goals try (
      (with_reducible refine Obl.mk ?_)
      first
      | ((with_reducible show regOk _ _ = true); kernel_rfl)
      | rfl
      | exact trivial
      | ((repeat' (first | exact trivial | refine And.intro ?_ ?_)); done)
      | decide
      | (intro r hr; simp only [List.mem_cons, List.not_mem_nil, or_false] at hr; first | (subst hr; rfl) | (rcases hr with rfl | rfl <;> rfl) | (rcases hr with rfl | rfl | rfl <;> rfl) | (rcases hr with rfl | rfl | rfl | rfl <;> rfl))
      | (refine And.intro ?_ ?_ <;> simp only [List.length_map, List.length_append, List.length_cons, List.length_nil] <;> omega))
    · exact ⟨by dsimp only; rw [IntWalk.i64_in _ (by omega)]; rfl⟩
    · exact ⟨filled_set (map_get hx)⟩
  · have hge : xs.length ≤ k := by have := of_decide_eq_false h; omega
    exact ⟨filled_all (by omega)⟩
theorem s_laws_eqInlineS (xs : List (TInline)) (hs : smallT 1048576 (.lst 5 (xs.map TInline.tr))) : Sim.Spec Try.prog 43 [tvL 5 (xs.map TInline.tr), tvL 5 (xs.map TInline.tr)] (rB true) := by
  have hl := small_len hs
  have hlen : (xs.map TInline.tr).length = xs.length := by simp
  refine spec_of_W hΓ hmix Try.func43 rfl (by decide) rfl ?_
  repeat' (
    (conv => whnf)
    first
    | refine Or.inl ?_
    | refine And.intro (Obl.out (?_ : Obl _)) ?_
    | refine ifB_intro (fun h => ?_) (fun h => ?_)
    | refine Exists.intro _ (And.intro rfl ?_)
    | ((with_reducible show _ = _); rfl))
  all_goals try (
    (with_reducible refine Obl.mk ?_)
    first
    | ((with_reducible show regOk _ _ = true); kernel_rfl)
    | rfl
    | exact trivial
    | ((repeat' (first | exact trivial | refine And.intro ?_ ?_)); done)
    | decide
    | (intro r hr; simp only [List.mem_cons, List.not_mem_nil, or_false] at hr; first | (subst hr; rfl) | (rcases hr with rfl | rfl <;> rfl) | (rcases hr with rfl | rfl | rfl <;> rfl) | (rcases hr with rfl | rfl | rfl | rfl <;> rfl))
    | (refine And.intro ?_ ?_ <;> simp only [List.length_map, List.length_append, List.length_cons, List.length_nil] <;> omega))
  · simp at h
  conv => whnf
  refine ⟨{ k : Nat // k ≤ xs.length }, fun k => ⟨[(0, .r (.c (.t (.lst 5 (xs.map TInline.tr))))), (1, .r (.c (.t (.lst 5 (xs.map TInline.tr))))), (5, tI .i64 (k.1 : Int))], [], []⟩, fun k => xs.length - k.1, ⟨0, by omega⟩, ?_, ?_⟩
  · skip
    repeat' (
      (conv => whnf)
      first
      | refine Or.inl ?_
      | refine And.intro (Obl.out (?_ : Obl _)) ?_
      | refine ifB_intro (fun h => ?_) (fun h => ?_)
      | refine Exists.intro _ (And.intro rfl ?_)
      | ((with_reducible show _ = _); rfl))
    all_goals try (
      (with_reducible refine Obl.mk ?_)
      first
      | ((with_reducible show regOk _ _ = true); kernel_rfl)
      | rfl
      | exact trivial
      | ((repeat' (first | exact trivial | refine And.intro ?_ ?_)); done)
      | decide
      | (intro r hr; simp only [List.mem_cons, List.not_mem_nil, or_false] at hr; first | (subst hr; rfl) | (rcases hr with rfl | rfl <;> rfl) | (rcases hr with rfl | rfl | rfl <;> rfl) | (rcases hr with rfl | rfl | rfl | rfl <;> rfl))
      | (refine And.intro ?_ ?_ <;> simp only [List.length_map, List.length_append, List.length_cons, List.length_nil] <;> omega))
  intro ⟨k, hk⟩
  dsimp only
  repeat' (
    (conv => whnf)
    first
    | refine Or.inl ?_
    | refine And.intro (Obl.out (?_ : Obl _)) ?_
    | refine ifB_intro (fun h => ?_) (fun h => ?_)
    | refine Exists.intro _ (And.intro rfl ?_)
    | ((with_reducible show _ = _); rfl))
  all_goals try (
    (with_reducible refine Obl.mk ?_)
    first
    | ((with_reducible show regOk _ _ = true); kernel_rfl)
    | rfl
    | exact trivial
    | ((repeat' (first | exact trivial | refine And.intro ?_ ?_)); done)
    | decide
    | (intro r hr; simp only [List.mem_cons, List.not_mem_nil, or_false] at hr; first | (subst hr; rfl) | (rcases hr with rfl | rfl <;> rfl) | (rcases hr with rfl | rfl | rfl <;> rfl) | (rcases hr with rfl | rfl | rfl | rfl <;> rfl))
    | (refine And.intro ?_ ?_ <;> simp only [List.length_map, List.length_append, List.length_cons, List.length_nil] <;> omega))
  · have hlt : k < xs.length := by have := of_decide_eq_true h; omega
    obtain ⟨x, hx⟩ := get_of_lt hlt
    have hsr := smallRs_map hs (List.mem_of_getElem? hx)
    conv => whnf
    refine ⟨k, _, rfl, map_get hx, ?_⟩
    repeat' (
      (conv => whnf)
      first
      | refine Or.inl ?_
      | refine And.intro (Obl.out (?_ : Obl _)) ?_
      | refine ifB_intro (fun h => ?_) (fun h => ?_)
      | refine call_intro ((s_laws_eqInline x hsr)) (And.intro (And.intro rfl (And.intro rfl (And.intro rfl (And.intro rfl (And.intro rfl trivial))))) (And.intro (And.intro rfl (And.intro rfl (And.intro rfl (And.intro rfl (And.intro rfl trivial))))) trivial)) ?_
      | refine Exists.intro _ (And.intro rfl ?_)
      | ((with_reducible show _ = _); rfl))
    all_goals try (
      (with_reducible refine Obl.mk ?_)
      first
      | ((with_reducible show regOk _ _ = true); kernel_rfl)
      | rfl
      | exact trivial
      | ((repeat' (first | exact trivial | refine And.intro ?_ ?_)); done)
      | decide
      | (intro r hr; simp only [List.mem_cons, List.not_mem_nil, or_false] at hr; first | (subst hr; rfl) | (rcases hr with rfl | rfl <;> rfl) | (rcases hr with rfl | rfl | rfl <;> rfl) | (rcases hr with rfl | rfl | rfl | rfl <;> rfl))
      | (refine And.intro ?_ ?_ <;> simp only [List.length_map, List.length_append, List.length_cons, List.length_nil] <;> omega))
    conv => whnf
    refine ⟨k, _, rfl, map_get hx, ?_⟩
    repeat' (
      (conv => whnf)
      first
      | refine Or.inl ?_
      | refine And.intro (Obl.out (?_ : Obl _)) ?_
      | refine ifB_intro (fun h => ?_) (fun h => ?_)
      | refine call_intro ((s_laws_eqInline x hsr)) (And.intro (And.intro rfl (And.intro rfl (And.intro rfl (And.intro rfl (And.intro rfl trivial))))) (And.intro (And.intro rfl (And.intro rfl (And.intro rfl (And.intro rfl (And.intro rfl trivial))))) trivial)) ?_
      | refine Exists.intro _ (And.intro rfl ?_)
      | ((with_reducible show _ = _); rfl))
    all_goals try (
      (with_reducible refine Obl.mk ?_)
      first
      | ((with_reducible show regOk _ _ = true); kernel_rfl)
      | rfl
      | exact trivial
      | ((repeat' (first | exact trivial | refine And.intro ?_ ?_)); done)
      | decide
      | (intro r hr; simp only [List.mem_cons, List.not_mem_nil, or_false] at hr; first | (subst hr; rfl) | (rcases hr with rfl | rfl <;> rfl) | (rcases hr with rfl | rfl | rfl <;> rfl) | (rcases hr with rfl | rfl | rfl | rfl <;> rfl))
      | (refine And.intro ?_ ?_ <;> simp only [List.length_map, List.length_append, List.length_cons, List.length_nil] <;> omega))
    all_goals try (exfalso; simp at h; done)
    conv => whnf
    refine ⟨⟨k + 1, by omega⟩, ?_, by dsimp only; omega⟩
    repeat' (
      (conv => whnf)
      first
      | refine Or.inl ?_
      | refine And.intro (Obl.out (?_ : Obl _)) ?_
      | refine ifB_intro (fun h => ?_) (fun h => ?_)
      | refine Exists.intro _ (And.intro rfl ?_)
      | ((with_reducible show _ = _); rfl))
    all_goals try (
      (with_reducible refine Obl.mk ?_)
      first
      | ((with_reducible show regOk _ _ = true); kernel_rfl)
      | rfl
      | exact trivial
      | ((repeat' (first | exact trivial | refine And.intro ?_ ?_)); done)
      | decide
      | (intro r hr; simp only [List.mem_cons, List.not_mem_nil, or_false] at hr; first | (subst hr; rfl) | (rcases hr with rfl | rfl <;> rfl) | (rcases hr with rfl | rfl | rfl <;> rfl) | (rcases hr with rfl | rfl | rfl | rfl <;> rfl))
      | (refine And.intro ?_ ?_ <;> simp only [List.length_map, List.length_append, List.length_cons, List.length_nil] <;> omega))
    exact ⟨by dsimp only; rw [IntWalk.i64_in _ (by omega)]; rfl⟩
theorem s_laws_szInlineS (xs : List (TInline)) (hw : xs.length ≤ maxLen ∧ ∀ y ∈ xs, y.wf) (left : Int) (hle0 : 0 ≤ left) (hle1 : left ≤ 1048576) : Sim.Spec Try.prog 39 [tvL 5 (xs.map TInline.tr), tvI left] (rI (szT (.lst 5 (xs.map TInline.tr)) left)) := by
  have hl2 : (xs.map TInline.tr).length ≤ 9223372036854775807 := by simpa [maxLen] using hw.1
  have hlen : (xs.map TInline.tr).length = xs.length := by simp
  rw [szT]
  refine spec_of_W hΓ hmix Try.func39 rfl (by decide) rfl ?_
  repeat' (
    (conv => whnf)
    first
    | refine Or.inl ?_
    | refine And.intro (Obl.out (?_ : Obl _)) ?_
    | refine ifB_intro (fun h => ?_) (fun h => ?_)
    | refine Exists.intro _ (And.intro rfl ?_)
    | ((with_reducible show _ = _); rfl))
  all_goals try (
    (with_reducible refine Obl.mk ?_)
    first
    | ((with_reducible show regOk _ _ = true); kernel_rfl)
    | rfl
    | exact trivial
    | ((repeat' (first | exact trivial | refine And.intro ?_ ?_)); done)
    | decide
    | (intro r hr; simp only [List.mem_cons, List.not_mem_nil, or_false] at hr; first | (subst hr; rfl) | (rcases hr with rfl | rfl <;> rfl) | (rcases hr with rfl | rfl | rfl <;> rfl) | (rcases hr with rfl | rfl | rfl | rfl <;> rfl))
    | (refine And.intro ?_ ?_ <;> simp only [List.length_map, List.length_append, List.length_cons, List.length_nil] <;> omega))
  · refine ⟨congrArg (Tr.int _) ?_⟩
    have h2 := of_decide_eq_true h
    rw [IntWalk.i64_in _ (by omega)] at h2
    rw [if_pos h2]
  have h2 := of_decide_eq_false h
  rw [IntWalk.i64_in _ (by omega)] at h2 ⊢
  rw [if_neg h2]
  conv => whnf
  refine ⟨{ q : Nat × Int // q.1 ≤ xs.length ∧ 0 ≤ q.2 ∧ q.2 ≤ 1048576 ∧ szRs ((xs.drop q.1).map TInline.tr) q.2 = szRs (xs.map TInline.tr) (left - (xs.map TInline.tr).length) }, fun q => ⟨[(0, .r (.c (.t (.lst 5 (xs.map TInline.tr))))), (1, tI .i64 q.1.2), (5, tI .i64 (q.1.1 : Int))], [], []⟩, fun q => xs.length - q.1.1, ⟨(0, left - (xs.map TInline.tr).length), by simp, by dsimp only; omega, by dsimp only; omega, by simp⟩, ?_, ?_⟩
  · skip
    repeat' (
      (conv => whnf)
      first
      | refine Or.inl ?_
      | refine And.intro (Obl.out (?_ : Obl _)) ?_
      | refine ifB_intro (fun h => ?_) (fun h => ?_)
      | refine Exists.intro _ (And.intro rfl ?_)
      | ((with_reducible show _ = _); rfl))
    all_goals try (
      (with_reducible refine Obl.mk ?_)
      first
      | ((with_reducible show regOk _ _ = true); kernel_rfl)
      | rfl
      | exact trivial
      | ((repeat' (first | exact trivial | refine And.intro ?_ ?_)); done)
      | decide
      | (intro r hr; simp only [List.mem_cons, List.not_mem_nil, or_false] at hr; first | (subst hr; rfl) | (rcases hr with rfl | rfl <;> rfl) | (rcases hr with rfl | rfl | rfl <;> rfl) | (rcases hr with rfl | rfl | rfl | rfl <;> rfl))
      | (refine And.intro ?_ ?_ <;> simp only [List.length_map, List.length_append, List.length_cons, List.length_nil] <;> omega))
  intro ⟨⟨k, lk⟩, hk, h0, h1, hsz⟩
  dsimp only at hk h0 h1 hsz ⊢
  repeat' (
    (conv => whnf)
    first
    | refine Or.inl ?_
    | refine And.intro (Obl.out (?_ : Obl _)) ?_
    | refine ifB_intro (fun h => ?_) (fun h => ?_)
    | refine Exists.intro _ (And.intro rfl ?_)
    | ((with_reducible show _ = _); rfl))
  all_goals try (
    (with_reducible refine Obl.mk ?_)
    first
    | ((with_reducible show regOk _ _ = true); kernel_rfl)
    | rfl
    | exact trivial
    | ((repeat' (first | exact trivial | refine And.intro ?_ ?_)); done)
    | decide
    | (intro r hr; simp only [List.mem_cons, List.not_mem_nil, or_false] at hr; first | (subst hr; rfl) | (rcases hr with rfl | rfl <;> rfl) | (rcases hr with rfl | rfl | rfl <;> rfl) | (rcases hr with rfl | rfl | rfl | rfl <;> rfl))
    | (refine And.intro ?_ ?_ <;> simp only [List.length_map, List.length_append, List.length_cons, List.length_nil] <;> omega))
  · have hlt : k < xs.length := by have := of_decide_eq_true h; omega
    obtain ⟨x, hx⟩ := get_of_lt hlt
    have hxw := hw.2 x (List.mem_of_getElem? hx)
    rw [drop_at hx, List.map_cons, szRs] at hsz
    conv => whnf
    refine ⟨k, _, rfl, map_get hx, ?_⟩
    repeat' (
      (conv => whnf)
      first
      | refine Or.inl ?_
      | refine And.intro (Obl.out (?_ : Obl _)) ?_
      | refine ifB_intro (fun h => ?_) (fun h => ?_)
      | refine call_intro ((s_laws_szInline x hxw lk h0 h1)) (And.intro (And.intro rfl (And.intro rfl (And.intro rfl (And.intro rfl (And.intro rfl trivial))))) (And.intro rfl trivial)) ?_
      | refine Exists.intro _ (And.intro rfl ?_)
      | ((with_reducible show _ = _); rfl))
    all_goals try (
      (with_reducible refine Obl.mk ?_)
      first
      | ((with_reducible show regOk _ _ = true); kernel_rfl)
      | rfl
      | exact trivial
      | ((repeat' (first | exact trivial | refine And.intro ?_ ?_)); done)
      | decide
      | (intro r hr; simp only [List.mem_cons, List.not_mem_nil, or_false] at hr; first | (subst hr; rfl) | (rcases hr with rfl | rfl <;> rfl) | (rcases hr with rfl | rfl | rfl <;> rfl) | (rcases hr with rfl | rfl | rfl | rfl <;> rfl))
      | (refine And.intro ?_ ?_ <;> simp only [List.length_map, List.length_append, List.length_cons, List.length_nil] <;> omega))
    · refine ⟨congrArg (Tr.int _) ?_⟩
      rw [← hsz, if_pos (of_decide_eq_true h)]
    have h3 := of_decide_eq_false h
    rw [if_neg h3] at hsz
    have hsm := szR_small (L := 1048576) _ _ (Int.not_lt.1 h3) h1
    conv => whnf
    refine ⟨⟨(k + 1, _), by dsimp only; omega, by dsimp only; exact Int.not_lt.1 h3, by dsimp only; exact Int.le_trans hsm.2 h1, hsz⟩, ?_, by dsimp only; omega⟩
    repeat' (
      (conv => whnf)
      first
      | refine Or.inl ?_
      | refine And.intro (Obl.out (?_ : Obl _)) ?_
      | refine ifB_intro (fun h => ?_) (fun h => ?_)
      | refine Exists.intro _ (And.intro rfl ?_)
      | ((with_reducible show _ = _); rfl))
    all_goals try (
      (with_reducible refine Obl.mk ?_)
      first
      | ((with_reducible show regOk _ _ = true); kernel_rfl)
      | rfl
      | exact trivial
      | ((repeat' (first | exact trivial | refine And.intro ?_ ?_)); done)
      | decide
      | (intro r hr; simp only [List.mem_cons, List.not_mem_nil, or_false] at hr; first | (subst hr; rfl) | (rcases hr with rfl | rfl <;> rfl) | (rcases hr with rfl | rfl | rfl <;> rfl) | (rcases hr with rfl | rfl | rfl | rfl <;> rfl))
      | (refine And.intro ?_ ?_ <;> simp only [List.length_map, List.length_append, List.length_cons, List.length_nil] <;> omega))
    exact ⟨by dsimp only; rw [IntWalk.i64_in _ (by omega)]; rfl⟩
  · have hge : xs.length ≤ k := by have := of_decide_eq_false h; omega
    rw [List.drop_eq_nil_of_le hge, List.map_nil, szRs] at hsz
    exact ⟨congrArg (Tr.int _) hsz⟩
theorem s_laws_toDebug (x : TDebug) (hs : smallR 1048576 x.tr) : Sim.Spec Try.prog 24 [.agg x.tr] (.r (.agg (x.tr.map resC))) := by
  simp only [TDebug.tr, smallR] at hs
  refine spec_of_W hΓ hmix Try.func24 rfl (by decide) rfl ?_
  repeat' (
    (conv => whnf)
    first
    | refine Or.inl ?_
    | refine And.intro (Obl.out (?_ : Obl _)) ?_
    | refine ifB_intro (fun h => ?_) (fun h => ?_)
    | refine call_intro ((s_laws_toSymbolS x.fSymbols hs.2.1)) (And.intro rfl trivial) ?_
    | refine call_intro ((s_laws_toRuleS x.fRules hs.2.2.1)) (And.intro rfl trivial) ?_
    | refine call_intro ((s_laws_toRowS x.fRows hs.2.2.2.1)) (And.intro rfl trivial) ?_
    | refine call_intro ((s_laws_toInlineS x.fInlines hs.2.2.2.2.1)) (And.intro rfl trivial) ?_
    | refine Exists.intro _ (And.intro rfl ?_)
    | ((with_reducible show _ = _); rfl))
  all_goals try (
    (with_reducible refine Obl.mk ?_)
    first
    | ((with_reducible show regOk _ _ = true); kernel_rfl)
    | rfl
    | exact trivial
    | ((repeat' (first | exact trivial | refine And.intro ?_ ?_)); done)
    | decide
    | (intro r hr; simp only [List.mem_cons, List.not_mem_nil, or_false] at hr; first | (subst hr; rfl) | (rcases hr with rfl | rfl <;> rfl) | (rcases hr with rfl | rfl | rfl <;> rfl) | (rcases hr with rfl | rfl | rfl | rfl <;> rfl))
    | (refine And.intro ?_ ?_ <;> simp only [List.length_map, List.length_append, List.length_cons, List.length_nil] <;> omega))
theorem s_laws_eqDebug (x : TDebug) (hs : smallR 1048576 x.tr) : Sim.Spec Try.prog 27 [.agg x.tr, .agg x.tr] (rB true) := by
  simp only [TDebug.tr, smallR] at hs
  refine spec_of_W hΓ hmix Try.func27 rfl (by decide) rfl ?_
  repeat' (
    (conv => whnf)
    first
    | refine Or.inl ?_
    | refine And.intro (Obl.out (?_ : Obl _)) ?_
    | refine ifB_intro (fun h => ?_) (fun h => ?_)
    | refine call_intro ((s_laws_eqSymbolS x.fSymbols hs.2.1)) (And.intro rfl (And.intro rfl trivial)) ?_
    | refine call_intro ((s_laws_eqRuleS x.fRules hs.2.2.1)) (And.intro rfl (And.intro rfl trivial)) ?_
    | refine call_intro ((s_laws_eqRowS x.fRows hs.2.2.2.1)) (And.intro rfl (And.intro rfl trivial)) ?_
    | refine call_intro ((s_laws_eqInlineS x.fInlines hs.2.2.2.2.1)) (And.intro rfl (And.intro rfl trivial)) ?_
    | refine Exists.intro _ (And.intro rfl ?_)
    | ((with_reducible show _ = _); rfl))
  all_goals try (
    (with_reducible refine Obl.mk ?_)
    first
    | ((with_reducible show regOk _ _ = true); kernel_rfl)
    | rfl
    | exact trivial
    | ((repeat' (first | exact trivial | refine And.intro ?_ ?_)); done)
    | decide
    | (intro r hr; simp only [List.mem_cons, List.not_mem_nil, or_false] at hr; first | (subst hr; rfl) | (rcases hr with rfl | rfl <;> rfl) | (rcases hr with rfl | rfl | rfl <;> rfl) | (rcases hr with rfl | rfl | rfl | rfl <;> rfl))
    | (refine And.intro ?_ ?_ <;> simp only [List.length_map, List.length_append, List.length_cons, List.length_nil] <;> omega))
  all_goals simp at *
theorem s_laws_szDebug (x : TDebug) (hw : x.wf) (left : Int) (hle0 : 0 ≤ left) (hle1 : left ≤ 1048576) : Sim.Spec Try.prog 21 [.agg x.tr, tvI left] (rI (szR x.tr left)) := by
  simp only [TDebug.wf, maxLen] at hw
  obtain ⟨Z, hz0⟩ : ∃ Z, Z = szR x.tr left := ⟨_, rfl⟩
  have hz := hz0
  rw [TDebug.tr] at hz
  refine spec_of_W hΓ hmix Try.func21 rfl (by decide) rfl ?_
  rw [szR_int (by omega)] at hz
  repeat' (
    (conv => whnf)
    first
    | refine Or.inl ?_
    | refine And.intro (Obl.out (?_ : Obl _)) ?_
    | refine ifB_intro (fun h => ?_) (fun h => ?_)
    | refine Exists.intro _ (And.intro rfl ?_)
    | ((with_reducible show _ = _); rfl))
  all_goals try (
    (with_reducible refine Obl.mk ?_)
    first
    | ((with_reducible show regOk _ _ = true); kernel_rfl)
    | rfl
    | exact trivial
    | ((repeat' (first | exact trivial | refine And.intro ?_ ?_)); done)
    | decide
    | (intro r hr; simp only [List.mem_cons, List.not_mem_nil, or_false] at hr; first | (subst hr; rfl) | (rcases hr with rfl | rfl <;> rfl) | (rcases hr with rfl | rfl | rfl <;> rfl) | (rcases hr with rfl | rfl | rfl | rfl <;> rfl))
    | (refine And.intro ?_ ?_ <;> simp only [List.length_map, List.length_append, List.length_cons, List.length_nil] <;> omega))
  repeat' (
    (conv => whnf)
    first
    | refine Or.inl ?_
    | refine And.intro (Obl.out (?_ : Obl _)) ?_
    | refine ifB_intro (fun h => ?_) (fun h => ?_)
    | refine call_intro ((s_laws_szSymbolS x.fSymbols (by simpa [maxLen] using hw.2.1) left (by omega) (by omega))) (And.intro rfl (And.intro rfl trivial)) ?_
    | refine Exists.intro _ (And.intro rfl ?_)
    | ((with_reducible show _ = _); rfl))
  all_goals try (
    (with_reducible refine Obl.mk ?_)
    first
    | ((with_reducible show regOk _ _ = true); kernel_rfl)
    | rfl
    | exact trivial
    | ((repeat' (first | exact trivial | refine And.intro ?_ ?_)); done)
    | decide
    | (intro r hr; simp only [List.mem_cons, List.not_mem_nil, or_false] at hr; first | (subst hr; rfl) | (rcases hr with rfl | rfl <;> rfl) | (rcases hr with rfl | rfl | rfl <;> rfl) | (rcases hr with rfl | rfl | rfl | rfl <;> rfl))
    | (refine And.intro ?_ ?_ <;> simp only [List.length_map, List.length_append, List.length_cons, List.length_nil] <;> omega))
  · exact ⟨congrArg (Tr.int _) (hz0.symm.trans (hz.trans (szR_neg (of_decide_eq_true h)))).symm⟩
  have g1 := of_decide_eq_false h
  clear h
  rw [szR_pos g1] at hz
  have b1 := (szT_small (L := 1048576) _ _ (Int.not_lt.1 g1) (by omega)).2
  repeat' (
    (conv => whnf)
    first
    | refine Or.inl ?_
    | refine And.intro (Obl.out (?_ : Obl _)) ?_
    | refine ifB_intro (fun h => ?_) (fun h => ?_)
    | refine Exists.intro _ (And.intro rfl ?_)
    | ((with_reducible show _ = _); rfl))
  all_goals try (
    (with_reducible refine Obl.mk ?_)
    first
    | ((with_reducible show regOk _ _ = true); kernel_rfl)
    | rfl
    | exact trivial
    | ((repeat' (first | exact trivial | refine And.intro ?_ ?_)); done)
    | decide
    | (intro r hr; simp only [List.mem_cons, List.not_mem_nil, or_false] at hr; first | (subst hr; rfl) | (rcases hr with rfl | rfl <;> rfl) | (rcases hr with rfl | rfl | rfl <;> rfl) | (rcases hr with rfl | rfl | rfl | rfl <;> rfl))
    | (refine And.intro ?_ ?_ <;> simp only [List.length_map, List.length_append, List.length_cons, List.length_nil] <;> omega))
  repeat' (
    (conv => whnf)
    first
    | refine Or.inl ?_
    | refine And.intro (Obl.out (?_ : Obl _)) ?_
    | refine ifB_intro (fun h => ?_) (fun h => ?_)
    | refine call_intro ((s_laws_szRuleS x.fRules (by simpa [maxLen] using hw.2.2.1) (szT (.lst 3 (x.fSymbols.map TSymbol.tr)) left) (by omega) (by omega))) (And.intro rfl (And.intro rfl trivial)) ?_
    | refine Exists.intro _ (And.intro rfl ?_)
    | ((with_reducible show _ = _); rfl))
  all_goals try (
    (with_reducible refine Obl.mk ?_)
    first
    | ((with_reducible show regOk _ _ = true); kernel_rfl)
    | rfl
    | exact trivial
    | ((repeat' (first | exact trivial | refine And.intro ?_ ?_)); done)
    | decide
    | (intro r hr; simp only [List.mem_cons, List.not_mem_nil, or_false] at hr; first | (subst hr; rfl) | (rcases hr with rfl | rfl <;> rfl) | (rcases hr with rfl | rfl | rfl <;> rfl) | (rcases hr with rfl | rfl | rfl | rfl <;> rfl))
    | (refine And.intro ?_ ?_ <;> simp only [List.length_map, List.length_append, List.length_cons, List.length_nil] <;> omega))
  · exact ⟨congrArg (Tr.int _) (hz0.symm.trans (hz.trans (szR_neg (of_decide_eq_true h)))).symm⟩
  have g2 := of_decide_eq_false h
  clear h
  rw [szR_pos g2] at hz
  have b2 := (szT_small (L := 1048576) _ _ (Int.not_lt.1 g2) (by omega)).2
  repeat' (
    (conv => whnf)
    first
    | refine Or.inl ?_
    | refine And.intro (Obl.out (?_ : Obl _)) ?_
    | refine ifB_intro (fun h => ?_) (fun h => ?_)
    | refine Exists.intro _ (And.intro rfl ?_)
    | ((with_reducible show _ = _); rfl))
  all_goals try (
    (with_reducible refine Obl.mk ?_)
    first
    | ((with_reducible show regOk _ _ = true); kernel_rfl)
    | rfl
    | exact trivial
    | ((repeat' (first | exact trivial | refine And.intro ?_ ?_)); done)
    | decide
    | (intro r hr; simp only [List.mem_cons, List.not_mem_nil, or_false] at hr; first | (subst hr; rfl) | (rcases hr with rfl | rfl <;> rfl) | (rcases hr with rfl | rfl | rfl <;> rfl) | (rcases hr with rfl | rfl | rfl | rfl <;> rfl))
    | (refine And.intro ?_ ?_ <;> simp only [List.length_map, List.length_append, List.length_cons, List.length_nil] <;> omega))
  repeat' (
    (conv => whnf)
    first
    | refine Or.inl ?_
    | refine And.intro (Obl.out (?_ : Obl _)) ?_
    | refine ifB_intro (fun h => ?_) (fun h => ?_)
    | refine call_intro ((s_laws_szRowS x.fRows (by simpa [maxLen] using hw.2.2.2.1) (szT (.lst 4 (x.fRules.map TRule.tr)) (szT (.lst 3 (x.fSymbols.map TSymbol.tr)) left)) (by omega) (by omega))) (And.intro rfl (And.intro rfl trivial)) ?_
    | refine Exists.intro _ (And.intro rfl ?_)
    | ((with_reducible show _ = _); rfl))
  all_goals try (
    (with_reducible refine Obl.mk ?_)
    first
    | ((with_reducible show regOk _ _ = true); kernel_rfl)
    | rfl
    | exact trivial
    | ((repeat' (first | exact trivial | refine And.intro ?_ ?_)); done)
    | decide
    | (intro r hr; simp only [List.mem_cons, List.not_mem_nil, or_false] at hr; first | (subst hr; rfl) | (rcases hr with rfl | rfl <;> rfl) | (rcases hr with rfl | rfl | rfl <;> rfl) | (rcases hr with rfl | rfl | rfl | rfl <;> rfl))
    | (refine And.intro ?_ ?_ <;> simp only [List.length_map, List.length_append, List.length_cons, List.length_nil] <;> omega))
  · exact ⟨congrArg (Tr.int _) (hz0.symm.trans (hz.trans (szR_neg (of_decide_eq_true h)))).symm⟩
  have g3 := of_decide_eq_false h
  clear h
  rw [szR_pos g3] at hz
  have b3 := (szT_small (L := 1048576) _ _ (Int.not_lt.1 g3) (by omega)).2
  repeat' (
    (conv => whnf)
    first
    | refine Or.inl ?_
    | refine And.intro (Obl.out (?_ : Obl _)) ?_
    | refine ifB_intro (fun h => ?_) (fun h => ?_)
    | refine Exists.intro _ (And.intro rfl ?_)
    | ((with_reducible show _ = _); rfl))
  all_goals try (
    (with_reducible refine Obl.mk ?_)
    first
    | ((with_reducible show regOk _ _ = true); kernel_rfl)
    | rfl
    | exact trivial
    | ((repeat' (first | exact trivial | refine And.intro ?_ ?_)); done)
    | decide
    | (intro r hr; simp only [List.mem_cons, List.not_mem_nil, or_false] at hr; first | (subst hr; rfl) | (rcases hr with rfl | rfl <;> rfl) | (rcases hr with rfl | rfl | rfl <;> rfl) | (rcases hr with rfl | rfl | rfl | rfl <;> rfl))
    | (refine And.intro ?_ ?_ <;> simp only [List.length_map, List.length_append, List.length_cons, List.length_nil] <;> omega))
  repeat' (
    (conv => whnf)
    first
    | refine Or.inl ?_
    | refine And.intro (Obl.out (?_ : Obl _)) ?_
    | refine ifB_intro (fun h => ?_) (fun h => ?_)
    | refine call_intro ((s_laws_szInlineS x.fInlines (by simpa [maxLen] using hw.2.2.2.2) (szT (.lst 3 (x.fRows.map TRow.tr)) (szT (.lst 4 (x.fRules.map TRule.tr)) (szT (.lst 3 (x.fSymbols.map TSymbol.tr)) left))) (by omega) (by omega))) (And.intro rfl (And.intro rfl trivial)) ?_
    | refine Exists.intro _ (And.intro rfl ?_)
    | ((with_reducible show _ = _); rfl))
  all_goals try (
    (with_reducible refine Obl.mk ?_)
    first
    | ((with_reducible show regOk _ _ = true); kernel_rfl)
    | rfl
    | exact trivial
    | ((repeat' (first | exact trivial | refine And.intro ?_ ?_)); done)
    | decide
    | (intro r hr; simp only [List.mem_cons, List.not_mem_nil, or_false] at hr; first | (subst hr; rfl) | (rcases hr with rfl | rfl <;> rfl) | (rcases hr with rfl | rfl | rfl <;> rfl) | (rcases hr with rfl | rfl | rfl | rfl <;> rfl))
    | (refine And.intro ?_ ?_ <;> simp only [List.length_map, List.length_append, List.length_cons, List.length_nil] <;> omega))
  · exact ⟨congrArg (Tr.int _) (hz0.symm.trans (hz.trans (szR_neg (of_decide_eq_true h)))).symm⟩
  have g4 := of_decide_eq_false h
  clear h
  rw [szR_pos g4] at hz
  have b4 := (szT_small (L := 1048576) _ _ (Int.not_lt.1 g4) (by omega)).2
  all_goals exact ⟨congrArg (Tr.int _) ((hz0.symm.trans (hz.trans (szR_nil _))).symm)⟩
theorem s_laws_eqFrame (x : TFrame) (hs : smallR 1048576 x.tr) : Sim.Spec Try.prog 152 [.agg x.tr, .agg x.tr] (rB true) := by
  simp only [TFrame.tr, smallR] at hs
  refine spec_of_W hΓ hmix Try.func152 rfl (by decide) rfl ?_
  repeat' (
    (conv => whnf)
    first
    | refine Or.inl ?_
    | refine And.intro (Obl.out (?_ : Obl _)) ?_
    | refine ifB_intro (fun h => ?_) (fun h => ?_)
    | refine Exists.intro _ (And.intro rfl ?_)
    | ((with_reducible show _ = _); rfl))
  all_goals try (
    (with_reducible refine Obl.mk ?_)
    first
    | ((with_reducible show regOk _ _ = true); kernel_rfl)
    | rfl
    | exact trivial
    | ((repeat' (first | exact trivial | refine And.intro ?_ ?_)); done)
    | decide
    | (intro r hr; simp only [List.mem_cons, List.not_mem_nil, or_false] at hr; first | (subst hr; rfl) | (rcases hr with rfl | rfl <;> rfl) | (rcases hr with rfl | rfl | rfl <;> rfl) | (rcases hr with rfl | rfl | rfl | rfl <;> rfl))
    | (refine And.intro ?_ ?_ <;> simp only [List.length_map, List.length_append, List.length_cons, List.length_nil] <;> omega))
  all_goals simp at *
theorem s_laws_eqFrameS (xs : List (TFrame)) (hs : smallT 1048576 (.lst 2 (xs.map TFrame.tr))) : Sim.Spec Try.prog 75 [tvL 2 (xs.map TFrame.tr), tvL 2 (xs.map TFrame.tr)] (rB true) := by
  have hl := small_len hs
  have hlen : (xs.map TFrame.tr).length = xs.length := by simp
  refine spec_of_W hΓ hmix Try.func75 rfl (by decide) rfl ?_
  repeat' (
    (conv => whnf)
    first
    | refine Or.inl ?_
    | refine And.intro (Obl.out (?_ : Obl _)) ?_
    | refine ifB_intro (fun h => ?_) (fun h => ?_)
    | refine Exists.intro _ (And.intro rfl ?_)
    | ((with_reducible show _ = _); rfl))
  all_goals try (
    (with_reducible refine Obl.mk ?_)
    first
    | ((with_reducible show regOk _ _ = true); kernel_rfl)
    | rfl
    | exact trivial
    | ((repeat' (first | exact trivial | refine And.intro ?_ ?_)); done)
    | decide
    | (intro r hr; simp only [List.mem_cons, List.not_mem_nil, or_false] at hr; first | (subst hr; rfl) | (rcases hr with rfl | rfl <;> rfl) | (rcases hr with rfl | rfl | rfl <;> rfl) | (rcases hr with rfl | rfl | rfl | rfl <;> rfl))
    | (refine And.intro ?_ ?_ <;> simp only [List.length_map, List.length_append, List.length_cons, List.length_nil] <;> omega))
  · simp at h
  conv => whnf
  refine ⟨{ k : Nat // k ≤ xs.length }, fun k => ⟨[(0, .r (.c (.t (.lst 2 (xs.map TFrame.tr))))), (1, .r (.c (.t (.lst 2 (xs.map TFrame.tr))))), (5, tI .i64 (k.1 : Int))], [], []⟩, fun k => xs.length - k.1, ⟨0, by omega⟩, ?_, ?_⟩
  · skip
    repeat' (
      (conv => whnf)
      first
      | refine Or.inl ?_
      | refine And.intro (Obl.out (?_ : Obl _)) ?_
      | refine ifB_intro (fun h => ?_) (fun h => ?_)
      | refine Exists.intro _ (And.intro rfl ?_)
      | ((with_reducible show _ = _); rfl))
    all_goals try (
      (with_reducible refine Obl.mk ?_)
      first
      | ((with_reducible show regOk _ _ = true); kernel_rfl)
      | rfl
      | exact trivial
      | ((repeat' (first | exact trivial | refine And.intro ?_ ?_)); done)
      | decide
      | (intro r hr; simp only [List.mem_cons, List.not_mem_nil, or_false] at hr; first | (subst hr; rfl) | (rcases hr with rfl | rfl <;> rfl) | (rcases hr with rfl | rfl | rfl <;> rfl) | (rcases hr with rfl | rfl | rfl | rfl <;> rfl))
      | (refine And.intro ?_ ?_ <;> simp only [List.length_map, List.length_append, List.length_cons, List.length_nil] <;> omega))
  intro ⟨k, hk⟩
  dsimp only
  repeat' (
    (conv => whnf)
    first
    | refine Or.inl ?_
    | refine And.intro (Obl.out (?_ : Obl _)) ?_
    | refine ifB_intro (fun h => ?_) (fun h => ?_)
    | refine Exists.intro _ (And.intro rfl ?_)
    | ((with_reducible show _ = _); rfl))
  all_goals try (
    (with_reducible refine Obl.mk ?_)
    first
    | ((with_reducible show regOk _ _ = true); kernel_rfl)
    | rfl
    | exact trivial
    | ((repeat' (first | exact trivial | refine And.intro ?_ ?_)); done)
    | decide
    | (intro r hr; simp only [List.mem_cons, List.not_mem_nil, or_false] at hr; first | (subst hr; rfl) | (rcases hr with rfl | rfl <;> rfl) | (rcases hr with rfl | rfl | rfl <;> rfl) | (rcases hr with rfl | rfl | rfl | rfl <;> rfl))
    | (refine And.intro ?_ ?_ <;> simp only [List.length_map, List.length_append, List.length_cons, List.length_nil] <;> omega))
  · have hlt : k < xs.length := by have := of_decide_eq_true h; omega
    obtain ⟨x, hx⟩ := get_of_lt hlt
    have hsr := smallRs_map hs (List.mem_of_getElem? hx)
    conv => whnf
    refine ⟨k, _, rfl, map_get hx, ?_⟩
    repeat' (
      (conv => whnf)
      first
      | refine Or.inl ?_
      | refine And.intro (Obl.out (?_ : Obl _)) ?_
      | refine ifB_intro (fun h => ?_) (fun h => ?_)
      | refine call_intro ((s_laws_eqFrame x hsr)) (And.intro (And.intro rfl (And.intro rfl trivial)) (And.intro (And.intro rfl (And.intro rfl trivial)) trivial)) ?_
      | refine Exists.intro _ (And.intro rfl ?_)
      | ((with_reducible show _ = _); rfl))
    all_goals try (
      (with_reducible refine Obl.mk ?_)
      first
      | ((with_reducible show regOk _ _ = true); kernel_rfl)
      | rfl
      | exact trivial
      | ((repeat' (first | exact trivial | refine And.intro ?_ ?_)); done)
      | decide
      | (intro r hr; simp only [List.mem_cons, List.not_mem_nil, or_false] at hr; first | (subst hr; rfl) | (rcases hr with rfl | rfl <;> rfl) | (rcases hr with rfl | rfl | rfl <;> rfl) | (rcases hr with rfl | rfl | rfl | rfl <;> rfl))
      | (refine And.intro ?_ ?_ <;> simp only [List.length_map, List.length_append, List.length_cons, List.length_nil] <;> omega))
    conv => whnf
    refine ⟨k, _, rfl, map_get hx, ?_⟩
    repeat' (
      (conv => whnf)
      first
      | refine Or.inl ?_
      | refine And.intro (Obl.out (?_ : Obl _)) ?_
      | refine ifB_intro (fun h => ?_) (fun h => ?_)
      | refine call_intro ((s_laws_eqFrame x hsr)) (And.intro (And.intro rfl (And.intro rfl trivial)) (And.intro (And.intro rfl (And.intro rfl trivial)) trivial)) ?_
      | refine Exists.intro _ (And.intro rfl ?_)
      | ((with_reducible show _ = _); rfl))
    all_goals try (
      (with_reducible refine Obl.mk ?_)
      first
      | ((with_reducible show regOk _ _ = true); kernel_rfl)
      | rfl
      | exact trivial
      | ((repeat' (first | exact trivial | refine And.intro ?_ ?_)); done)
      | decide
      | (intro r hr; simp only [List.mem_cons, List.not_mem_nil, or_false] at hr; first | (subst hr; rfl) | (rcases hr with rfl | rfl <;> rfl) | (rcases hr with rfl | rfl | rfl <;> rfl) | (rcases hr with rfl | rfl | rfl | rfl <;> rfl))
      | (refine And.intro ?_ ?_ <;> simp only [List.length_map, List.length_append, List.length_cons, List.length_nil] <;> omega))
    all_goals try (exfalso; simp at h; done)
    conv => whnf
    refine ⟨⟨k + 1, by omega⟩, ?_, by dsimp only; omega⟩
    repeat' (
      (conv => whnf)
      first
      | refine Or.inl ?_
      | refine And.intro (Obl.out (?_ : Obl _)) ?_
      | refine ifB_intro (fun h => ?_) (fun h => ?_)
      | refine Exists.intro _ (And.intro rfl ?_)
      | ((with_reducible show _ = _); rfl))
    all_goals try (
      (with_reducible refine Obl.mk ?_)
      first
      | ((with_reducible show regOk _ _ = true); kernel_rfl)
      | rfl
      | exact trivial
      | ((repeat' (first | exact trivial | refine And.intro ?_ ?_)); done)
      | decide
      | (intro r hr; simp only [List.mem_cons, List.not_mem_nil, or_false] at hr; first | (subst hr; rfl) | (rcases hr with rfl | rfl <;> rfl) | (rcases hr with rfl | rfl | rfl <;> rfl) | (rcases hr with rfl | rfl | rfl | rfl <;> rfl))
      | (refine And.intro ?_ ?_ <;> simp only [List.length_map, List.length_append, List.length_cons, List.length_nil] <;> omega))
    exact ⟨by dsimp only; rw [IntWalk.i64_in _ (by omega)]; rfl⟩
end Go.Proofs.Ytdiijpoiiaknkaa
