/- The laws' own types: how an argument reads; the helpers to, eq and sz. -/
import Derived.Test.YtehniaekfijmiaaFnsE
import Derived.Test.YtehniaekfijmiaaBase
namespace Go.Proofs.Ytehniaekfijmiaa
open Go.Sim Go.RowKit
set_option maxRecDepth 100000
theorem inI_of {n : Int} (h : (Lit.int .i64 n).wf = true) : inI n := ⟨i64_ge h, i64_le h⟩
theorem ty_int {r : List Tr} (h : ∃ m, r = [Tr.int .i64 m] ∧ (Lit.int .i64 m).wf = true) : ∃ m, r = intRow m ∧ inI m := by
  obtain ⟨m, rfl, hw⟩ := h
  exact ⟨m, rfl, inI_of hw⟩
theorem smallRs_map {α : Type} {g : α → List Tr} {L : Int} {l : List α} {sz : Nat} (h : smallT L (.lst sz (l.map g))) {x : α} (hx : x ∈ l) : smallR L (g x) := by
  rw [smallT] at h
  exact smallRs_mem h.2 _ (List.mem_map_of_mem hx)
theorem small_len {α : Type} {g : α → List Tr} {L : Int} {l : List α} {sz : Nat} (h : smallT L (.lst sz (l.map g))) : (l.length : Int) ≤ L := by
  rw [smallT] at h
  simpa using h.1
theorem small_nat {α : Type} {g : α → List Tr} {l : List α} {sz : Nat} (h : smallT 1048576 (.lst sz (l.map g))) : l.length ≤ 1048576 := by
  have := small_len h
  omega
theorem s_laws_szIntS (ns : List Int) (hw : ns.length ≤ maxLen) (left : Int) (hle0 : 0 ≤ left) (hle1 : left ≤ 1048576) : Sim.Spec Try.prog 65 [tvL 1 (ns.map intRow), tvI left] (rI (szT (.lst 1 (ns.map intRow)) left)) := by
  have hl2 : (ns.map intRow).length ≤ 9223372036854775807 := by simpa [maxLen] using hw
  rw [szT]
  refine spec_of_W hΓ hmix Try.func65 rfl (by decide) rfl ?_
  repeat' ((conv => whnf); first | refine Or.inl ?_ | refine And.intro (Obl.out (?_ : Obl _)) ?_ | refine ifB_intro (fun h => ?_) (fun h => ?_) | refine Exists.intro _ (And.intro rfl ?_) | ((with_reducible show _ = _); rfl))
  all_goals try ((with_reducible refine Obl.mk ?_); first | ((with_reducible show regOk _ _ = true); kernel_rfl) | ((with_reducible show eqTyOk _ _ = true); kernel_rfl) | rfl | exact trivial | ((repeat' (first | exact trivial | refine And.intro ?_ ?_)); done) | decide | ((repeat' (first | exact List.forall_mem_nil _ | refine List.forall_mem_cons.2 (And.intro rfl ?_))); done) | (refine And.intro ?_ ?_ <;> simp only [List.length_map, List.length_append, List.length_cons, List.length_nil] <;> omega))
  all_goals refine ⟨congrArg (Tr.int _) ?_⟩
  · have h2 := of_decide_eq_true h
    rw [IntWalk.i64_in _ (by omega)] at h2
    rw [if_pos h2]
  · have h2 := of_decide_eq_false h
    rw [IntWalk.i64_in _ (by omega)] at h2 ⊢
    rw [if_neg h2, szRs_plain _ _ (fun r hr c hc => ?_) (by omega)]
    obtain ⟨n, _, rfl⟩ := List.mem_map.1 hr
    simp only [intRow, List.mem_cons, List.not_mem_nil, or_false] at hc
    subst hc
    trivial
theorem ty_Symbol {row : List Tr} (h : typed Γ 8 275 row) : ∃ x : TSymbol, row = x.tr ∧ x.wf := by
  obtain ⟨_, _, rfl, ⟨x0, rfl, w0⟩, _, _, rfl, ⟨x1, rfl, w1⟩, _, _, rfl, ⟨x2, rfl, w2⟩, rfl⟩ := h
  exact ⟨⟨x0, x1, x2⟩, rfl, ⟨w0, inI_of w1, inI_of w2⟩⟩
theorem ty_Image {row : List Tr} (h : typed Γ 8 184 row) : ∃ x : TImage, row = x.tr ∧ x.wf := by
  obtain ⟨_, _, rfl, ⟨x0, rfl, w0⟩, _, _, rfl, ⟨r1, rfl, w1, e1⟩, rfl⟩ := h
  obtain ⟨x1, rfl, v1⟩ := rows_map (g := TSymbol.tr) (Q := (fun y => y.wf)) (rows := r1) (fun r hr => ty_Symbol (typed_le (by decide) (e1 r hr)))
  exact ⟨⟨x0, x1⟩, rfl, ⟨w0, ⟨by simpa using w1, v1⟩⟩⟩
theorem ty_Space {row : List Tr} (h : typed Γ 8 25 row) : ∃ x : TSpace, row = x.tr ∧ x.wf := by
  obtain ⟨_, _, rfl, ⟨r0, rfl, w0, e0⟩, _, _, rfl, ⟨r1, rfl, w1, e1⟩, _, _, rfl, ⟨r2, rfl, w2, e2⟩, rfl⟩ := h
  obtain ⟨x0, rfl, v0⟩ := rows_map (g := TImage.tr) (Q := (fun y => y.wf)) (rows := r0) (fun r hr => ty_Image (typed_le (by decide) (e0 r hr)))
  obtain ⟨x1, rfl, v1⟩ := rows_map (g := intRow) (Q := (fun y => inI y)) (rows := r1) (fun r hr => ty_int (e1 r hr))
  obtain ⟨x2, rfl, v2⟩ := rows_map (g := intRow) (Q := (fun y => inI y)) (rows := r2) (fun r hr => ty_int (e2 r hr))
  exact ⟨⟨x0, x1, x2⟩, rfl, ⟨⟨by simpa using w0, v0⟩, ⟨by simpa using w1, v1⟩, ⟨by simpa using w2, v2⟩⟩⟩
theorem ty_Machine {row : List Tr} (h : typed Γ 8 27 row) : ∃ x : TMachine, row = x.tr ∧ x.wf := by
  obtain ⟨_, _, rfl, ⟨x0, rfl, w0⟩, _, _, rfl, ⟨x1, rfl, w1⟩, _, _, rfl, ⟨x2, rfl, w2⟩, _, _, rfl, ⟨r3, rfl, w3, e3⟩, _, _, rfl, ⟨r4, rfl, w4, e4⟩, _, _, rfl, ⟨x5, rfl, w5⟩, _, _, rfl, ⟨x6, rfl, w6⟩, rfl⟩ := h
  obtain ⟨x3, rfl, v3⟩ := rows_map (g := intRow) (Q := (fun y => inI y)) (rows := r3) (fun r hr => ty_int (e3 r hr))
  obtain ⟨x4, rfl, v4⟩ := rows_map (g := intRow) (Q := (fun y => inI y)) (rows := r4) (fun r hr => ty_int (e4 r hr))
  exact ⟨⟨x0, x1, x2, x3, x4, x5, x6⟩, rfl, ⟨inI_of w0, inI_of w1, inI_of w2, ⟨by simpa using w3, v3⟩, ⟨by simpa using w4, v4⟩, inI_of w5, inI_of w6⟩⟩
theorem s_laws_toSymbol (x : TSymbol) (hs : smallR 1048576 x.tr) : Sim.Spec Try.prog 228 [.agg x.tr] (.r (.agg (x.tr.map resC))) := by
  simp only [TSymbol.tr, smallR] at hs
  refine spec_of_W hΓ hmix Try.func228 rfl (by decide) rfl ?_
  repeat' ((conv => whnf); first | refine Or.inl ?_ | refine And.intro (Obl.out (?_ : Obl _)) ?_ | refine ifB_intro (fun h => ?_) (fun h => ?_) | refine Exists.intro _ (And.intro rfl ?_) | ((with_reducible show _ = _); rfl))
  all_goals try ((with_reducible refine Obl.mk ?_); first | ((with_reducible show regOk _ _ = true); kernel_rfl) | ((with_reducible show eqTyOk _ _ = true); kernel_rfl) | rfl | exact trivial | ((repeat' (first | exact trivial | refine And.intro ?_ ?_)); done) | decide | ((repeat' (first | exact List.forall_mem_nil _ | refine List.forall_mem_cons.2 (And.intro rfl ?_))); done) | (refine And.intro ?_ ?_ <;> simp only [List.length_map, List.length_append, List.length_cons, List.length_nil] <;> omega))
theorem s_laws_eqSymbol (x : TSymbol) (hs : smallR 1048576 x.tr) : Sim.Spec Try.prog 230 [.agg x.tr, .agg x.tr] (rB true) := by
  simp only [TSymbol.tr, smallR] at hs
  refine spec_of_W hΓ hmix Try.func230 rfl (by decide) rfl ?_
  repeat' ((conv => whnf); first | refine Or.inl ?_ | refine And.intro (Obl.out (?_ : Obl _)) ?_ | refine ifB_intro (fun h => ?_) (fun h => ?_) | refine Exists.intro _ (And.intro rfl ?_) | ((with_reducible show _ = _); rfl))
  all_goals try ((with_reducible refine Obl.mk ?_); first | ((with_reducible show regOk _ _ = true); kernel_rfl) | ((with_reducible show eqTyOk _ _ = true); kernel_rfl) | rfl | exact trivial | ((repeat' (first | exact trivial | refine And.intro ?_ ?_)); done) | decide | ((repeat' (first | exact List.forall_mem_nil _ | refine List.forall_mem_cons.2 (And.intro rfl ?_))); done) | (refine And.intro ?_ ?_ <;> simp only [List.length_map, List.length_append, List.length_cons, List.length_nil] <;> omega))
  all_goals simp at *
theorem s_laws_szSymbol (x : TSymbol) (hw : x.wf) (left : Int) (hle0 : 0 ≤ left) (hle1 : left ≤ 1048576) : Sim.Spec Try.prog 226 [.agg x.tr, tvI left] (rI (szR x.tr left)) := by
  simp only [TSymbol.wf, maxLen] at hw
  obtain ⟨Z, hz0⟩ : ∃ Z, Z = szR x.tr left := ⟨_, rfl⟩
  have hz := hz0
  rw [TSymbol.tr] at hz
  refine spec_of_W hΓ hmix Try.func226 rfl (by decide) rfl ?_
  repeat' ((conv => whnf); first | refine Or.inl ?_ | refine And.intro (Obl.out (?_ : Obl _)) ?_ | refine ifB_intro (fun h => ?_) (fun h => ?_) | refine Exists.intro _ (And.intro rfl ?_) | ((with_reducible show _ = _); rfl))
  all_goals try ((with_reducible refine Obl.mk ?_); first | ((with_reducible show regOk _ _ = true); kernel_rfl) | ((with_reducible show eqTyOk _ _ = true); kernel_rfl) | rfl | exact trivial | ((repeat' (first | exact trivial | refine And.intro ?_ ?_)); done) | decide | ((repeat' (first | exact List.forall_mem_nil _ | refine List.forall_mem_cons.2 (And.intro rfl ?_))); done) | (refine And.intro ?_ ?_ <;> simp only [List.length_map, List.length_append, List.length_cons, List.length_nil] <;> omega))
  · have h2 := of_decide_eq_true h
    rw [IntWalk.i64_in _ (by omega)] at h2
    exact ⟨congrArg (Tr.int _) (hz0.symm.trans (hz.trans (szR_str_neg h2))).symm⟩
  have g1 := of_decide_eq_false h
  rw [IntWalk.i64_in _ (by omega)] at g1
  clear h
  rw [IntWalk.i64_in (left - x.fName.length) (by omega)]
  rw [szR_str g1] at hz
  rw [szR_int (by omega)] at hz
  rw [szR_int (by omega)] at hz
  all_goals exact ⟨congrArg (Tr.int _) ((hz0.symm.trans (hz.trans (szR_nil _))).symm)⟩
theorem s_laws_toSymbolS (xs : List (TSymbol)) (hs : smallT 1048576 (.lst 3 (xs.map TSymbol.tr))) : Sim.Spec Try.prog 195 [tvL 3 (xs.map TSymbol.tr)] (rL 3 (xs.map TSymbol.tr)) := by
  have hl := small_len hs
  have hlen : (xs.map TSymbol.tr).length = xs.length := by simp
  refine spec_of_W hΓ hmix Try.func195 rfl (by decide) rfl ?_
  repeat' ((conv => whnf); first | refine Or.inl ?_ | refine And.intro (Obl.out (?_ : Obl _)) ?_ | refine ifB_intro (fun h => ?_) (fun h => ?_) | refine Exists.intro _ (And.intro rfl ?_) | ((with_reducible show _ = _); rfl))
  all_goals try ((with_reducible refine Obl.mk ?_); first | ((with_reducible show regOk _ _ = true); kernel_rfl) | ((with_reducible show eqTyOk _ _ = true); kernel_rfl) | rfl | exact trivial | ((repeat' (first | exact trivial | refine And.intro ?_ ?_)); done) | decide | ((repeat' (first | exact List.forall_mem_nil _ | refine List.forall_mem_cons.2 (And.intro rfl ?_))); done) | (refine And.intro ?_ ?_ <;> simp only [List.length_map, List.length_append, List.length_cons, List.length_nil] <;> omega))
  · exact ⟨by omega⟩
  · exact ⟨by dsimp only; omega⟩
  repeat' ((conv => whnf); first | refine Or.inl ?_ | refine And.intro (Obl.out (?_ : Obl _)) ?_ | refine ifB_intro (fun h => ?_) (fun h => ?_) | refine Exists.intro _ (And.intro rfl ?_) | ((with_reducible show _ = _); rfl))
  all_goals try ((with_reducible refine Obl.mk ?_); first | ((with_reducible show regOk _ _ = true); kernel_rfl) | ((with_reducible show eqTyOk _ _ = true); kernel_rfl) | rfl | exact trivial | ((repeat' (first | exact trivial | refine And.intro ?_ ?_)); done) | decide | ((repeat' (first | exact List.forall_mem_nil _ | refine List.forall_mem_cons.2 (And.intro rfl ?_))); done) | (refine And.intro ?_ ?_ <;> simp only [List.length_map, List.length_append, List.length_cons, List.length_nil] <;> omega))
  conv => whnf
  refine ⟨{ k : Nat // k ≤ xs.length }, fun k => ⟨[(0, .r (.c (.t (.lst 3 (xs.map TSymbol.tr))))), (3, .r (.c (.own (3, 0, 0)))), (4, tI .i64 (k.1 : Int))], [((3, 0, 0), some (.arr true 3 (filled (xs.map TSymbol.tr) [.str [], .int .i64 0, .int .i64 0] k.1)))], [3]⟩, fun k => xs.length - k.1, ⟨0, by omega⟩, ?_, ?_⟩
  · skip
    repeat' ((conv => whnf); first | refine Or.inl ?_ | refine And.intro (Obl.out (?_ : Obl _)) ?_ | refine ifB_intro (fun h => ?_) (fun h => ?_) | refine Exists.intro _ (And.intro rfl ?_) | ((with_reducible show _ = _); rfl))
    all_goals try ((with_reducible refine Obl.mk ?_); first | ((with_reducible show regOk _ _ = true); kernel_rfl) | ((with_reducible show eqTyOk _ _ = true); kernel_rfl) | rfl | exact trivial | ((repeat' (first | exact trivial | refine And.intro ?_ ?_)); done) | decide | ((repeat' (first | exact List.forall_mem_nil _ | refine List.forall_mem_cons.2 (And.intro rfl ?_))); done) | (refine And.intro ?_ ?_ <;> simp only [List.length_map, List.length_append, List.length_cons, List.length_nil] <;> omega))
    all_goals exact ⟨by first | (rw [← filled_zero, hlen]; done) | (rw [← filled_zero, hlen, deepRows, List.map_replicate]; done) | (rw [← filled_zero, hlen, deepRows, List.map_replicate]; rfl)⟩
  intro ⟨k, hk⟩
  dsimp only
  repeat' ((conv => whnf); first | refine Or.inl ?_ | refine And.intro (Obl.out (?_ : Obl _)) ?_ | refine ifB_intro (fun h => ?_) (fun h => ?_) | refine Exists.intro _ (And.intro rfl ?_) | ((with_reducible show _ = _); rfl))
  all_goals try ((with_reducible refine Obl.mk ?_); first | ((with_reducible show regOk _ _ = true); kernel_rfl) | ((with_reducible show eqTyOk _ _ = true); kernel_rfl) | rfl | exact trivial | ((repeat' (first | exact trivial | refine And.intro ?_ ?_)); done) | decide | ((repeat' (first | exact List.forall_mem_nil _ | refine List.forall_mem_cons.2 (And.intro rfl ?_))); done) | (refine And.intro ?_ ?_ <;> simp only [List.length_map, List.length_append, List.length_cons, List.length_nil] <;> omega))
  · have hlt : k < xs.length := by have := of_decide_eq_true h; omega
    obtain ⟨x, hx⟩ := get_of_lt hlt
    have hsr := smallRs_map hs (List.mem_of_getElem? hx)
    conv => whnf
    refine ⟨k, _, rfl, map_get hx, ?_⟩
    repeat' ((conv => whnf); first | refine Or.inl ?_ | refine And.intro (Obl.out (?_ : Obl _)) ?_ | refine ifB_intro (fun h => ?_) (fun h => ?_) | refine call_intro ((s_laws_toSymbol x hsr)) (And.intro (And.intro rfl (And.intro rfl (And.intro rfl trivial))) trivial) ?_ | refine Exists.intro _ (And.intro rfl ?_) | ((with_reducible show _ = _); rfl))
    all_goals try ((with_reducible refine Obl.mk ?_); first | ((with_reducible show regOk _ _ = true); kernel_rfl) | ((with_reducible show eqTyOk _ _ = true); kernel_rfl) | rfl | exact trivial | ((repeat' (first | exact trivial | refine And.intro ?_ ?_)); done) | decide | ((repeat' (first | exact List.forall_mem_nil _ | refine List.forall_mem_cons.2 (And.intro rfl ?_))); done) | (refine And.intro ?_ ?_ <;> simp only [List.length_map, List.length_append, List.length_cons, List.length_nil] <;> omega))
    · exact ⟨by rw [filled_len (by omega)]; omega⟩
    conv => whnf
    refine ⟨_, filled_get (by omega), ?_⟩
    repeat' ((conv => whnf); first | refine Or.inl ?_ | refine And.intro (Obl.out (?_ : Obl _)) ?_ | refine ifB_intro (fun h => ?_) (fun h => ?_) | refine Exists.intro _ (And.intro rfl ?_) | ((with_reducible show _ = _); rfl))
    all_goals try ((with_reducible refine Obl.mk ?_); first | ((with_reducible show regOk _ _ = true); kernel_rfl) | ((with_reducible show eqTyOk _ _ = true); kernel_rfl) | rfl | exact trivial | ((repeat' (first | exact trivial | refine And.intro ?_ ?_)); done) | decide | ((repeat' (first | exact List.forall_mem_nil _ | refine List.forall_mem_cons.2 (And.intro rfl ?_))); done) | (refine And.intro ?_ ?_ <;> simp only [List.length_map, List.length_append, List.length_cons, List.length_nil] <;> omega))
    conv => whnf
    refine ⟨⟨k + 1, by omega⟩, ?_, by dsimp only; omega⟩
    repeat' ((conv => whnf); first | refine Or.inl ?_ | refine And.intro (Obl.out (?_ : Obl _)) ?_ | refine ifB_intro (fun h => ?_) (fun h => ?_) | refine Exists.intro _ (And.intro rfl ?_) | ((with_reducible show _ = _); rfl))
    all_goals try ((with_reducible refine Obl.mk ?_); first | ((with_reducible show regOk _ _ = true); kernel_rfl) | ((with_reducible show eqTyOk _ _ = true); kernel_rfl) | rfl | exact trivial | ((repeat' (first | exact trivial | refine And.intro ?_ ?_)); done) | decide | ((repeat' (first | exact List.forall_mem_nil _ | refine List.forall_mem_cons.2 (And.intro rfl ?_))); done) | (refine And.intro ?_ ?_ <;> simp only [List.length_map, List.length_append, List.length_cons, List.length_nil] <;> omega))
    · exact ⟨by dsimp only; rw [IntWalk.i64_in _ (by omega)]; rfl⟩
    · exact ⟨filled_set (map_get hx)⟩
  · have hge : xs.length ≤ k := by have := of_decide_eq_false h; omega
    exact ⟨filled_all (by omega)⟩
theorem s_laws_eqSymbolS (xs : List (TSymbol)) (hs : smallT 1048576 (.lst 3 (xs.map TSymbol.tr))) : Sim.Spec Try.prog 205 [tvL 3 (xs.map TSymbol.tr), tvL 3 (xs.map TSymbol.tr)] (rB true) := by
  have hl := small_len hs
  have hlen : (xs.map TSymbol.tr).length = xs.length := by simp
  refine spec_of_W hΓ hmix Try.func205 rfl (by decide) rfl ?_
  repeat' ((conv => whnf); first | refine Or.inl ?_ | refine And.intro (Obl.out (?_ : Obl _)) ?_ | refine ifB_intro (fun h => ?_) (fun h => ?_) | refine Exists.intro _ (And.intro rfl ?_) | ((with_reducible show _ = _); rfl))
  all_goals try ((with_reducible refine Obl.mk ?_); first | ((with_reducible show regOk _ _ = true); kernel_rfl) | ((with_reducible show eqTyOk _ _ = true); kernel_rfl) | rfl | exact trivial | ((repeat' (first | exact trivial | refine And.intro ?_ ?_)); done) | decide | ((repeat' (first | exact List.forall_mem_nil _ | refine List.forall_mem_cons.2 (And.intro rfl ?_))); done) | (refine And.intro ?_ ?_ <;> simp only [List.length_map, List.length_append, List.length_cons, List.length_nil] <;> omega))
  · simp at h
  conv => whnf
  refine ⟨{ k : Nat // k ≤ xs.length }, fun k => ⟨[(0, .r (.c (.t (.lst 3 (xs.map TSymbol.tr))))), (1, .r (.c (.t (.lst 3 (xs.map TSymbol.tr))))), (5, tI .i64 (k.1 : Int))], [], []⟩, fun k => xs.length - k.1, ⟨0, by omega⟩, ?_, ?_⟩
  · skip
    repeat' ((conv => whnf); first | refine Or.inl ?_ | refine And.intro (Obl.out (?_ : Obl _)) ?_ | refine ifB_intro (fun h => ?_) (fun h => ?_) | refine Exists.intro _ (And.intro rfl ?_) | ((with_reducible show _ = _); rfl))
    all_goals try ((with_reducible refine Obl.mk ?_); first | ((with_reducible show regOk _ _ = true); kernel_rfl) | ((with_reducible show eqTyOk _ _ = true); kernel_rfl) | rfl | exact trivial | ((repeat' (first | exact trivial | refine And.intro ?_ ?_)); done) | decide | ((repeat' (first | exact List.forall_mem_nil _ | refine List.forall_mem_cons.2 (And.intro rfl ?_))); done) | (refine And.intro ?_ ?_ <;> simp only [List.length_map, List.length_append, List.length_cons, List.length_nil] <;> omega))
  intro ⟨k, hk⟩
  dsimp only
  repeat' ((conv => whnf); first | refine Or.inl ?_ | refine And.intro (Obl.out (?_ : Obl _)) ?_ | refine ifB_intro (fun h => ?_) (fun h => ?_) | refine Exists.intro _ (And.intro rfl ?_) | ((with_reducible show _ = _); rfl))
  all_goals try ((with_reducible refine Obl.mk ?_); first | ((with_reducible show regOk _ _ = true); kernel_rfl) | ((with_reducible show eqTyOk _ _ = true); kernel_rfl) | rfl | exact trivial | ((repeat' (first | exact trivial | refine And.intro ?_ ?_)); done) | decide | ((repeat' (first | exact List.forall_mem_nil _ | refine List.forall_mem_cons.2 (And.intro rfl ?_))); done) | (refine And.intro ?_ ?_ <;> simp only [List.length_map, List.length_append, List.length_cons, List.length_nil] <;> omega))
  · have hlt : k < xs.length := by have := of_decide_eq_true h; omega
    obtain ⟨x, hx⟩ := get_of_lt hlt
    have hsr := smallRs_map hs (List.mem_of_getElem? hx)
    conv => whnf
    refine ⟨k, _, rfl, map_get hx, ?_⟩
    repeat' ((conv => whnf); first | refine Or.inl ?_ | refine And.intro (Obl.out (?_ : Obl _)) ?_ | refine ifB_intro (fun h => ?_) (fun h => ?_) | refine call_intro ((s_laws_eqSymbol x hsr)) (And.intro (And.intro rfl (And.intro rfl (And.intro rfl trivial))) (And.intro (And.intro rfl (And.intro rfl (And.intro rfl trivial))) trivial)) ?_ | refine Exists.intro _ (And.intro rfl ?_) | ((with_reducible show _ = _); rfl))
    all_goals try ((with_reducible refine Obl.mk ?_); first | ((with_reducible show regOk _ _ = true); kernel_rfl) | ((with_reducible show eqTyOk _ _ = true); kernel_rfl) | rfl | exact trivial | ((repeat' (first | exact trivial | refine And.intro ?_ ?_)); done) | decide | ((repeat' (first | exact List.forall_mem_nil _ | refine List.forall_mem_cons.2 (And.intro rfl ?_))); done) | (refine And.intro ?_ ?_ <;> simp only [List.length_map, List.length_append, List.length_cons, List.length_nil] <;> omega))
    conv => whnf
    refine ⟨k, _, rfl, map_get hx, ?_⟩
    repeat' ((conv => whnf); first | refine Or.inl ?_ | refine And.intro (Obl.out (?_ : Obl _)) ?_ | refine ifB_intro (fun h => ?_) (fun h => ?_) | refine call_intro ((s_laws_eqSymbol x hsr)) (And.intro (And.intro rfl (And.intro rfl (And.intro rfl trivial))) (And.intro (And.intro rfl (And.intro rfl (And.intro rfl trivial))) trivial)) ?_ | refine Exists.intro _ (And.intro rfl ?_) | ((with_reducible show _ = _); rfl))
    all_goals try ((with_reducible refine Obl.mk ?_); first | ((with_reducible show regOk _ _ = true); kernel_rfl) | ((with_reducible show eqTyOk _ _ = true); kernel_rfl) | rfl | exact trivial | ((repeat' (first | exact trivial | refine And.intro ?_ ?_)); done) | decide | ((repeat' (first | exact List.forall_mem_nil _ | refine List.forall_mem_cons.2 (And.intro rfl ?_))); done) | (refine And.intro ?_ ?_ <;> simp only [List.length_map, List.length_append, List.length_cons, List.length_nil] <;> omega))
    all_goals try (exfalso; simp at h; done)
    conv => whnf
    refine ⟨⟨k + 1, by omega⟩, ?_, by dsimp only; omega⟩
    repeat' ((conv => whnf); first | refine Or.inl ?_ | refine And.intro (Obl.out (?_ : Obl _)) ?_ | refine ifB_intro (fun h => ?_) (fun h => ?_) | refine Exists.intro _ (And.intro rfl ?_) | ((with_reducible show _ = _); rfl))
    all_goals try ((with_reducible refine Obl.mk ?_); first | ((with_reducible show regOk _ _ = true); kernel_rfl) | ((with_reducible show eqTyOk _ _ = true); kernel_rfl) | rfl | exact trivial | ((repeat' (first | exact trivial | refine And.intro ?_ ?_)); done) | decide | ((repeat' (first | exact List.forall_mem_nil _ | refine List.forall_mem_cons.2 (And.intro rfl ?_))); done) | (refine And.intro ?_ ?_ <;> simp only [List.length_map, List.length_append, List.length_cons, List.length_nil] <;> omega))
    exact ⟨by dsimp only; rw [IntWalk.i64_in _ (by omega)]; rfl⟩
theorem s_laws_szSymbolS (xs : List (TSymbol)) (hw : xs.length ≤ maxLen ∧ ∀ y ∈ xs, y.wf) (left : Int) (hle0 : 0 ≤ left) (hle1 : left ≤ 1048576) : Sim.Spec Try.prog 185 [tvL 3 (xs.map TSymbol.tr), tvI left] (rI (szT (.lst 3 (xs.map TSymbol.tr)) left)) := by
  have hl2 : (xs.map TSymbol.tr).length ≤ 9223372036854775807 := by simpa [maxLen] using hw.1
  have hlen : (xs.map TSymbol.tr).length = xs.length := by simp
  rw [szT]
  refine spec_of_W hΓ hmix Try.func185 rfl (by decide) rfl ?_
  repeat' ((conv => whnf); first | refine Or.inl ?_ | refine And.intro (Obl.out (?_ : Obl _)) ?_ | refine ifB_intro (fun h => ?_) (fun h => ?_) | refine Exists.intro _ (And.intro rfl ?_) | ((with_reducible show _ = _); rfl))
  all_goals try ((with_reducible refine Obl.mk ?_); first | ((with_reducible show regOk _ _ = true); kernel_rfl) | ((with_reducible show eqTyOk _ _ = true); kernel_rfl) | rfl | exact trivial | ((repeat' (first | exact trivial | refine And.intro ?_ ?_)); done) | decide | ((repeat' (first | exact List.forall_mem_nil _ | refine List.forall_mem_cons.2 (And.intro rfl ?_))); done) | (refine And.intro ?_ ?_ <;> simp only [List.length_map, List.length_append, List.length_cons, List.length_nil] <;> omega))
  · refine ⟨congrArg (Tr.int _) ?_⟩
    have h2 := of_decide_eq_true h
    rw [IntWalk.i64_in _ (by omega)] at h2
    rw [if_pos h2]
  have h2 := of_decide_eq_false h
  rw [IntWalk.i64_in _ (by omega)] at h2 ⊢
  rw [if_neg h2]
  conv => whnf
  refine ⟨{ q : Nat × Int // q.1 ≤ xs.length ∧ 0 ≤ q.2 ∧ q.2 ≤ 1048576 ∧ szRs ((xs.drop q.1).map TSymbol.tr) q.2 = szRs (xs.map TSymbol.tr) (left - (xs.map TSymbol.tr).length) }, fun q => ⟨[(0, .r (.c (.t (.lst 3 (xs.map TSymbol.tr))))), (1, tI .i64 q.1.2), (5, tI .i64 (q.1.1 : Int))], [], []⟩, fun q => xs.length - q.1.1, ⟨(0, left - (xs.map TSymbol.tr).length), by simp, by dsimp only; omega, by dsimp only; omega, by simp⟩, ?_, ?_⟩
  · skip
    repeat' ((conv => whnf); first | refine Or.inl ?_ | refine And.intro (Obl.out (?_ : Obl _)) ?_ | refine ifB_intro (fun h => ?_) (fun h => ?_) | refine Exists.intro _ (And.intro rfl ?_) | ((with_reducible show _ = _); rfl))
    all_goals try ((with_reducible refine Obl.mk ?_); first | ((with_reducible show regOk _ _ = true); kernel_rfl) | ((with_reducible show eqTyOk _ _ = true); kernel_rfl) | rfl | exact trivial | ((repeat' (first | exact trivial | refine And.intro ?_ ?_)); done) | decide | ((repeat' (first | exact List.forall_mem_nil _ | refine List.forall_mem_cons.2 (And.intro rfl ?_))); done) | (refine And.intro ?_ ?_ <;> simp only [List.length_map, List.length_append, List.length_cons, List.length_nil] <;> omega))
  intro ⟨⟨k, lk⟩, hk, h0, h1, hsz⟩
  dsimp only at hk h0 h1 hsz ⊢
  repeat' ((conv => whnf); first | refine Or.inl ?_ | refine And.intro (Obl.out (?_ : Obl _)) ?_ | refine ifB_intro (fun h => ?_) (fun h => ?_) | refine Exists.intro _ (And.intro rfl ?_) | ((with_reducible show _ = _); rfl))
  all_goals try ((with_reducible refine Obl.mk ?_); first | ((with_reducible show regOk _ _ = true); kernel_rfl) | ((with_reducible show eqTyOk _ _ = true); kernel_rfl) | rfl | exact trivial | ((repeat' (first | exact trivial | refine And.intro ?_ ?_)); done) | decide | ((repeat' (first | exact List.forall_mem_nil _ | refine List.forall_mem_cons.2 (And.intro rfl ?_))); done) | (refine And.intro ?_ ?_ <;> simp only [List.length_map, List.length_append, List.length_cons, List.length_nil] <;> omega))
  · have hlt : k < xs.length := by have := of_decide_eq_true h; omega
    obtain ⟨x, hx⟩ := get_of_lt hlt
    have hxw := hw.2 x (List.mem_of_getElem? hx)
    rw [drop_at hx, List.map_cons, szRs] at hsz
    conv => whnf
    refine ⟨k, _, rfl, map_get hx, ?_⟩
    repeat' ((conv => whnf); first | refine Or.inl ?_ | refine And.intro (Obl.out (?_ : Obl _)) ?_ | refine ifB_intro (fun h => ?_) (fun h => ?_) | refine call_intro ((s_laws_szSymbol x hxw lk h0 h1)) (And.intro (And.intro rfl (And.intro rfl (And.intro rfl trivial))) (And.intro rfl trivial)) ?_ | refine Exists.intro _ (And.intro rfl ?_) | ((with_reducible show _ = _); rfl))
    all_goals try ((with_reducible refine Obl.mk ?_); first | ((with_reducible show regOk _ _ = true); kernel_rfl) | ((with_reducible show eqTyOk _ _ = true); kernel_rfl) | rfl | exact trivial | ((repeat' (first | exact trivial | refine And.intro ?_ ?_)); done) | decide | ((repeat' (first | exact List.forall_mem_nil _ | refine List.forall_mem_cons.2 (And.intro rfl ?_))); done) | (refine And.intro ?_ ?_ <;> simp only [List.length_map, List.length_append, List.length_cons, List.length_nil] <;> omega))
    · refine ⟨congrArg (Tr.int _) ?_⟩
      rw [← hsz, if_pos (of_decide_eq_true h)]
    have h3 := of_decide_eq_false h
    rw [if_neg h3] at hsz
    have hsm := szR_small (L := 1048576) _ _ (Int.not_lt.1 h3) h1
    conv => whnf
    refine ⟨⟨(k + 1, _), by dsimp only; omega, by dsimp only; exact Int.not_lt.1 h3, by dsimp only; exact Int.le_trans hsm.2 h1, hsz⟩, ?_, by dsimp only; omega⟩
    repeat' ((conv => whnf); first | refine Or.inl ?_ | refine And.intro (Obl.out (?_ : Obl _)) ?_ | refine ifB_intro (fun h => ?_) (fun h => ?_) | refine Exists.intro _ (And.intro rfl ?_) | ((with_reducible show _ = _); rfl))
    all_goals try ((with_reducible refine Obl.mk ?_); first | ((with_reducible show regOk _ _ = true); kernel_rfl) | ((with_reducible show eqTyOk _ _ = true); kernel_rfl) | rfl | exact trivial | ((repeat' (first | exact trivial | refine And.intro ?_ ?_)); done) | decide | ((repeat' (first | exact List.forall_mem_nil _ | refine List.forall_mem_cons.2 (And.intro rfl ?_))); done) | (refine And.intro ?_ ?_ <;> simp only [List.length_map, List.length_append, List.length_cons, List.length_nil] <;> omega))
    exact ⟨by dsimp only; rw [IntWalk.i64_in _ (by omega)]; rfl⟩
  · have hge : xs.length ≤ k := by have := of_decide_eq_false h; omega
    rw [List.drop_eq_nil_of_le hge, List.map_nil, szRs] at hsz
    exact ⟨congrArg (Tr.int _) hsz⟩
theorem s_laws_toImage (x : TImage) (hs : smallR 1048576 x.tr) : Sim.Spec Try.prog 132 [.agg x.tr] (.r (.agg (x.tr.map resC))) := by
  simp only [TImage.tr, smallR] at hs
  refine spec_of_W hΓ hmix Try.func132 rfl (by decide) rfl ?_
  repeat' ((conv => whnf); first | refine Or.inl ?_ | refine And.intro (Obl.out (?_ : Obl _)) ?_ | refine ifB_intro (fun h => ?_) (fun h => ?_) | refine call_intro ((s_laws_toSymbolS x.fSymbols hs.2.1)) (And.intro rfl trivial) ?_ | refine Exists.intro _ (And.intro rfl ?_) | ((with_reducible show _ = _); rfl))
  all_goals try ((with_reducible refine Obl.mk ?_); first | ((with_reducible show regOk _ _ = true); kernel_rfl) | ((with_reducible show eqTyOk _ _ = true); kernel_rfl) | rfl | exact trivial | ((repeat' (first | exact trivial | refine And.intro ?_ ?_)); done) | decide | ((repeat' (first | exact List.forall_mem_nil _ | refine List.forall_mem_cons.2 (And.intro rfl ?_))); done) | (refine And.intro ?_ ?_ <;> simp only [List.length_map, List.length_append, List.length_cons, List.length_nil] <;> omega))
theorem s_laws_eqImage (x : TImage) (hs : smallR 1048576 x.tr) : Sim.Spec Try.prog 139 [.agg x.tr, .agg x.tr] (rB true) := by
  simp only [TImage.tr, smallR] at hs
  refine spec_of_W hΓ hmix Try.func139 rfl (by decide) rfl ?_
  repeat' ((conv => whnf); first | refine Or.inl ?_ | refine And.intro (Obl.out (?_ : Obl _)) ?_ | refine ifB_intro (fun h => ?_) (fun h => ?_) | refine call_intro ((s_laws_eqSymbolS x.fSymbols hs.2.1)) (And.intro rfl (And.intro rfl trivial)) ?_ | refine Exists.intro _ (And.intro rfl ?_) | ((with_reducible show _ = _); rfl))
  all_goals try ((with_reducible refine Obl.mk ?_); first | ((with_reducible show regOk _ _ = true); kernel_rfl) | ((with_reducible show eqTyOk _ _ = true); kernel_rfl) | rfl | exact trivial | ((repeat' (first | exact trivial | refine And.intro ?_ ?_)); done) | decide | ((repeat' (first | exact List.forall_mem_nil _ | refine List.forall_mem_cons.2 (And.intro rfl ?_))); done) | (refine And.intro ?_ ?_ <;> simp only [List.length_map, List.length_append, List.length_cons, List.length_nil] <;> omega))
  all_goals simp at *
theorem s_laws_szImage (x : TImage) (hw : x.wf) (left : Int) (hle0 : 0 ≤ left) (hle1 : left ≤ 1048576) : Sim.Spec Try.prog 125 [.agg x.tr, tvI left] (rI (szR x.tr left)) := by
  simp only [TImage.wf, maxLen] at hw
  obtain ⟨Z, hz0⟩ : ∃ Z, Z = szR x.tr left := ⟨_, rfl⟩
  have hz := hz0
  rw [TImage.tr] at hz
  refine spec_of_W hΓ hmix Try.func125 rfl (by decide) rfl ?_
  repeat' ((conv => whnf); first | refine Or.inl ?_ | refine And.intro (Obl.out (?_ : Obl _)) ?_ | refine ifB_intro (fun h => ?_) (fun h => ?_) | refine Exists.intro _ (And.intro rfl ?_) | ((with_reducible show _ = _); rfl))
  all_goals try ((with_reducible refine Obl.mk ?_); first | ((with_reducible show regOk _ _ = true); kernel_rfl) | ((with_reducible show eqTyOk _ _ = true); kernel_rfl) | rfl | exact trivial | ((repeat' (first | exact trivial | refine And.intro ?_ ?_)); done) | decide | ((repeat' (first | exact List.forall_mem_nil _ | refine List.forall_mem_cons.2 (And.intro rfl ?_))); done) | (refine And.intro ?_ ?_ <;> simp only [List.length_map, List.length_append, List.length_cons, List.length_nil] <;> omega))
  · have h2 := of_decide_eq_true h
    rw [IntWalk.i64_in _ (by omega)] at h2
    exact ⟨congrArg (Tr.int _) (hz0.symm.trans (hz.trans (szR_str_neg h2))).symm⟩
  have g1 := of_decide_eq_false h
  rw [IntWalk.i64_in _ (by omega)] at g1
  clear h
  rw [IntWalk.i64_in (left - x.fCode.length) (by omega)]
  rw [szR_str g1] at hz
  repeat' ((conv => whnf); first | refine Or.inl ?_ | refine And.intro (Obl.out (?_ : Obl _)) ?_ | refine ifB_intro (fun h => ?_) (fun h => ?_) | refine Exists.intro _ (And.intro rfl ?_) | ((with_reducible show _ = _); rfl))
  all_goals try ((with_reducible refine Obl.mk ?_); first | ((with_reducible show regOk _ _ = true); kernel_rfl) | ((with_reducible show eqTyOk _ _ = true); kernel_rfl) | rfl | exact trivial | ((repeat' (first | exact trivial | refine And.intro ?_ ?_)); done) | decide | ((repeat' (first | exact List.forall_mem_nil _ | refine List.forall_mem_cons.2 (And.intro rfl ?_))); done) | (refine And.intro ?_ ?_ <;> simp only [List.length_map, List.length_append, List.length_cons, List.length_nil] <;> omega))
  repeat' ((conv => whnf); first | refine Or.inl ?_ | refine And.intro (Obl.out (?_ : Obl _)) ?_ | refine ifB_intro (fun h => ?_) (fun h => ?_) | refine call_intro ((s_laws_szSymbolS x.fSymbols (by simpa [maxLen] using hw.2) (left - x.fCode.length) (by omega) (by omega))) (And.intro rfl (And.intro rfl trivial)) ?_ | refine Exists.intro _ (And.intro rfl ?_) | ((with_reducible show _ = _); rfl))
  all_goals try ((with_reducible refine Obl.mk ?_); first | ((with_reducible show regOk _ _ = true); kernel_rfl) | ((with_reducible show eqTyOk _ _ = true); kernel_rfl) | rfl | exact trivial | ((repeat' (first | exact trivial | refine And.intro ?_ ?_)); done) | decide | ((repeat' (first | exact List.forall_mem_nil _ | refine List.forall_mem_cons.2 (And.intro rfl ?_))); done) | (refine And.intro ?_ ?_ <;> simp only [List.length_map, List.length_append, List.length_cons, List.length_nil] <;> omega))
  · exact ⟨congrArg (Tr.int _) (hz0.symm.trans (hz.trans (szR_neg (of_decide_eq_true h)))).symm⟩
  have g2 := of_decide_eq_false h
  clear h
  rw [szR_pos g2] at hz
  have b2 := (szT_small (L := 1048576) _ _ (Int.not_lt.1 g2) (by omega)).2
  all_goals exact ⟨congrArg (Tr.int _) ((hz0.symm.trans (hz.trans (szR_nil _))).symm)⟩
theorem s_laws_eqImageS (xs : List (TImage)) (hs : smallT 1048576 (.lst 2 (xs.map TImage.tr))) : Sim.Spec Try.prog 79 [tvL 2 (xs.map TImage.tr), tvL 2 (xs.map TImage.tr)] (rB true) := by
  have hl := small_len hs
  have hlen : (xs.map TImage.tr).length = xs.length := by simp
  refine spec_of_W hΓ hmix Try.func79 rfl (by decide) rfl ?_
  repeat' ((conv => whnf); first | refine Or.inl ?_ | refine And.intro (Obl.out (?_ : Obl _)) ?_ | refine ifB_intro (fun h => ?_) (fun h => ?_) | refine Exists.intro _ (And.intro rfl ?_) | ((with_reducible show _ = _); rfl))
  all_goals try ((with_reducible refine Obl.mk ?_); first | ((with_reducible show regOk _ _ = true); kernel_rfl) | ((with_reducible show eqTyOk _ _ = true); kernel_rfl) | rfl | exact trivial | ((repeat' (first | exact trivial | refine And.intro ?_ ?_)); done) | decide | ((repeat' (first | exact List.forall_mem_nil _ | refine List.forall_mem_cons.2 (And.intro rfl ?_))); done) | (refine And.intro ?_ ?_ <;> simp only [List.length_map, List.length_append, List.length_cons, List.length_nil] <;> omega))
  · simp at h
  conv => whnf
  refine ⟨{ k : Nat // k ≤ xs.length }, fun k => ⟨[(0, .r (.c (.t (.lst 2 (xs.map TImage.tr))))), (1, .r (.c (.t (.lst 2 (xs.map TImage.tr))))), (5, tI .i64 (k.1 : Int))], [], []⟩, fun k => xs.length - k.1, ⟨0, by omega⟩, ?_, ?_⟩
  · skip
    repeat' ((conv => whnf); first | refine Or.inl ?_ | refine And.intro (Obl.out (?_ : Obl _)) ?_ | refine ifB_intro (fun h => ?_) (fun h => ?_) | refine Exists.intro _ (And.intro rfl ?_) | ((with_reducible show _ = _); rfl))
    all_goals try ((with_reducible refine Obl.mk ?_); first | ((with_reducible show regOk _ _ = true); kernel_rfl) | ((with_reducible show eqTyOk _ _ = true); kernel_rfl) | rfl | exact trivial | ((repeat' (first | exact trivial | refine And.intro ?_ ?_)); done) | decide | ((repeat' (first | exact List.forall_mem_nil _ | refine List.forall_mem_cons.2 (And.intro rfl ?_))); done) | (refine And.intro ?_ ?_ <;> simp only [List.length_map, List.length_append, List.length_cons, List.length_nil] <;> omega))
  intro ⟨k, hk⟩
  dsimp only
  repeat' ((conv => whnf); first | refine Or.inl ?_ | refine And.intro (Obl.out (?_ : Obl _)) ?_ | refine ifB_intro (fun h => ?_) (fun h => ?_) | refine Exists.intro _ (And.intro rfl ?_) | ((with_reducible show _ = _); rfl))
  all_goals try ((with_reducible refine Obl.mk ?_); first | ((with_reducible show regOk _ _ = true); kernel_rfl) | ((with_reducible show eqTyOk _ _ = true); kernel_rfl) | rfl | exact trivial | ((repeat' (first | exact trivial | refine And.intro ?_ ?_)); done) | decide | ((repeat' (first | exact List.forall_mem_nil _ | refine List.forall_mem_cons.2 (And.intro rfl ?_))); done) | (refine And.intro ?_ ?_ <;> simp only [List.length_map, List.length_append, List.length_cons, List.length_nil] <;> omega))
  · have hlt : k < xs.length := by have := of_decide_eq_true h; omega
    obtain ⟨x, hx⟩ := get_of_lt hlt
    have hsr := smallRs_map hs (List.mem_of_getElem? hx)
    conv => whnf
    refine ⟨k, _, rfl, map_get hx, ?_⟩
    repeat' ((conv => whnf); first | refine Or.inl ?_ | refine And.intro (Obl.out (?_ : Obl _)) ?_ | refine ifB_intro (fun h => ?_) (fun h => ?_) | refine call_intro ((s_laws_eqImage x hsr)) (And.intro (And.intro rfl (And.intro rfl trivial)) (And.intro (And.intro rfl (And.intro rfl trivial)) trivial)) ?_ | refine Exists.intro _ (And.intro rfl ?_) | ((with_reducible show _ = _); rfl))
    all_goals try ((with_reducible refine Obl.mk ?_); first | ((with_reducible show regOk _ _ = true); kernel_rfl) | ((with_reducible show eqTyOk _ _ = true); kernel_rfl) | rfl | exact trivial | ((repeat' (first | exact trivial | refine And.intro ?_ ?_)); done) | decide | ((repeat' (first | exact List.forall_mem_nil _ | refine List.forall_mem_cons.2 (And.intro rfl ?_))); done) | (refine And.intro ?_ ?_ <;> simp only [List.length_map, List.length_append, List.length_cons, List.length_nil] <;> omega))
    conv => whnf
    refine ⟨k, _, rfl, map_get hx, ?_⟩
    repeat' ((conv => whnf); first | refine Or.inl ?_ | refine And.intro (Obl.out (?_ : Obl _)) ?_ | refine ifB_intro (fun h => ?_) (fun h => ?_) | refine call_intro ((s_laws_eqImage x hsr)) (And.intro (And.intro rfl (And.intro rfl trivial)) (And.intro (And.intro rfl (And.intro rfl trivial)) trivial)) ?_ | refine Exists.intro _ (And.intro rfl ?_) | ((with_reducible show _ = _); rfl))
    all_goals try ((with_reducible refine Obl.mk ?_); first | ((with_reducible show regOk _ _ = true); kernel_rfl) | ((with_reducible show eqTyOk _ _ = true); kernel_rfl) | rfl | exact trivial | ((repeat' (first | exact trivial | refine And.intro ?_ ?_)); done) | decide | ((repeat' (first | exact List.forall_mem_nil _ | refine List.forall_mem_cons.2 (And.intro rfl ?_))); done) | (refine And.intro ?_ ?_ <;> simp only [List.length_map, List.length_append, List.length_cons, List.length_nil] <;> omega))
    all_goals try (exfalso; simp at h; done)
    conv => whnf
    refine ⟨⟨k + 1, by omega⟩, ?_, by dsimp only; omega⟩
    repeat' ((conv => whnf); first | refine Or.inl ?_ | refine And.intro (Obl.out (?_ : Obl _)) ?_ | refine ifB_intro (fun h => ?_) (fun h => ?_) | refine Exists.intro _ (And.intro rfl ?_) | ((with_reducible show _ = _); rfl))
    all_goals try ((with_reducible refine Obl.mk ?_); first | ((with_reducible show regOk _ _ = true); kernel_rfl) | ((with_reducible show eqTyOk _ _ = true); kernel_rfl) | rfl | exact trivial | ((repeat' (first | exact trivial | refine And.intro ?_ ?_)); done) | decide | ((repeat' (first | exact List.forall_mem_nil _ | refine List.forall_mem_cons.2 (And.intro rfl ?_))); done) | (refine And.intro ?_ ?_ <;> simp only [List.length_map, List.length_append, List.length_cons, List.length_nil] <;> omega))
    exact ⟨by dsimp only; rw [IntWalk.i64_in _ (by omega)]; rfl⟩
theorem s_laws_szImageS (xs : List (TImage)) (hw : xs.length ≤ maxLen ∧ ∀ y ∈ xs, y.wf) (left : Int) (hle0 : 0 ≤ left) (hle1 : left ≤ 1048576) : Sim.Spec Try.prog 64 [tvL 2 (xs.map TImage.tr), tvI left] (rI (szT (.lst 2 (xs.map TImage.tr)) left)) := by
  have hl2 : (xs.map TImage.tr).length ≤ 9223372036854775807 := by simpa [maxLen] using hw.1
  have hlen : (xs.map TImage.tr).length = xs.length := by simp
  rw [szT]
  refine spec_of_W hΓ hmix Try.func64 rfl (by decide) rfl ?_
  repeat' ((conv => whnf); first | refine Or.inl ?_ | refine And.intro (Obl.out (?_ : Obl _)) ?_ | refine ifB_intro (fun h => ?_) (fun h => ?_) | refine Exists.intro _ (And.intro rfl ?_) | ((with_reducible show _ = _); rfl))
  all_goals try ((with_reducible refine Obl.mk ?_); first | ((with_reducible show regOk _ _ = true); kernel_rfl) | ((with_reducible show eqTyOk _ _ = true); kernel_rfl) | rfl | exact trivial | ((repeat' (first | exact trivial | refine And.intro ?_ ?_)); done) | decide | ((repeat' (first | exact List.forall_mem_nil _ | refine List.forall_mem_cons.2 (And.intro rfl ?_))); done) | (refine And.intro ?_ ?_ <;> simp only [List.length_map, List.length_append, List.length_cons, List.length_nil] <;> omega))
  · refine ⟨congrArg (Tr.int _) ?_⟩
    have h2 := of_decide_eq_true h
    rw [IntWalk.i64_in _ (by omega)] at h2
    rw [if_pos h2]
  have h2 := of_decide_eq_false h
  rw [IntWalk.i64_in _ (by omega)] at h2 ⊢
  rw [if_neg h2]
  conv => whnf
  refine ⟨{ q : Nat × Int // q.1 ≤ xs.length ∧ 0 ≤ q.2 ∧ q.2 ≤ 1048576 ∧ szRs ((xs.drop q.1).map TImage.tr) q.2 = szRs (xs.map TImage.tr) (left - (xs.map TImage.tr).length) }, fun q => ⟨[(0, .r (.c (.t (.lst 2 (xs.map TImage.tr))))), (1, tI .i64 q.1.2), (5, tI .i64 (q.1.1 : Int))], [], []⟩, fun q => xs.length - q.1.1, ⟨(0, left - (xs.map TImage.tr).length), by simp, by dsimp only; omega, by dsimp only; omega, by simp⟩, ?_, ?_⟩
  · skip
    repeat' ((conv => whnf); first | refine Or.inl ?_ | refine And.intro (Obl.out (?_ : Obl _)) ?_ | refine ifB_intro (fun h => ?_) (fun h => ?_) | refine Exists.intro _ (And.intro rfl ?_) | ((with_reducible show _ = _); rfl))
    all_goals try ((with_reducible refine Obl.mk ?_); first | ((with_reducible show regOk _ _ = true); kernel_rfl) | ((with_reducible show eqTyOk _ _ = true); kernel_rfl) | rfl | exact trivial | ((repeat' (first | exact trivial | refine And.intro ?_ ?_)); done) | decide | ((repeat' (first | exact List.forall_mem_nil _ | refine List.forall_mem_cons.2 (And.intro rfl ?_))); done) | (refine And.intro ?_ ?_ <;> simp only [List.length_map, List.length_append, List.length_cons, List.length_nil] <;> omega))
  intro ⟨⟨k, lk⟩, hk, h0, h1, hsz⟩
  dsimp only at hk h0 h1 hsz ⊢
  repeat' ((conv => whnf); first | refine Or.inl ?_ | refine And.intro (Obl.out (?_ : Obl _)) ?_ | refine ifB_intro (fun h => ?_) (fun h => ?_) | refine Exists.intro _ (And.intro rfl ?_) | ((with_reducible show _ = _); rfl))
  all_goals try ((with_reducible refine Obl.mk ?_); first | ((with_reducible show regOk _ _ = true); kernel_rfl) | ((with_reducible show eqTyOk _ _ = true); kernel_rfl) | rfl | exact trivial | ((repeat' (first | exact trivial | refine And.intro ?_ ?_)); done) | decide | ((repeat' (first | exact List.forall_mem_nil _ | refine List.forall_mem_cons.2 (And.intro rfl ?_))); done) | (refine And.intro ?_ ?_ <;> simp only [List.length_map, List.length_append, List.length_cons, List.length_nil] <;> omega))
  · have hlt : k < xs.length := by have := of_decide_eq_true h; omega
    obtain ⟨x, hx⟩ := get_of_lt hlt
    have hxw := hw.2 x (List.mem_of_getElem? hx)
    rw [drop_at hx, List.map_cons, szRs] at hsz
    conv => whnf
    refine ⟨k, _, rfl, map_get hx, ?_⟩
    repeat' ((conv => whnf); first | refine Or.inl ?_ | refine And.intro (Obl.out (?_ : Obl _)) ?_ | refine ifB_intro (fun h => ?_) (fun h => ?_) | refine call_intro ((s_laws_szImage x hxw lk h0 h1)) (And.intro (And.intro rfl (And.intro rfl trivial)) (And.intro rfl trivial)) ?_ | refine Exists.intro _ (And.intro rfl ?_) | ((with_reducible show _ = _); rfl))
    all_goals try ((with_reducible refine Obl.mk ?_); first | ((with_reducible show regOk _ _ = true); kernel_rfl) | ((with_reducible show eqTyOk _ _ = true); kernel_rfl) | rfl | exact trivial | ((repeat' (first | exact trivial | refine And.intro ?_ ?_)); done) | decide | ((repeat' (first | exact List.forall_mem_nil _ | refine List.forall_mem_cons.2 (And.intro rfl ?_))); done) | (refine And.intro ?_ ?_ <;> simp only [List.length_map, List.length_append, List.length_cons, List.length_nil] <;> omega))
    · refine ⟨congrArg (Tr.int _) ?_⟩
      rw [← hsz, if_pos (of_decide_eq_true h)]
    have h3 := of_decide_eq_false h
    rw [if_neg h3] at hsz
    have hsm := szR_small (L := 1048576) _ _ (Int.not_lt.1 h3) h1
    conv => whnf
    refine ⟨⟨(k + 1, _), by dsimp only; omega, by dsimp only; exact Int.not_lt.1 h3, by dsimp only; exact Int.le_trans hsm.2 h1, hsz⟩, ?_, by dsimp only; omega⟩
    repeat' ((conv => whnf); first | refine Or.inl ?_ | refine And.intro (Obl.out (?_ : Obl _)) ?_ | refine ifB_intro (fun h => ?_) (fun h => ?_) | refine Exists.intro _ (And.intro rfl ?_) | ((with_reducible show _ = _); rfl))
    all_goals try ((with_reducible refine Obl.mk ?_); first | ((with_reducible show regOk _ _ = true); kernel_rfl) | ((with_reducible show eqTyOk _ _ = true); kernel_rfl) | rfl | exact trivial | ((repeat' (first | exact trivial | refine And.intro ?_ ?_)); done) | decide | ((repeat' (first | exact List.forall_mem_nil _ | refine List.forall_mem_cons.2 (And.intro rfl ?_))); done) | (refine And.intro ?_ ?_ <;> simp only [List.length_map, List.length_append, List.length_cons, List.length_nil] <;> omega))
    exact ⟨by dsimp only; rw [IntWalk.i64_in _ (by omega)]; rfl⟩
  · have hge : xs.length ≤ k := by have := of_decide_eq_false h; omega
    rw [List.drop_eq_nil_of_le hge, List.map_nil, szRs] at hsz
    exact ⟨congrArg (Tr.int _) hsz⟩
theorem s_laws_eqSpace (x : TSpace) (hs : smallR 1048576 x.tr) : Sim.Spec Try.prog 18 [.agg x.tr, .agg x.tr] (rB true) := by
  simp only [TSpace.tr, smallR] at hs
  refine spec_of_W hΓ hmix Try.func18 rfl (by decide) rfl ?_
  repeat' ((conv => whnf); first | refine Or.inl ?_ | refine And.intro (Obl.out (?_ : Obl _)) ?_ | refine ifB_intro (fun h => ?_) (fun h => ?_) | refine call_intro ((s_laws_eqImageS x.fImages hs.1)) (And.intro rfl (And.intro rfl trivial)) ?_ | refine call_intro ((s_laws_eqIntS x.fBases x.fBases (small_nat hs.2.1))) (And.intro rfl (And.intro rfl trivial)) ?_ | refine call_intro ((s_laws_eqIntS x.fEntries x.fEntries (small_nat hs.2.2.1))) (And.intro rfl (And.intro rfl trivial)) ?_ | refine Exists.intro _ (And.intro rfl ?_) | ((with_reducible show _ = _); rfl))
  all_goals try ((with_reducible refine Obl.mk ?_); first | ((with_reducible show regOk _ _ = true); kernel_rfl) | ((with_reducible show eqTyOk _ _ = true); kernel_rfl) | rfl | exact trivial | ((repeat' (first | exact trivial | refine And.intro ?_ ?_)); done) | decide | ((repeat' (first | exact List.forall_mem_nil _ | refine List.forall_mem_cons.2 (And.intro rfl ?_))); done) | (refine And.intro ?_ ?_ <;> simp only [List.length_map, List.length_append, List.length_cons, List.length_nil] <;> omega))
  all_goals simp at *
theorem s_laws_szSpace (x : TSpace) (hw : x.wf) (left : Int) (hle0 : 0 ≤ left) (hle1 : left ≤ 1048576) : Sim.Spec Try.prog 11 [.agg x.tr, tvI left] (rI (szR x.tr left)) := by
  simp only [TSpace.wf, maxLen] at hw
  obtain ⟨Z, hz0⟩ : ∃ Z, Z = szR x.tr left := ⟨_, rfl⟩
  have hz := hz0
  rw [TSpace.tr] at hz
  refine spec_of_W hΓ hmix Try.func11 rfl (by decide) rfl ?_
  repeat' ((conv => whnf); first | refine Or.inl ?_ | refine And.intro (Obl.out (?_ : Obl _)) ?_ | refine ifB_intro (fun h => ?_) (fun h => ?_) | refine Exists.intro _ (And.intro rfl ?_) | ((with_reducible show _ = _); rfl))
  all_goals try ((with_reducible refine Obl.mk ?_); first | ((with_reducible show regOk _ _ = true); kernel_rfl) | ((with_reducible show eqTyOk _ _ = true); kernel_rfl) | rfl | exact trivial | ((repeat' (first | exact trivial | refine And.intro ?_ ?_)); done) | decide | ((repeat' (first | exact List.forall_mem_nil _ | refine List.forall_mem_cons.2 (And.intro rfl ?_))); done) | (refine And.intro ?_ ?_ <;> simp only [List.length_map, List.length_append, List.length_cons, List.length_nil] <;> omega))
  repeat' ((conv => whnf); first | refine Or.inl ?_ | refine And.intro (Obl.out (?_ : Obl _)) ?_ | refine ifB_intro (fun h => ?_) (fun h => ?_) | refine call_intro ((s_laws_szImageS x.fImages (by simpa [maxLen] using hw.1) left (by omega) (by omega))) (And.intro rfl (And.intro rfl trivial)) ?_ | refine Exists.intro _ (And.intro rfl ?_) | ((with_reducible show _ = _); rfl))
  all_goals try ((with_reducible refine Obl.mk ?_); first | ((with_reducible show regOk _ _ = true); kernel_rfl) | ((with_reducible show eqTyOk _ _ = true); kernel_rfl) | rfl | exact trivial | ((repeat' (first | exact trivial | refine And.intro ?_ ?_)); done) | decide | ((repeat' (first | exact List.forall_mem_nil _ | refine List.forall_mem_cons.2 (And.intro rfl ?_))); done) | (refine And.intro ?_ ?_ <;> simp only [List.length_map, List.length_append, List.length_cons, List.length_nil] <;> omega))
  · exact ⟨congrArg (Tr.int _) (hz0.symm.trans (hz.trans (szR_neg (of_decide_eq_true h)))).symm⟩
  have g1 := of_decide_eq_false h
  clear h
  rw [szR_pos g1] at hz
  have b1 := (szT_small (L := 1048576) _ _ (Int.not_lt.1 g1) (by omega)).2
  repeat' ((conv => whnf); first | refine Or.inl ?_ | refine And.intro (Obl.out (?_ : Obl _)) ?_ | refine ifB_intro (fun h => ?_) (fun h => ?_) | refine Exists.intro _ (And.intro rfl ?_) | ((with_reducible show _ = _); rfl))
  all_goals try ((with_reducible refine Obl.mk ?_); first | ((with_reducible show regOk _ _ = true); kernel_rfl) | ((with_reducible show eqTyOk _ _ = true); kernel_rfl) | rfl | exact trivial | ((repeat' (first | exact trivial | refine And.intro ?_ ?_)); done) | decide | ((repeat' (first | exact List.forall_mem_nil _ | refine List.forall_mem_cons.2 (And.intro rfl ?_))); done) | (refine And.intro ?_ ?_ <;> simp only [List.length_map, List.length_append, List.length_cons, List.length_nil] <;> omega))
  repeat' ((conv => whnf); first | refine Or.inl ?_ | refine And.intro (Obl.out (?_ : Obl _)) ?_ | refine ifB_intro (fun h => ?_) (fun h => ?_) | refine call_intro ((s_laws_szIntS x.fBases (by simpa [maxLen] using hw.2.1.1) (szT (.lst 2 (x.fImages.map TImage.tr)) left) (by omega) (by omega))) (And.intro rfl (And.intro rfl trivial)) ?_ | refine Exists.intro _ (And.intro rfl ?_) | ((with_reducible show _ = _); rfl))
  all_goals try ((with_reducible refine Obl.mk ?_); first | ((with_reducible show regOk _ _ = true); kernel_rfl) | ((with_reducible show eqTyOk _ _ = true); kernel_rfl) | rfl | exact trivial | ((repeat' (first | exact trivial | refine And.intro ?_ ?_)); done) | decide | ((repeat' (first | exact List.forall_mem_nil _ | refine List.forall_mem_cons.2 (And.intro rfl ?_))); done) | (refine And.intro ?_ ?_ <;> simp only [List.length_map, List.length_append, List.length_cons, List.length_nil] <;> omega))
  · exact ⟨congrArg (Tr.int _) (hz0.symm.trans (hz.trans (szR_neg (of_decide_eq_true h)))).symm⟩
  have g2 := of_decide_eq_false h
  clear h
  rw [szR_pos g2] at hz
  have b2 := (szT_small (L := 1048576) _ _ (Int.not_lt.1 g2) (by omega)).2
  repeat' ((conv => whnf); first | refine Or.inl ?_ | refine And.intro (Obl.out (?_ : Obl _)) ?_ | refine ifB_intro (fun h => ?_) (fun h => ?_) | refine Exists.intro _ (And.intro rfl ?_) | ((with_reducible show _ = _); rfl))
  all_goals try ((with_reducible refine Obl.mk ?_); first | ((with_reducible show regOk _ _ = true); kernel_rfl) | ((with_reducible show eqTyOk _ _ = true); kernel_rfl) | rfl | exact trivial | ((repeat' (first | exact trivial | refine And.intro ?_ ?_)); done) | decide | ((repeat' (first | exact List.forall_mem_nil _ | refine List.forall_mem_cons.2 (And.intro rfl ?_))); done) | (refine And.intro ?_ ?_ <;> simp only [List.length_map, List.length_append, List.length_cons, List.length_nil] <;> omega))
  repeat' ((conv => whnf); first | refine Or.inl ?_ | refine And.intro (Obl.out (?_ : Obl _)) ?_ | refine ifB_intro (fun h => ?_) (fun h => ?_) | refine call_intro ((s_laws_szIntS x.fEntries (by simpa [maxLen] using hw.2.2.1) (szT (.lst 1 (x.fBases.map intRow)) (szT (.lst 2 (x.fImages.map TImage.tr)) left)) (by omega) (by omega))) (And.intro rfl (And.intro rfl trivial)) ?_ | refine Exists.intro _ (And.intro rfl ?_) | ((with_reducible show _ = _); rfl))
  all_goals try ((with_reducible refine Obl.mk ?_); first | ((with_reducible show regOk _ _ = true); kernel_rfl) | ((with_reducible show eqTyOk _ _ = true); kernel_rfl) | rfl | exact trivial | ((repeat' (first | exact trivial | refine And.intro ?_ ?_)); done) | decide | ((repeat' (first | exact List.forall_mem_nil _ | refine List.forall_mem_cons.2 (And.intro rfl ?_))); done) | (refine And.intro ?_ ?_ <;> simp only [List.length_map, List.length_append, List.length_cons, List.length_nil] <;> omega))
  · exact ⟨congrArg (Tr.int _) (hz0.symm.trans (hz.trans (szR_neg (of_decide_eq_true h)))).symm⟩
  have g3 := of_decide_eq_false h
  clear h
  rw [szR_pos g3] at hz
  have b3 := (szT_small (L := 1048576) _ _ (Int.not_lt.1 g3) (by omega)).2
  all_goals exact ⟨congrArg (Tr.int _) ((hz0.symm.trans (hz.trans (szR_nil _))).symm)⟩
theorem s_laws_toMachine (x : TMachine) (hs : smallR 1048576 x.tr) : Sim.Spec Try.prog 15 [.agg x.tr] (.r (.agg (x.tr.map resC))) := by
  simp only [TMachine.tr, smallR] at hs
  refine spec_of_W hΓ hmix Try.func15 rfl (by decide) rfl ?_
  repeat' ((conv => whnf); first | refine Or.inl ?_ | refine And.intro (Obl.out (?_ : Obl _)) ?_ | refine ifB_intro (fun h => ?_) (fun h => ?_) | refine call_intro ((s_laws_toIntS x.fStack (small_nat hs.2.2.2.1))) (And.intro rfl trivial) ?_ | refine call_intro ((s_laws_toIntS x.fOut (small_nat hs.2.2.2.2.1))) (And.intro rfl trivial) ?_ | refine Exists.intro _ (And.intro rfl ?_) | ((with_reducible show _ = _); rfl))
  all_goals try ((with_reducible refine Obl.mk ?_); first | ((with_reducible show regOk _ _ = true); kernel_rfl) | ((with_reducible show eqTyOk _ _ = true); kernel_rfl) | rfl | exact trivial | ((repeat' (first | exact trivial | refine And.intro ?_ ?_)); done) | decide | ((repeat' (first | exact List.forall_mem_nil _ | refine List.forall_mem_cons.2 (And.intro rfl ?_))); done) | (refine And.intro ?_ ?_ <;> simp only [List.length_map, List.length_append, List.length_cons, List.length_nil] <;> omega))
theorem s_laws_eqMachine (x : TMachine) (hs : smallR 1048576 x.tr) : Sim.Spec Try.prog 17 [.agg x.tr, .agg x.tr] (rB true) := by
  simp only [TMachine.tr, smallR] at hs
  refine spec_of_W hΓ hmix Try.func17 rfl (by decide) rfl ?_
  repeat' ((conv => whnf); first | refine Or.inl ?_ | refine And.intro (Obl.out (?_ : Obl _)) ?_ | refine ifB_intro (fun h => ?_) (fun h => ?_) | refine call_intro ((s_laws_eqIntS x.fStack x.fStack (small_nat hs.2.2.2.1))) (And.intro rfl (And.intro rfl trivial)) ?_ | refine call_intro ((s_laws_eqIntS x.fOut x.fOut (small_nat hs.2.2.2.2.1))) (And.intro rfl (And.intro rfl trivial)) ?_ | refine Exists.intro _ (And.intro rfl ?_) | ((with_reducible show _ = _); rfl))
  all_goals try ((with_reducible refine Obl.mk ?_); first | ((with_reducible show regOk _ _ = true); kernel_rfl) | ((with_reducible show eqTyOk _ _ = true); kernel_rfl) | rfl | exact trivial | ((repeat' (first | exact trivial | refine And.intro ?_ ?_)); done) | decide | ((repeat' (first | exact List.forall_mem_nil _ | refine List.forall_mem_cons.2 (And.intro rfl ?_))); done) | (refine And.intro ?_ ?_ <;> simp only [List.length_map, List.length_append, List.length_cons, List.length_nil] <;> omega))
  all_goals simp at *
theorem s_laws_szMachine (x : TMachine) (hw : x.wf) (left : Int) (hle0 : 0 ≤ left) (hle1 : left ≤ 1048576) : Sim.Spec Try.prog 12 [.agg x.tr, tvI left] (rI (szR x.tr left)) := by
  simp only [TMachine.wf, maxLen] at hw
  obtain ⟨Z, hz0⟩ : ∃ Z, Z = szR x.tr left := ⟨_, rfl⟩
  have hz := hz0
  rw [TMachine.tr] at hz
  refine spec_of_W hΓ hmix Try.func12 rfl (by decide) rfl ?_
  rw [szR_int (by omega)] at hz
  rw [szR_int (by omega)] at hz
  rw [szR_int (by omega)] at hz
  repeat' ((conv => whnf); first | refine Or.inl ?_ | refine And.intro (Obl.out (?_ : Obl _)) ?_ | refine ifB_intro (fun h => ?_) (fun h => ?_) | refine Exists.intro _ (And.intro rfl ?_) | ((with_reducible show _ = _); rfl))
  all_goals try ((with_reducible refine Obl.mk ?_); first | ((with_reducible show regOk _ _ = true); kernel_rfl) | ((with_reducible show eqTyOk _ _ = true); kernel_rfl) | rfl | exact trivial | ((repeat' (first | exact trivial | refine And.intro ?_ ?_)); done) | decide | ((repeat' (first | exact List.forall_mem_nil _ | refine List.forall_mem_cons.2 (And.intro rfl ?_))); done) | (refine And.intro ?_ ?_ <;> simp only [List.length_map, List.length_append, List.length_cons, List.length_nil] <;> omega))
  repeat' ((conv => whnf); first | refine Or.inl ?_ | refine And.intro (Obl.out (?_ : Obl _)) ?_ | refine ifB_intro (fun h => ?_) (fun h => ?_) | refine call_intro ((s_laws_szIntS x.fStack (by simpa [maxLen] using hw.2.2.2.1.1) left (by omega) (by omega))) (And.intro rfl (And.intro rfl trivial)) ?_ | refine Exists.intro _ (And.intro rfl ?_) | ((with_reducible show _ = _); rfl))
  all_goals try ((with_reducible refine Obl.mk ?_); first | ((with_reducible show regOk _ _ = true); kernel_rfl) | ((with_reducible show eqTyOk _ _ = true); kernel_rfl) | rfl | exact trivial | ((repeat' (first | exact trivial | refine And.intro ?_ ?_)); done) | decide | ((repeat' (first | exact List.forall_mem_nil _ | refine List.forall_mem_cons.2 (And.intro rfl ?_))); done) | (refine And.intro ?_ ?_ <;> simp only [List.length_map, List.length_append, List.length_cons, List.length_nil] <;> omega))
  · exact ⟨congrArg (Tr.int _) (hz0.symm.trans (hz.trans (szR_neg (of_decide_eq_true h)))).symm⟩
  have g1 := of_decide_eq_false h
  clear h
  rw [szR_pos g1] at hz
  have b1 := (szT_small (L := 1048576) _ _ (Int.not_lt.1 g1) (by omega)).2
  repeat' ((conv => whnf); first | refine Or.inl ?_ | refine And.intro (Obl.out (?_ : Obl _)) ?_ | refine ifB_intro (fun h => ?_) (fun h => ?_) | refine Exists.intro _ (And.intro rfl ?_) | ((with_reducible show _ = _); rfl))
  all_goals try ((with_reducible refine Obl.mk ?_); first | ((with_reducible show regOk _ _ = true); kernel_rfl) | ((with_reducible show eqTyOk _ _ = true); kernel_rfl) | rfl | exact trivial | ((repeat' (first | exact trivial | refine And.intro ?_ ?_)); done) | decide | ((repeat' (first | exact List.forall_mem_nil _ | refine List.forall_mem_cons.2 (And.intro rfl ?_))); done) | (refine And.intro ?_ ?_ <;> simp only [List.length_map, List.length_append, List.length_cons, List.length_nil] <;> omega))
  repeat' ((conv => whnf); first | refine Or.inl ?_ | refine And.intro (Obl.out (?_ : Obl _)) ?_ | refine ifB_intro (fun h => ?_) (fun h => ?_) | refine call_intro ((s_laws_szIntS x.fOut (by simpa [maxLen] using hw.2.2.2.2.1.1) (szT (.lst 1 (x.fStack.map intRow)) left) (by omega) (by omega))) (And.intro rfl (And.intro rfl trivial)) ?_ | refine Exists.intro _ (And.intro rfl ?_) | ((with_reducible show _ = _); rfl))
  all_goals try ((with_reducible refine Obl.mk ?_); first | ((with_reducible show regOk _ _ = true); kernel_rfl) | ((with_reducible show eqTyOk _ _ = true); kernel_rfl) | rfl | exact trivial | ((repeat' (first | exact trivial | refine And.intro ?_ ?_)); done) | decide | ((repeat' (first | exact List.forall_mem_nil _ | refine List.forall_mem_cons.2 (And.intro rfl ?_))); done) | (refine And.intro ?_ ?_ <;> simp only [List.length_map, List.length_append, List.length_cons, List.length_nil] <;> omega))
  · exact ⟨congrArg (Tr.int _) (hz0.symm.trans (hz.trans (szR_neg (of_decide_eq_true h)))).symm⟩
  have g2 := of_decide_eq_false h
  clear h
  rw [szR_pos g2] at hz
  have b2 := (szT_small (L := 1048576) _ _ (Int.not_lt.1 g2) (by omega)).2
  rw [szR_int (by omega)] at hz
  rw [szR_int (by omega)] at hz
  all_goals exact ⟨congrArg (Tr.int _) ((hz0.symm.trans (hz.trans (szR_nil _))).symm)⟩
end Go.Proofs.Ytehniaekfijmiaa
