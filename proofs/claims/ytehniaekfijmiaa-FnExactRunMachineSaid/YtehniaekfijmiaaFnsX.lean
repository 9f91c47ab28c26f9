/- SpaceOk, locate in both texts. -/
import Derived.Test.YtehniaekfijmiaaFnsW
namespace Go.Proofs.Ytehniaekfijmiaa
open Go.Sim
set_option maxRecDepth 100000
set_option maxHeartbeats 4000000
theorem imgOkF_mem {code : List UInt8} : ∀ {l : List TSymbol} {seen : List TSymbol} {a : Nat}, imgOkF code seen a l = true → a ≤ code.length → ∀ x ∈ l, (a : Int) ≤ x.fStart ∧ 1 ≤ x.fSize ∧ x.fStart + x.fSize ≤ code.length
  | [], _, _, _, _, x, hx => by cases hx
  | y :: l, seen, a, h, ha, x, hx => by
    rw [imgOkF, Bool.and_eq_true, imgAt, Bool.and_eq_true, imgPre_iff] at h
    obtain ⟨⟨⟨p1, p2, p3, _⟩, _⟩, h2⟩ := h
    rcases List.mem_cons.1 hx with rfl | hx
    · omega
    · have := imgOkF_mem h2 (by omega) x hx
      omega
theorem imgOkF_hit {code : List UInt8} : ∀ {l : List TSymbol} {seen : List TSymbol} {a j k : Nat} {x : TSymbol}, imgOkF code seen a l = true → a ≤ code.length → code.length ≤ 1000000 → l[k]? = some x → symAtF x.fStart l j = ((j + k : Nat) : Int)
  | [], _, _, _, _, _, _, _, _, hx => by simp at hx
  | y :: l, seen, a, j, k, x, h, ha, hc, hx => by
    have hall := imgOkF_mem h ha
    rw [imgOkF, Bool.and_eq_true, imgAt, Bool.and_eq_true, imgPre_iff] at h
    obtain ⟨⟨⟨p1, p2, p3, _⟩, _⟩, h2⟩ := h
    rw [symAtF]
    match k, hx with
    | 0, hx =>
      rw [List.getElem?_cons_zero] at hx
      injection hx with hx
      subst hx
      have hh : symHit y.fStart y = true := by
        unfold symHit
        rw [Bool.and_eq_true, Bool.and_eq_true, Bool.and_eq_true, within_iff, within_iff, decide_eq_true_eq, decide_eq_true_eq]
        omega
      rw [if_pos hh]
      rfl
    | k + 1, hx =>
      rw [List.getElem?_cons_succ] at hx
      have h3 := imgOkF_mem h2 (by omega) x (List.mem_of_getElem? hx)
      have hh : ¬ symHit x.fStart y = true := by
        unfold symHit
        rw [Bool.and_eq_true, Bool.and_eq_true, Bool.and_eq_true, within_iff, within_iff, decide_eq_true_eq, decide_eq_true_eq]
        omega
      rw [if_neg hh, imgOkF_hit h2 (by omega) hc hx]
      congr 1
      omega
def entryIn (i : TImage) (b e : Int) : Bool := i.fSymbols.any fun x => b + x.fStart == e
def loc2 (i0 i1 : TImage) (b0 b1 e : Int) : Int × Int :=
  if b0 ≤ e ∧ e < b0 + i0.fCode.length then (0, e - b0) else if b1 ≤ e ∧ e < b1 + i1.fCode.length then (1, e - b1) else (-1, -1)
def startAt (i : TImage) (off : Int) : Bool := decide (0 ≤ symbolAt i.fSymbols off) && (match i.fSymbols[(symbolAt i.fSymbols off).toNat]? with | some x => x.fStart == off | none => false)
theorem imageOk_iff {i : TImage} : imageOk i = true ↔ i.fCode.length ≤ 1000000 ∧ imgOkF i.fCode [] 0 i.fSymbols = true := by
  rw [imageOk, Bool.and_eq_true, decide_eq_true_eq]
theorem startAt_iff {i : TImage} (h : imageOk i = true) {off : Int} : startAt i off = true ↔ ∃ x ∈ i.fSymbols, x.fStart = off := by
  obtain ⟨hc, ho⟩ := imageOk_iff.1 h
  unfold startAt
  constructor
  · intro h1
    rw [Bool.and_eq_true] at h1
    split at h1
    · rename_i x hx
      exact ⟨x, List.mem_of_getElem? hx, by simpa using h1.2⟩
    · cases h1.2
  · rintro ⟨x, hx, rfl⟩
    obtain ⟨k, hk⟩ := List.mem_iff_getElem?.1 hx
    have := imgOkF_hit (j := 0) ho (by omega) hc hk
    rw [Nat.zero_add] at this
    rw [symbolAt, this, Int.toNat_natCast, hk]
    simp
def entryS (i0 i1 : TImage) (b0 b1 e : Int) : Bool :=
  if (loc2 i0 i1 b0 b1 e).1 = 0 then startAt i0 (loc2 i0 i1 b0 b1 e).2 else if (loc2 i0 i1 b0 b1 e).1 = 1 then startAt i1 (loc2 i0 i1 b0 b1 e).2 else false
def overlap (i0 i1 : TImage) (b0 b1 : Int) : Bool := decide (0 < i0.fCode.length) && (decide (0 < i1.fCode.length) && (decide (b0 < b1 + i1.fCode.length) && decide (b1 < b0 + i0.fCode.length)))
theorem entry_same {i0 i1 : TImage} {b0 b1 e : Int} (h0 : imageOk i0 = true) (h1 : imageOk i1 = true) (ho : overlap i0 i1 b0 b1 = false) : entryS i0 i1 b0 b1 e = (entryIn i0 b0 e || entryIn i1 b1 e) := by
  have hno : ¬ (0 < i0.fCode.length ∧ 0 < i1.fCode.length ∧ b0 < b1 + i1.fCode.length ∧ b1 < b0 + i0.fCode.length) := by
    intro ⟨a, b, c, d⟩
    rw [overlap, decide_eq_true a, decide_eq_true b, decide_eq_true c, decide_eq_true d] at ho
    cases ho
  have m0 := imgOkF_mem (imageOk_iff.1 h0).2 (by omega)
  have m1 := imgOkF_mem (imageOk_iff.1 h1).2 (by omega)
  have e0 : ∀ {i : TImage} {b : Int}, entryIn i b e = true ↔ ∃ x ∈ i.fSymbols, b + x.fStart = e := by
    intro i b
    rw [entryIn, List.any_eq_true]
    simp only [beq_iff_eq]
  rw [Bool.eq_iff_iff, Bool.or_eq_true, e0, e0, entryS, loc2]
  by_cases c0 : b0 ≤ e ∧ e < b0 + i0.fCode.length
  · rw [if_pos c0, if_pos rfl, startAt_iff h0]
    constructor
    · rintro ⟨x, hx, h⟩
      exact .inl ⟨x, hx, by dsimp only at h; omega⟩
    · rintro (⟨x, hx, h⟩ | ⟨x, hx, h⟩)
      · exact ⟨x, hx, by dsimp only; omega⟩
      · have := m1 x hx
        exfalso; apply hno; omega
  · rw [if_neg c0]
    by_cases c1 : b1 ≤ e ∧ e < b1 + i1.fCode.length
    · rw [if_pos c1, if_neg (by simp), if_pos rfl, startAt_iff h1]
      constructor
      · rintro ⟨x, hx, h⟩
        exact .inr ⟨x, hx, by dsimp only at h; omega⟩
      · rintro (⟨x, hx, h⟩ | ⟨x, hx, h⟩)
        · have := m0 x hx
          exfalso; apply c0; omega
        · exact ⟨x, hx, by dsimp only; omega⟩
    · rw [if_neg c1, if_neg (by decide), if_neg (by decide)]
      constructor
      · intro h; cases h
      · rintro (⟨x, hx, h⟩ | ⟨x, hx, h⟩)
        · have := m0 x hx
          exfalso; apply c0; omega
        · have := m1 x hx
          exfalso; apply c1; omega
def spaceOk2 (i0 i1 : TImage) (b0 b1 : Int) (es : List Int) : Bool :=
  within es.length 1 6 && (imageOk i0 && (within b0 1 1000000 && (imageOk i1 && (within b1 1 1000000 && (!(overlap i0 i1 b0 b1) && es.all fun e => entryIn i0 b0 e || entryIn i1 b1 e)))))
def spaceOk (s : TSpace) : Bool := match s.fImages, s.fBases with
  | [i0, i1], [b0, b1] => spaceOk2 i0 i1 b0 b1 s.fEntries
  | _, _ => false
abbrev spBox (i0 i1 : TImage) (b0 b1 : Int) (es : List Int) : List AC := [.t (.lst 2 [i0.tr, i1.tr]), .t (.lst 1 [intRow b0, intRow b1]), .t (.lst 1 (es.map intRow))]
theorem s_impl_isEntry (i0 i1 : TImage) (b0 b1 e : Int) (es : List Int) (h0 : ∀ x ∈ i0.fSymbols, 0 ≤ x.fStart ∧ x.fStart ≤ 1000000) (h1 : ∀ x ∈ i1.fSymbols, 0 ≤ x.fStart ∧ x.fStart ≤ 1000000) (hb0 : 0 ≤ b0 ∧ b0 ≤ 1000000) (hb1 : 0 ≤ b1 ∧ b1 ≤ 1000000) (hl0 : i0.fSymbols.length ≤ 1048576) (hl1 : i1.fSymbols.length ≤ 1048576) : Sim.Spec Try.prog 134 [.agg (TSpace.mk [i0, i1] [b0, b1] es).tr, tvI e] (rB (entryIn i0 b0 e || entryIn i1 b1 e)) := by
  refine spec_of_W hΓ hmix Try.func134 rfl (by decide) rfl ?_
  repeat' ((conv => whnf); first | refine Or.inl ?_ | refine And.intro (Obl.out (?_ : Obl _)) ?_ | refine ifB_intro (fun h => ?_) (fun h => ?_) | refine Exists.intro _ (And.intro rfl ?_) | ((with_reducible show _ = _); rfl))
  all_goals try ((with_reducible refine Obl.mk ?_); first | ((with_reducible show regOk _ _ = true); kernel_rfl) | ((with_reducible show eqTyOk _ _ = true); kernel_rfl) | rfl | exact trivial | ((repeat' (first | exact trivial | refine And.intro ?_ ?_)); done) | decide | ((repeat' (first | exact List.forall_mem_nil _ | refine List.forall_mem_cons.2 (And.intro rfl ?_))); done) | (refine And.intro ?_ ?_ <;> simp only [List.length_map, List.length_append, List.length_cons, List.length_nil] <;> omega))
  conv => whnf
  refine ⟨{ k : Nat // k ≤ 2 ∧ (1 ≤ k → entryIn i0 b0 e = false) ∧ (2 ≤ k → entryIn i1 b1 e = false) }, fun k => ⟨[(1, tI .i64 e), (2, .r (.c (.ptr (2, 0, 0) 0))), (10, .r (.c (.t (.lst 2 [i0.tr, i1.tr])))), (11, tI .i64 2), (12, tI .i64 (k.1 : Int))], [((2, 0, 0), some (.box (spBox i0 i1 b0 b1 es)))], [2]⟩, fun k => 2 - k.1, ⟨0, by omega, by omega, by omega⟩, ?_, ?_⟩
  · skip
    repeat' ((conv => whnf); first | refine Or.inl ?_ | refine And.intro (Obl.out (?_ : Obl _)) ?_ | refine ifB_intro (fun h => ?_) (fun h => ?_) | refine Exists.intro _ (And.intro rfl ?_) | ((with_reducible show _ = _); rfl))
    all_goals try ((with_reducible refine Obl.mk ?_); first | ((with_reducible show regOk _ _ = true); kernel_rfl) | ((with_reducible show eqTyOk _ _ = true); kernel_rfl) | rfl | exact trivial | ((repeat' (first | exact trivial | refine And.intro ?_ ?_)); done) | decide | ((repeat' (first | exact List.forall_mem_nil _ | refine List.forall_mem_cons.2 (And.intro rfl ?_))); done) | (refine And.intro ?_ ?_ <;> simp only [List.length_map, List.length_append, List.length_cons, List.length_nil] <;> omega))
  intro ⟨k, hk, hk1, hk2⟩
  dsimp only
  by_cases hlt : k < 2
  · obtain ⟨i, b, hi, hb, hst, hbb, hll, hyes, hno⟩ : ∃ (i : TImage) (b : Int), ([i0.tr, i1.tr] : List (List Tr))[k]? = some i.tr ∧ ([intRow b0, intRow b1] : List (List Tr))[k]? = some (intRow b) ∧ (∀ x ∈ i.fSymbols, 0 ≤ x.fStart ∧ x.fStart ≤ 1000000) ∧ (0 ≤ b ∧ b ≤ 1000000) ∧ i.fSymbols.length ≤ 1048576 ∧
        (entryIn i b e = true → (entryIn i0 b0 e || entryIn i1 b1 e) = true) ∧ (entryIn i b e = false → (1 ≤ k + 1 → entryIn i0 b0 e = false) ∧ (2 ≤ k + 1 → entryIn i1 b1 e = false)) := by
      have : k = 0 ∨ k = 1 := by omega
      rcases this with rfl | rfl
      · exact ⟨i0, b0, rfl, rfl, h0, hb0, hl0, fun h => by rw [h]; rfl, fun h => ⟨fun _ => h, fun h2 => by omega⟩⟩
      · exact ⟨i1, b1, rfl, rfl, h1, hb1, hl1, fun h => by rw [h]; simp, fun h => ⟨fun _ => hk1 (by omega), fun _ => h⟩⟩
    have hlen : (i.fSymbols.map TSymbol.tr).length = i.fSymbols.length := by simp
    repeat' ((conv => whnf); first | refine Or.inl ?_ | refine And.intro (Obl.out (?_ : Obl _)) ?_ | refine ifB_intro (fun h => ?_) (fun h => ?_) | refine ⟨k, i.tr, rfl, hi, ?_⟩ | refine Exists.intro _ (And.intro rfl ?_) | ((with_reducible show _ = _); rfl))
    all_goals try ((with_reducible refine Obl.mk ?_); first | ((with_reducible show regOk _ _ = true); kernel_rfl) | ((with_reducible show eqTyOk _ _ = true); kernel_rfl) | rfl | exact trivial | ((repeat' (first | exact trivial | refine And.intro ?_ ?_)); done) | decide | ((repeat' (first | exact List.forall_mem_nil _ | refine List.forall_mem_cons.2 (And.intro rfl ?_))); done) | (refine And.intro ?_ ?_ <;> simp only [List.length_map, List.length_append, List.length_cons, List.length_nil] <;> omega))
    all_goals try (exfalso; have h' := of_decide_eq_false h; omega)
    conv => whnf
    refine ⟨{ j : Nat // j ≤ i.fSymbols.length ∧ ((i.fSymbols.take j).any fun x => b + x.fStart == e) = false }, fun j => ⟨[(1, tI .i64 e), (2, .r (.c (.ptr (2, 0, 0) 0))), (5, tI .i64 (k : Int)), (10, .r (.c (.t (.lst 2 [i0.tr, i1.tr])))), (11, tI .i64 2), (12, tI .i64 (k : Int)), (18, .r (.c (.t (.lst 3 (i.fSymbols.map TSymbol.tr))))), (19, tI .i64 ((i.fSymbols.map TSymbol.tr).length : Int)), (20, tI .i64 (j.1 : Int))], [((2, 0, 0), some (.box (spBox i0 i1 b0 b1 es)))], [2]⟩, fun j => i.fSymbols.length - j.1, ⟨0, by omega, rfl⟩, ?_, ?_⟩
    · skip
      repeat' ((conv => whnf); first | refine Or.inl ?_ | refine And.intro (Obl.out (?_ : Obl _)) ?_ | refine ifB_intro (fun h => ?_) (fun h => ?_) | refine Exists.intro _ (And.intro rfl ?_) | ((with_reducible show _ = _); rfl))
      all_goals try ((with_reducible refine Obl.mk ?_); first | ((with_reducible show regOk _ _ = true); kernel_rfl) | ((with_reducible show eqTyOk _ _ = true); kernel_rfl) | rfl | exact trivial | ((repeat' (first | exact trivial | refine And.intro ?_ ?_)); done) | decide | ((repeat' (first | exact List.forall_mem_nil _ | refine List.forall_mem_cons.2 (And.intro rfl ?_))); done) | (refine And.intro ?_ ?_ <;> simp only [List.length_map, List.length_append, List.length_cons, List.length_nil] <;> omega))
    intro ⟨j, hj, hr⟩
    dsimp only
    by_cases hjl : j < i.fSymbols.length
    · obtain ⟨x, hx⟩ := get_of_lt hjl
      have hxm := List.mem_of_getElem? hx
      have hxs := hst x hxm
      have hw1 : IntKind.i64.wrap (b + x.fStart) = b + x.fStart := IntWalk.i64_in _ (by omega)
      have hnext : ((i.fSymbols.take (j + 1)).any fun x => b + x.fStart == e) = (b + x.fStart == e) := by
        obtain ⟨hk', rfl⟩ := List.getElem?_eq_some_iff.1 hx
        rw [List.take_succ_eq_append_getElem hk', List.any_append, hr, Bool.false_or]
        simp
      cases hxe : (b + x.fStart == e) with
      | true =>
        have hall := hyes (by rw [entryIn, List.any_eq_true]; exact ⟨x, hxm, hxe⟩)
        repeat' ((conv => whnf); first | refine Or.inl ?_ | refine And.intro (Obl.out (?_ : Obl _)) ?_ | refine ifB_intro (fun h => ?_) (fun h => ?_) | refine ⟨j, x.tr, rfl, map_get hx, ?_⟩ | refine ⟨k, intRow b, rfl, hb, ?_⟩ | refine Exists.intro _ (And.intro rfl ?_) | ((with_reducible show _ = _); rfl))
        all_goals try ((with_reducible refine Obl.mk ?_); first | ((with_reducible show regOk _ _ = true); kernel_rfl) | ((with_reducible show eqTyOk _ _ = true); kernel_rfl) | rfl | exact trivial | ((repeat' (first | exact trivial | refine And.intro ?_ ?_)); done) | decide | ((repeat' (first | exact List.forall_mem_nil _ | refine List.forall_mem_cons.2 (And.intro rfl ?_))); done) | (refine And.intro ?_ ?_ <;> simp only [List.length_map, List.length_append, List.length_cons, List.length_nil] <;> omega))
        all_goals first
          | (exfalso; have h' := of_decide_eq_false h; rw [hlen] at h'; omega)
          | exact ⟨by rw [hall]⟩
          | (exfalso; rw [hw1, hxe] at h; simp at h; done)
      | false =>
        rw [hxe] at hnext
        repeat' ((conv => whnf); first | refine Or.inl ?_ | refine And.intro (Obl.out (?_ : Obl _)) ?_ | refine ifB_intro (fun h => ?_) (fun h => ?_) | refine ⟨j, x.tr, rfl, map_get hx, ?_⟩ | refine ⟨k, intRow b, rfl, hb, ?_⟩ | refine Exists.intro _ (And.intro rfl ?_) | ((with_reducible show _ = _); rfl))
        all_goals try ((with_reducible refine Obl.mk ?_); first | ((with_reducible show regOk _ _ = true); kernel_rfl) | ((with_reducible show eqTyOk _ _ = true); kernel_rfl) | rfl | exact trivial | ((repeat' (first | exact trivial | refine And.intro ?_ ?_)); done) | decide | ((repeat' (first | exact List.forall_mem_nil _ | refine List.forall_mem_cons.2 (And.intro rfl ?_))); done) | (refine And.intro ?_ ?_ <;> simp only [List.length_map, List.length_append, List.length_cons, List.length_nil] <;> omega))
        all_goals try (exfalso; first | (have h' := of_decide_eq_false h; rw [hlen] at h'; omega) | (rw [hw1, hxe] at h; simp at h; done))
        conv => whnf
        refine ⟨⟨j + 1, by omega, hnext⟩, ?_, by dsimp only; omega⟩
        repeat' ((conv => whnf); first | refine Or.inl ?_ | refine And.intro (Obl.out (?_ : Obl _)) ?_ | refine ifB_intro (fun h => ?_) (fun h => ?_) | refine Exists.intro _ (And.intro rfl ?_) | ((with_reducible show _ = _); rfl))
        all_goals try ((with_reducible refine Obl.mk ?_); first | ((with_reducible show regOk _ _ = true); kernel_rfl) | ((with_reducible show eqTyOk _ _ = true); kernel_rfl) | rfl | exact trivial | ((repeat' (first | exact trivial | refine And.intro ?_ ?_)); done) | decide | ((repeat' (first | exact List.forall_mem_nil _ | refine List.forall_mem_cons.2 (And.intro rfl ?_))); done) | (refine And.intro ?_ ?_ <;> simp only [List.length_map, List.length_append, List.length_cons, List.length_nil] <;> omega))
        all_goals exact ⟨by dsimp only; rw [IntWalk.i64_in _ (by omega)]; rfl⟩
    · have hjn : i.fSymbols.length ≤ j := by omega
      rw [List.take_of_length_le hjn] at hr
      have hnx := hno hr
      repeat' ((conv => whnf); first | refine Or.inl ?_ | refine And.intro (Obl.out (?_ : Obl _)) ?_ | refine ifB_intro (fun h => ?_) (fun h => ?_) | refine Exists.intro _ (And.intro rfl ?_) | ((with_reducible show _ = _); rfl))
      all_goals try ((with_reducible refine Obl.mk ?_); first | ((with_reducible show regOk _ _ = true); kernel_rfl) | ((with_reducible show eqTyOk _ _ = true); kernel_rfl) | rfl | exact trivial | ((repeat' (first | exact trivial | refine And.intro ?_ ?_)); done) | decide | ((repeat' (first | exact List.forall_mem_nil _ | refine List.forall_mem_cons.2 (And.intro rfl ?_))); done) | (refine And.intro ?_ ?_ <;> simp only [List.length_map, List.length_append, List.length_cons, List.length_nil] <;> omega))
      all_goals try (exfalso; have h' := of_decide_eq_true h; rw [hlen] at h'; omega)
      conv => whnf
      refine ⟨⟨k + 1, by omega, hnx⟩, ?_, by dsimp only; omega⟩
      repeat' ((conv => whnf); first | refine Or.inl ?_ | refine And.intro (Obl.out (?_ : Obl _)) ?_ | refine ifB_intro (fun h => ?_) (fun h => ?_) | refine Exists.intro _ (And.intro rfl ?_) | ((with_reducible show _ = _); rfl))
      all_goals try ((with_reducible refine Obl.mk ?_); first | ((with_reducible show regOk _ _ = true); kernel_rfl) | ((with_reducible show eqTyOk _ _ = true); kernel_rfl) | rfl | exact trivial | ((repeat' (first | exact trivial | refine And.intro ?_ ?_)); done) | decide | ((repeat' (first | exact List.forall_mem_nil _ | refine List.forall_mem_cons.2 (And.intro rfl ?_))); done) | (refine And.intro ?_ ?_ <;> simp only [List.length_map, List.length_append, List.length_cons, List.length_nil] <;> omega))
      all_goals exact ⟨by dsimp only; rw [IntWalk.i64_in _ (by omega)]; rfl⟩
  · have hk2' : k = 2 := by omega
    subst hk2'
    repeat' ((conv => whnf); first | refine Or.inl ?_ | refine And.intro (Obl.out (?_ : Obl _)) ?_ | refine ifB_intro (fun h => ?_) (fun h => ?_) | refine Exists.intro _ (And.intro rfl ?_) | ((with_reducible show _ = _); rfl))
    all_goals try ((with_reducible refine Obl.mk ?_); first | ((with_reducible show regOk _ _ = true); kernel_rfl) | ((with_reducible show eqTyOk _ _ = true); kernel_rfl) | rfl | exact trivial | ((repeat' (first | exact trivial | refine And.intro ?_ ?_)); done) | decide | ((repeat' (first | exact List.forall_mem_nil _ | refine List.forall_mem_cons.2 (And.intro rfl ?_))); done) | (refine And.intro ?_ ?_ <;> simp only [List.length_map, List.length_append, List.length_cons, List.length_nil] <;> omega))
    all_goals exact ⟨by rw [hk1 (by omega), hk2 (by omega)]; rfl⟩
theorem s_impl_SpaceOk2 (i0 i1 : TImage) (b0 b1 : Int) (es : List Int) (hs : smallR 1048576 (TSpace.mk [i0, i1] [b0, b1] es).tr) : Sim.Spec Try.prog 74 [.agg (TSpace.mk [i0, i1] [b0, b1] es).tr] (rB (spaceOk2 i0 i1 b0 b1 es)) := by
  refine spec_of_W hΓ hmix Try.func74 rfl (by decide) rfl ?_
  have hlen : (es.map intRow).length = es.length := by simp
  have hE := s_impl_between es.length 1 6
  unfold spaceOk2
  cases hw : within es.length 1 6 with
  | false =>
    rw [hw] at hE
    repeat' ((conv => whnf); first | refine Or.inl ?_ | refine And.intro (Obl.out (?_ : Obl _)) ?_ | refine ifB_intro (fun h => ?_) (fun h => ?_) | refine call_intro (hE) (And.intro (congrArg (Tr.int _) (by first | rfl | (simp (disch := omega) only [IntWalk.i64_in]; done) | ((try simp (disch := omega) only [IntWalk.i64_in]); omega))) (And.intro rfl (And.intro rfl trivial))) ?_ | refine Exists.intro _ (And.intro rfl ?_) | ((with_reducible show _ = _); rfl))
    all_goals try ((with_reducible refine Obl.mk ?_); first | ((with_reducible show regOk _ _ = true); kernel_rfl) | ((with_reducible show eqTyOk _ _ = true); kernel_rfl) | rfl | exact trivial | ((repeat' (first | exact trivial | refine And.intro ?_ ?_)); done) | decide | ((repeat' (first | exact List.forall_mem_nil _ | refine List.forall_mem_cons.2 (And.intro rfl ?_))); done) | (refine And.intro ?_ ?_ <;> simp only [List.length_map, List.length_append, List.length_cons, List.length_nil] <;> omega))
    all_goals (exfalso; simp at h; done)
  | true =>
    rw [hw] at hE
    repeat' ((conv => whnf); first | refine Or.inl ?_ | refine And.intro (Obl.out (?_ : Obl _)) ?_ | refine ifB_intro (fun h => ?_) (fun h => ?_) | refine call_intro (hE) (And.intro (congrArg (Tr.int _) (by first | rfl | (simp (disch := omega) only [IntWalk.i64_in]; done) | ((try simp (disch := omega) only [IntWalk.i64_in]); omega))) (And.intro rfl (And.intro rfl trivial))) ?_ | refine Exists.intro _ (And.intro rfl ?_) | ((with_reducible show _ = _); rfl))
    all_goals try ((with_reducible refine Obl.mk ?_); first | ((with_reducible show regOk _ _ = true); kernel_rfl) | ((with_reducible show eqTyOk _ _ = true); kernel_rfl) | rfl | exact trivial | ((repeat' (first | exact trivial | refine And.intro ?_ ?_)); done) | decide | ((repeat' (first | exact List.forall_mem_nil _ | refine List.forall_mem_cons.2 (And.intro rfl ?_))); done) | (refine And.intro ?_ ?_ <;> simp only [List.length_map, List.length_append, List.length_cons, List.length_nil] <;> omega))
    all_goals try (exfalso; simp at h; done)
    have hsp := hs
    simp only [TSpace.tr, smallR] at hsp
    have hsI := hsp.1
    have hi0 : smallR 1048576 i0.tr := smallRs_map hsI (by simp)
    have hi1 : smallR 1048576 i1.tr := smallRs_map hsI (by simp)
    have hc0 : i0.fCode.length ≤ 1048576 := by have := hi0; simp only [TImage.tr, smallR, smallT] at this; omega
    have hc1 : i1.fCode.length ≤ 1048576 := by have := hi1; simp only [TImage.tr, smallR, smallT] at this; omega
    have hsy0 : i0.fSymbols.length ≤ 1048576 := by have := hi0; simp only [TImage.tr, smallR] at this; exact small_nat this.2.1
    have hsy1 : i1.fSymbols.length ≤ 1048576 := by have := hi1; simp only [TImage.tr, smallR] at this; exact small_nat this.2.1
    have hel : es.length ≤ 1048576 := small_nat hsp.2.2.1
    rw [Bool.true_and]
    generalize hR : (imageOk i0 && (within b0 1 1000000 && (imageOk i1 && (within b1 1 1000000 && (!(overlap i0 i1 b0 b1) && es.all fun e => entryIn i0 b0 e || entryIn i1 b1 e))))) = R
    conv => whnf
    refine ⟨{ k : Nat // k ≤ 2 ∧ (1 ≤ k → imageOk i0 = true ∧ within b0 1 1000000 = true) ∧ (2 ≤ k → imageOk i1 = true ∧ within b1 1 1000000 = true) }, fun k => ⟨[(1, .r (.c (.ptr (1, 0, 0) 0))), (27, tI .i64 2), (28, tI .i64 (k.1 : Int))], [((1, 0, 0), some (.box (spBox i0 i1 b0 b1 es)))], [1]⟩, fun k => 2 - k.1, ⟨0, by omega, by omega, by omega⟩, ?_, ?_⟩
    · skip
      repeat' ((conv => whnf); first | refine Or.inl ?_ | refine And.intro (Obl.out (?_ : Obl _)) ?_ | refine ifB_intro (fun h => ?_) (fun h => ?_) | refine Exists.intro _ (And.intro rfl ?_) | ((with_reducible show _ = _); rfl))
      all_goals try ((with_reducible refine Obl.mk ?_); first | ((with_reducible show regOk _ _ = true); kernel_rfl) | ((with_reducible show eqTyOk _ _ = true); kernel_rfl) | rfl | exact trivial | ((repeat' (first | exact trivial | refine And.intro ?_ ?_)); done) | decide | ((repeat' (first | exact List.forall_mem_nil _ | refine List.forall_mem_cons.2 (And.intro rfl ?_))); done) | (refine And.intro ?_ ?_ <;> simp only [List.length_map, List.length_append, List.length_cons, List.length_nil] <;> omega))
    intro ⟨k, hk, hk1, hk2⟩
    dsimp only
    by_cases hlt : k < 2
    · obtain ⟨i, b, hi, hb, hsi, hn1, hn2, hyes⟩ : ∃ (i : TImage) (b : Int), ([i0.tr, i1.tr] : List (List Tr))[k]? = some i.tr ∧ ([intRow b0, intRow b1] : List (List Tr))[k]? = some (intRow b) ∧ smallR 1048576 i.tr ∧
          (imageOk i = false → R = false) ∧ (within b 1 1000000 = false → R = false) ∧ (imageOk i = true → within b 1 1000000 = true → (1 ≤ k + 1 → imageOk i0 = true ∧ within b0 1 1000000 = true) ∧ (2 ≤ k + 1 → imageOk i1 = true ∧ within b1 1 1000000 = true)) := by
        have : k = 0 ∨ k = 1 := by omega
        rcases this with rfl | rfl
        · exact ⟨i0, b0, rfl, rfl, hi0, fun h => by rw [← hR, h]; rfl, fun h => by rw [← hR, h]; simp, fun h h' => ⟨fun _ => ⟨h, h'⟩, fun h2 => by omega⟩⟩
        · exact ⟨i1, b1, rfl, rfl, hi1, fun h => by rw [← hR, h]; simp, fun h => by rw [← hR, h]; simp, fun h h' => ⟨fun _ => hk1 (by omega), fun _ => ⟨h, h'⟩⟩⟩
      have hI := s_impl_ImageOk i hsi
      have hB := s_impl_between b 1 1000000
      cases hio : imageOk i with
      | false =>
        rw [hio] at hI
        rw [hn1 hio]
        repeat' ((conv => whnf); first | refine Or.inl ?_ | refine And.intro (Obl.out (?_ : Obl _)) ?_ | refine ifB_intro (fun h => ?_) (fun h => ?_) | refine ⟨k, i.tr, rfl, hi, ?_⟩ | refine call_intro (hI) (And.intro (And.intro rfl (And.intro rfl trivial)) trivial) ?_ | refine Exists.intro _ (And.intro rfl ?_) | ((with_reducible show _ = _); rfl))
        all_goals try ((with_reducible refine Obl.mk ?_); first | ((with_reducible show regOk _ _ = true); kernel_rfl) | ((with_reducible show eqTyOk _ _ = true); kernel_rfl) | rfl | exact trivial | ((repeat' (first | exact trivial | refine And.intro ?_ ?_)); done) | decide | ((repeat' (first | exact List.forall_mem_nil _ | refine List.forall_mem_cons.2 (And.intro rfl ?_))); done) | (refine And.intro ?_ ?_ <;> simp only [List.length_map, List.length_append, List.length_cons, List.length_nil] <;> omega))
        all_goals (exfalso; first | (have h' := of_decide_eq_false h; omega) | (simp at h; done))
      | true =>
        rw [hio] at hI
        cases hbo : within b 1 1000000 with
        | false =>
          rw [hbo] at hB
          rw [hn2 hbo]
          repeat' ((conv => whnf); first | refine Or.inl ?_ | refine And.intro (Obl.out (?_ : Obl _)) ?_ | refine ifB_intro (fun h => ?_) (fun h => ?_) | refine ⟨k, i.tr, rfl, hi, ?_⟩ | refine ⟨k, intRow b, rfl, hb, ?_⟩ | refine call_intro (hI) (And.intro (And.intro rfl (And.intro rfl trivial)) trivial) ?_ | refine call_intro (hB) (And.intro rfl (And.intro rfl (And.intro rfl trivial))) ?_ | refine Exists.intro _ (And.intro rfl ?_) | ((with_reducible show _ = _); rfl))
          all_goals try ((with_reducible refine Obl.mk ?_); first | ((with_reducible show regOk _ _ = true); kernel_rfl) | ((with_reducible show eqTyOk _ _ = true); kernel_rfl) | rfl | exact trivial | ((repeat' (first | exact trivial | refine And.intro ?_ ?_)); done) | decide | ((repeat' (first | exact List.forall_mem_nil _ | refine List.forall_mem_cons.2 (And.intro rfl ?_))); done) | (refine And.intro ?_ ?_ <;> simp only [List.length_map, List.length_append, List.length_cons, List.length_nil] <;> omega))
          all_goals (exfalso; first | (have h' := of_decide_eq_false h; omega) | (simp at h; done))
        | true =>
          rw [hbo] at hB
          repeat' ((conv => whnf); first | refine Or.inl ?_ | refine And.intro (Obl.out (?_ : Obl _)) ?_ | refine ifB_intro (fun h => ?_) (fun h => ?_) | refine ⟨k, i.tr, rfl, hi, ?_⟩ | refine ⟨k, intRow b, rfl, hb, ?_⟩ | refine call_intro (hI) (And.intro (And.intro rfl (And.intro rfl trivial)) trivial) ?_ | refine call_intro (hB) (And.intro rfl (And.intro rfl (And.intro rfl trivial))) ?_ | refine Exists.intro _ (And.intro rfl ?_) | ((with_reducible show _ = _); rfl))
          all_goals try ((with_reducible refine Obl.mk ?_); first | ((with_reducible show regOk _ _ = true); kernel_rfl) | ((with_reducible show eqTyOk _ _ = true); kernel_rfl) | rfl | exact trivial | ((repeat' (first | exact trivial | refine And.intro ?_ ?_)); done) | decide | ((repeat' (first | exact List.forall_mem_nil _ | refine List.forall_mem_cons.2 (And.intro rfl ?_))); done) | (refine And.intro ?_ ?_ <;> simp only [List.length_map, List.length_append, List.length_cons, List.length_nil] <;> omega))
          all_goals try (exfalso; first | (have h' := of_decide_eq_false h; omega) | (simp at h; done))
          conv => whnf
          refine ⟨⟨k + 1, by omega, hyes hio hbo⟩, ?_, by dsimp only; omega⟩
          repeat' ((conv => whnf); first | refine Or.inl ?_ | refine And.intro (Obl.out (?_ : Obl _)) ?_ | refine ifB_intro (fun h => ?_) (fun h => ?_) | refine Exists.intro _ (And.intro rfl ?_) | ((with_reducible show _ = _); rfl))
          all_goals try ((with_reducible refine Obl.mk ?_); first | ((with_reducible show regOk _ _ = true); kernel_rfl) | ((with_reducible show eqTyOk _ _ = true); kernel_rfl) | rfl | exact trivial | ((repeat' (first | exact trivial | refine And.intro ?_ ?_)); done) | decide | ((repeat' (first | exact List.forall_mem_nil _ | refine List.forall_mem_cons.2 (And.intro rfl ?_))); done) | (refine And.intro ?_ ?_ <;> simp only [List.length_map, List.length_append, List.length_cons, List.length_nil] <;> omega))
          all_goals exact ⟨by dsimp only; rw [IntWalk.i64_in _ (by omega)]; rfl⟩
    · have hk2' : k = 2 := by omega
      subst hk2'
      obtain ⟨g0, w0⟩ := hk1 (by omega)
      obtain ⟨g1, w1⟩ := hk2 (by omega)
      have v0 := within_iff.1 w0
      have v1 := within_iff.1 w1
      rw [g0, g1, w0, w1, Bool.true_and, Bool.true_and, Bool.true_and, Bool.true_and] at hR
      have x0 : IntKind.i64.wrap (b1 + (i1.fCode.length : Int)) = b1 + i1.fCode.length := IntWalk.i64_in _ (by omega)
      have x1 : IntKind.i64.wrap (b0 + (i0.fCode.length : Int)) = b0 + i0.fCode.length := IntWalk.i64_in _ (by omega)
      cases ho : overlap i0 i1 b0 b1 with
      | true =>
        rw [ho] at hR
        rw [overlap, Bool.and_eq_true, Bool.and_eq_true, Bool.and_eq_true, decide_eq_true_eq, decide_eq_true_eq, decide_eq_true_eq, decide_eq_true_eq] at ho
        obtain ⟨o1, o2, o3, o4⟩ := ho
        subst hR
        repeat' ((conv => whnf); first | refine Or.inl ?_ | refine And.intro (Obl.out (?_ : Obl _)) ?_ | refine ifB_intro (fun h => ?_) (fun h => ?_) | refine ⟨0, _, rfl, rfl, ?_⟩ | refine ⟨1, _, rfl, rfl, ?_⟩ | refine Exists.intro _ (And.intro rfl ?_) | ((with_reducible show _ = _); rfl))
        all_goals try ((with_reducible refine Obl.mk ?_); first | ((with_reducible show regOk _ _ = true); kernel_rfl) | ((with_reducible show eqTyOk _ _ = true); kernel_rfl) | rfl | exact trivial | ((repeat' (first | exact trivial | refine And.intro ?_ ?_)); done) | decide | ((repeat' (first | exact List.forall_mem_nil _ | refine List.forall_mem_cons.2 (And.intro rfl ?_))); done) | (refine And.intro ?_ ?_ <;> simp only [List.length_map, List.length_append, List.length_cons, List.length_nil] <;> omega))
        all_goals (exfalso; first | (have h' := of_decide_eq_false h; (try rw [x0] at h'); (try rw [x1] at h'); omega) | (have h' := of_decide_eq_true h; omega))
      | false =>
        rw [ho, Bool.not_false, Bool.true_and] at hR
        have hno : ¬ (0 < i0.fCode.length ∧ 0 < i1.fCode.length ∧ b0 < b1 + i1.fCode.length ∧ b1 < b0 + i0.fCode.length) := by
          intro ⟨a, b, c, d⟩
          rw [overlap, decide_eq_true a, decide_eq_true b, decide_eq_true c, decide_eq_true d] at ho
          cases ho
        have m0 := imgOkF_mem (imageOk_iff.1 g0).2 (by omega)
        have m1 := imgOkF_mem (imageOk_iff.1 g1).2 (by omega)
        have l0 := (imageOk_iff.1 g0).1
        have l1 := (imageOk_iff.1 g1).1
        repeat' ((conv => whnf); first | refine Or.inl ?_ | refine And.intro (Obl.out (?_ : Obl _)) ?_ | refine ifB_intro (fun h => ?_) (fun h => ?_) | refine ⟨0, _, rfl, rfl, ?_⟩ | refine ⟨1, _, rfl, rfl, ?_⟩ | refine Exists.intro _ (And.intro rfl ?_) | ((with_reducible show _ = _); rfl))
        all_goals try ((with_reducible refine Obl.mk ?_); first | ((with_reducible show regOk _ _ = true); kernel_rfl) | ((with_reducible show eqTyOk _ _ = true); kernel_rfl) | rfl | exact trivial | ((repeat' (first | exact trivial | refine And.intro ?_ ?_)); done) | decide | ((repeat' (first | exact List.forall_mem_nil _ | refine List.forall_mem_cons.2 (And.intro rfl ?_))); done) | (refine And.intro ?_ ?_ <;> simp only [List.length_map, List.length_append, List.length_cons, List.length_nil] <;> omega))
        all_goals try (
          exfalso
          rename_i a1 a2 a3
          have c1 := of_decide_eq_true a1
          have c2 := of_decide_eq_true a2
          have c3 := of_decide_eq_true a3
          have c4 := of_decide_eq_true h
          rw [x0] at c3
          rw [x1] at c4
          exact hno ⟨by omega, by omega, c3, c4⟩)
        all_goals (
          conv => whnf
          refine ⟨{ j : Nat // j ≤ es.length ∧ ((es.drop j).all fun e => entryIn i0 b0 e || entryIn i1 b1 e) = R }, fun j => ⟨[(1, .r (.c (.ptr (1, 0, 0) 0))), (93, .r (.c (.t (.lst 1 (es.map intRow))))), (94, tI .i64 ((es.map intRow).length : Int)), (95, tI .i64 (j.1 : Int))], [((1, 0, 0), some (.box (spBox i0 i1 b0 b1 es)))], [1]⟩, fun j => es.length - j.1, ⟨0, by omega, hR⟩, ?_, ?_⟩
          · skip
            repeat' ((conv => whnf); first | refine Or.inl ?_ | refine And.intro (Obl.out (?_ : Obl _)) ?_ | refine ifB_intro (fun h => ?_) (fun h => ?_) | refine Exists.intro _ (And.intro rfl ?_) | ((with_reducible show _ = _); rfl))
            all_goals try ((with_reducible refine Obl.mk ?_); first | ((with_reducible show regOk _ _ = true); kernel_rfl) | ((with_reducible show eqTyOk _ _ = true); kernel_rfl) | rfl | exact trivial | ((repeat' (first | exact trivial | refine And.intro ?_ ?_)); done) | decide | ((repeat' (first | exact List.forall_mem_nil _ | refine List.forall_mem_cons.2 (And.intro rfl ?_))); done) | (refine And.intro ?_ ?_ <;> simp only [List.length_map, List.length_append, List.length_cons, List.length_nil] <;> omega))
          intro ⟨j, hj, hr⟩
          dsimp only
          by_cases hjl : j < es.length
          · obtain ⟨e, he⟩ := get_of_lt hjl
            have hEn := s_impl_isEntry i0 i1 b0 b1 e es (fun x hx => by have := m0 x hx; omega) (fun x hx => by have := m1 x hx; omega) (by omega) (by omega) hsy0 hsy1
            rw [drop_at he, List.all_cons] at hr
            cases hee : (entryIn i0 b0 e || entryIn i1 b1 e) with
            | false =>
              rw [hee] at hEn hr
              rw [Bool.false_and] at hr
              subst hr
              repeat' ((conv => whnf); first | refine Or.inl ?_ | refine And.intro (Obl.out (?_ : Obl _)) ?_ | refine ifB_intro (fun h => ?_) (fun h => ?_) | refine ⟨j, intRow e, rfl, map_get he, ?_⟩ | refine call_intro (hEn) (And.intro (And.intro rfl (And.intro rfl (And.intro rfl trivial))) (And.intro rfl trivial)) ?_ | refine Exists.intro _ (And.intro rfl ?_) | ((with_reducible show _ = _); rfl))
              all_goals try ((with_reducible refine Obl.mk ?_); first | ((with_reducible show regOk _ _ = true); kernel_rfl) | ((with_reducible show eqTyOk _ _ = true); kernel_rfl) | rfl | exact trivial | ((repeat' (first | exact trivial | refine And.intro ?_ ?_)); done) | decide | ((repeat' (first | exact List.forall_mem_nil _ | refine List.forall_mem_cons.2 (And.intro rfl ?_))); done) | (refine And.intro ?_ ?_ <;> simp only [List.length_map, List.length_append, List.length_cons, List.length_nil] <;> omega))
              all_goals (exfalso; first | (have h' := of_decide_eq_false h; rw [hlen] at h'; omega) | (simp at h; done))
            | true =>
              rw [hee] at hEn hr
              rw [Bool.true_and] at hr
              repeat' ((conv => whnf); first | refine Or.inl ?_ | refine And.intro (Obl.out (?_ : Obl _)) ?_ | refine ifB_intro (fun h => ?_) (fun h => ?_) | refine ⟨j, intRow e, rfl, map_get he, ?_⟩ | refine call_intro (hEn) (And.intro (And.intro rfl (And.intro rfl (And.intro rfl trivial))) (And.intro rfl trivial)) ?_ | refine Exists.intro _ (And.intro rfl ?_) | ((with_reducible show _ = _); rfl))
              all_goals try ((with_reducible refine Obl.mk ?_); first | ((with_reducible show regOk _ _ = true); kernel_rfl) | ((with_reducible show eqTyOk _ _ = true); kernel_rfl) | rfl | exact trivial | ((repeat' (first | exact trivial | refine And.intro ?_ ?_)); done) | decide | ((repeat' (first | exact List.forall_mem_nil _ | refine List.forall_mem_cons.2 (And.intro rfl ?_))); done) | (refine And.intro ?_ ?_ <;> simp only [List.length_map, List.length_append, List.length_cons, List.length_nil] <;> omega))
              all_goals try (exfalso; first | (have h' := of_decide_eq_false h; rw [hlen] at h'; omega) | (simp at h; done))
              conv => whnf
              refine ⟨⟨j + 1, by omega, hr⟩, ?_, by dsimp only; omega⟩
              repeat' ((conv => whnf); first | refine Or.inl ?_ | refine And.intro (Obl.out (?_ : Obl _)) ?_ | refine ifB_intro (fun h => ?_) (fun h => ?_) | refine Exists.intro _ (And.intro rfl ?_) | ((with_reducible show _ = _); rfl))
              all_goals try ((with_reducible refine Obl.mk ?_); first | ((with_reducible show regOk _ _ = true); kernel_rfl) | ((with_reducible show eqTyOk _ _ = true); kernel_rfl) | rfl | exact trivial | ((repeat' (first | exact trivial | refine And.intro ?_ ?_)); done) | decide | ((repeat' (first | exact List.forall_mem_nil _ | refine List.forall_mem_cons.2 (And.intro rfl ?_))); done) | (refine And.intro ?_ ?_ <;> simp only [List.length_map, List.length_append, List.length_cons, List.length_nil] <;> omega))
              all_goals exact ⟨by dsimp only; rw [IntWalk.i64_in _ (by omega)]; rfl⟩
          · have hge : es.length ≤ j := by omega
            rw [List.drop_eq_nil_of_le hge, List.all_nil] at hr
            subst hr
            repeat' ((conv => whnf); first | refine Or.inl ?_ | refine And.intro (Obl.out (?_ : Obl _)) ?_ | refine ifB_intro (fun h => ?_) (fun h => ?_) | refine Exists.intro _ (And.intro rfl ?_) | ((with_reducible show _ = _); rfl))
            all_goals try ((with_reducible refine Obl.mk ?_); first | ((with_reducible show regOk _ _ = true); kernel_rfl) | ((with_reducible show eqTyOk _ _ = true); kernel_rfl) | rfl | exact trivial | ((repeat' (first | exact trivial | refine And.intro ?_ ?_)); done) | decide | ((repeat' (first | exact List.forall_mem_nil _ | refine List.forall_mem_cons.2 (And.intro rfl ?_))); done) | (refine And.intro ?_ ?_ <;> simp only [List.length_map, List.length_append, List.length_cons, List.length_nil] <;> omega))
            all_goals (exfalso; have h' := of_decide_eq_true h; rw [hlen] at h'; omega))
end Go.Proofs.Ytehniaekfijmiaa
