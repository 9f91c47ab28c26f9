/- ImageOk in both texts. -/
import Derived.Test.YtehniaekfijmiaaFnsV
namespace Go.Proofs.Ytehniaekfijmiaa
open Go.Sim
set_option maxRecDepth 100000
set_option maxHeartbeats 4000000
def seenName (seen : List TSymbol) (nm : List UInt8) : Bool := seen.any fun y => y.fName == nm
def imgPre (len a : Nat) (x : TSymbol) : Bool := x.fStart == (a : Int) && (decide (1 ≤ x.fSize) && (decide (x.fSize ≤ (len : Int) - a) && nameOk x.fName))
def imgAt (code : List UInt8) (seen : List TSymbol) (a : Nat) (x : TSymbol) : Bool := imgPre code.length a x && (!(seenName seen x.fName) && (disasm ((code.take (a + x.fSize.toNat)).drop a)).isSome)
def imgOkF (code : List UInt8) : List TSymbol → Nat → List TSymbol → Bool
  | _, a, [] => a == code.length
  | seen, a, x :: l => imgAt code seen a x && imgOkF code (seen ++ [x]) (a + x.fSize.toNat) l
def imageOk (i : TImage) : Bool := decide (i.fCode.length ≤ 1000000) && imgOkF i.fCode [] 0 i.fSymbols
theorem img_at {code : List UInt8} {l : List TSymbol} {k a : Nat} {x : TSymbol} (hx : l[k]? = some x) : imgOkF code (l.take k) a (l.drop k) = (imgAt code (l.take k) a x && imgOkF code (l.take (k + 1)) (a + x.fSize.toNat) (l.drop (k + 1))) := by
  rw [drop_at hx, imgOkF]
  obtain ⟨hk, rfl⟩ := List.getElem?_eq_some_iff.1 hx
  rw [List.take_succ_eq_append_getElem hk]
theorem seen_take {l : List TSymbol} {j : Nat} {y : TSymbol} {nm : List UInt8} (hy : l[j]? = some y) : seenName (l.take (j + 1)) nm = (seenName (l.take j) nm || y.fName == nm) := by
  obtain ⟨hk, rfl⟩ := List.getElem?_eq_some_iff.1 hy
  rw [List.take_succ_eq_append_getElem hk, seenName, List.any_append]
  simp [seenName]
theorem seen_mem {l : List TSymbol} {j k : Nat} {y : TSymbol} (hy : l[j]? = some y) (h : j < k) : seenName (l.take k) y.fName = true := by
  rw [seenName, List.any_eq_true]
  refine ⟨y, ?_, by simp⟩
  rw [List.mem_iff_getElem?]
  exact ⟨j, by rw [List.getElem?_take, if_pos h]; exact hy⟩
theorem imgPre_iff {len a : Nat} {x : TSymbol} : imgPre len a x = true ↔ x.fStart = (a : Int) ∧ 1 ≤ x.fSize ∧ x.fSize ≤ (len : Int) - a ∧ nameOk x.fName = true := by
  unfold imgPre
  rw [Bool.and_eq_true, Bool.and_eq_true, Bool.and_eq_true, beq_iff_eq, decide_eq_true_eq, decide_eq_true_eq]
abbrev ImgIx (code : List UInt8) (l : List TSymbol) := { q : Nat × Nat // q.1 ≤ l.length ∧ q.2 ≤ code.length ∧ imgOkF code (l.take q.1) q.2 (l.drop q.1) = imgOkF code [] 0 l }
theorem s_impl_ImageOk (i : TImage) (hs : smallR 1048576 i.tr) : Sim.Spec Try.prog 133 [.agg i.tr] (rB (imageOk i)) := by
  refine spec_of_W hΓ hmix Try.func133 rfl (by decide) rfl ?_
  obtain ⟨code, l⟩ := i
  simp only [TImage.tr, smallR] at hs
  have hcl : code.length ≤ 1048576 := by have := hs.1; rw [smallT] at this; omega
  have hl := small_nat hs.2.1
  have hlen : (l.map TSymbol.tr).length = l.length := by simp
  unfold imageOk
  dsimp only
  by_cases hbig : code.length ≤ 1000000
  · rw [show decide (code.length ≤ 1000000) = true from decide_eq_true hbig, Bool.true_and]
    repeat' ((conv => whnf); first | refine Or.inl ?_ | refine And.intro (Obl.out (?_ : Obl _)) ?_ | refine ifB_intro (fun h => ?_) (fun h => ?_) | refine Exists.intro _ (And.intro rfl ?_) | ((with_reducible show _ = _); rfl))
    all_goals try ((with_reducible refine Obl.mk ?_); first | ((with_reducible show regOk _ _ = true); kernel_rfl) | ((with_reducible show eqTyOk _ _ = true); kernel_rfl) | rfl | exact trivial | ((repeat' (first | exact trivial | refine And.intro ?_ ?_)); done) | decide | ((repeat' (first | exact List.forall_mem_nil _ | refine List.forall_mem_cons.2 (And.intro rfl ?_))); done) | (refine And.intro ?_ ?_ <;> simp only [List.length_map, List.length_append, List.length_cons, List.length_nil] <;> omega))
    all_goals try (exfalso; have h' := of_decide_eq_true h; dsimp only at h'; omega; done)
    conv => whnf
    refine ⟨ImgIx code l, fun q => ⟨[(1, .r (.c (.ptr (1, 0, 0) 0))), (3, tI .i64 (q.1.2 : Int)), (15, .r (.c (.t (.lst 3 (l.map TSymbol.tr))))), (16, tI .i64 ((l.map TSymbol.tr).length : Int)), (17, tI .i64 (q.1.1 : Int))], [((1, 0, 0), some (.box [.t (.str code), .t (.lst 3 (l.map TSymbol.tr))]))], [1]⟩, fun q => l.length - q.1.1, ⟨(0, 0), by simp, by simp, by simp⟩, ?_, ?_⟩
    · skip
      repeat' ((conv => whnf); first | refine Or.inl ?_ | refine And.intro (Obl.out (?_ : Obl _)) ?_ | refine ifB_intro (fun h => ?_) (fun h => ?_) | refine Exists.intro _ (And.intro rfl ?_) | ((with_reducible show _ = _); rfl))
      all_goals try ((with_reducible refine Obl.mk ?_); first | ((with_reducible show regOk _ _ = true); kernel_rfl) | ((with_reducible show eqTyOk _ _ = true); kernel_rfl) | rfl | exact trivial | ((repeat' (first | exact trivial | refine And.intro ?_ ?_)); done) | decide | ((repeat' (first | exact List.forall_mem_nil _ | refine List.forall_mem_cons.2 (And.intro rfl ?_))); done) | (refine And.intro ?_ ?_ <;> simp only [List.length_map, List.length_append, List.length_cons, List.length_nil] <;> omega))
    intro ⟨⟨k, a⟩, hk, ha, hr⟩
    dsimp only at hk ha hr ⊢
    by_cases hlt : k < l.length
    · obtain ⟨x, hx⟩ := get_of_lt hlt
      have hxl : x.fName.length ≤ 1099511627775 := by
        have := smallRs_map hs.2.1 (List.mem_of_getElem? hx)
        simp only [TSymbol.tr, smallR, smallT] at this
        omega
      have hN := s_impl_NameOk x.fName hxl
      rw [img_at hx, imgAt] at hr
      have hw1 : IntKind.i64.wrap ((code.length : Int) - a) = (code.length : Int) - a := IntWalk.i64_in _ (by omega)
      cases hpre : imgPre code.length a x with
      | false =>
        rw [hpre, Bool.false_and, Bool.false_and] at hr
        repeat' ((conv => whnf); first | refine Or.inl ?_ | refine And.intro (Obl.out (?_ : Obl _)) ?_ | refine ifB_intro (fun h => ?_) (fun h => ?_) | refine ⟨k, x.tr, rfl, map_get hx, ?_⟩ | refine call_intro (hN) (And.intro rfl trivial) ?_ | refine Exists.intro _ (And.intro rfl ?_) | ((with_reducible show _ = _); rfl))
        all_goals try ((with_reducible refine Obl.mk ?_); first | ((with_reducible show regOk _ _ = true); kernel_rfl) | ((with_reducible show eqTyOk _ _ = true); kernel_rfl) | rfl | exact trivial | ((repeat' (first | exact trivial | refine And.intro ?_ ?_)); done) | decide | ((repeat' (first | exact List.forall_mem_nil _ | refine List.forall_mem_cons.2 (And.intro rfl ?_))); done) | (refine And.intro ?_ ?_ <;> simp only [List.length_map, List.length_append, List.length_cons, List.length_nil] <;> omega))
        all_goals try (exfalso; have h' := of_decide_eq_false h; rw [hlen] at h'; omega; done)
        all_goals try exact ⟨by rw [← hr]⟩
        all_goals (exfalso; rw [← Bool.not_eq_true, imgPre_iff] at hpre; apply hpre; rw [hw1] at *; (simp_all) <;> omega)
      | true =>
        obtain ⟨p1, p2, p3, p4⟩ := imgPre_iff.1 hpre
        rw [p4] at hN
        rw [hpre, Bool.true_and] at hr
        repeat' ((conv => whnf); first | refine Or.inl ?_ | refine And.intro (Obl.out (?_ : Obl _)) ?_ | refine ifB_intro (fun h => ?_) (fun h => ?_) | refine ⟨k, x.tr, rfl, map_get hx, ?_⟩ | refine call_intro (hN) (And.intro rfl trivial) ?_ | refine Exists.intro _ (And.intro rfl ?_) | ((with_reducible show _ = _); rfl))
        all_goals try ((with_reducible refine Obl.mk ?_); first | ((with_reducible show regOk _ _ = true); kernel_rfl) | ((with_reducible show eqTyOk _ _ = true); kernel_rfl) | rfl | exact trivial | ((repeat' (first | exact trivial | refine And.intro ?_ ?_)); done) | decide | ((repeat' (first | exact List.forall_mem_nil _ | refine List.forall_mem_cons.2 (And.intro rfl ?_))); done) | (refine And.intro ?_ ?_ <;> simp only [List.length_map, List.length_append, List.length_cons, List.length_nil] <;> omega))
        all_goals try (exfalso; first | (have h' := of_decide_eq_false h; rw [hlen] at h'; omega) | (simp at h; done) | (rw [p1] at h; simp at h; done) | (have h' := of_decide_eq_true h; (try rw [hw1] at h'); omega))
        conv => whnf
        refine ⟨0, k, rfl, rfl, by omega, by rw [hlen]; omega, ?_⟩
        repeat' ((conv => whnf); first | refine Or.inl ?_ | refine And.intro (Obl.out (?_ : Obl _)) ?_ | refine ifB_intro (fun h => ?_) (fun h => ?_) | refine Exists.intro _ (And.intro rfl ?_) | ((with_reducible show _ = _); rfl))
        all_goals try ((with_reducible refine Obl.mk ?_); first | ((with_reducible show regOk _ _ = true); kernel_rfl) | ((with_reducible show eqTyOk _ _ = true); kernel_rfl) | rfl | exact trivial | ((repeat' (first | exact trivial | refine And.intro ?_ ?_)); done) | decide | ((repeat' (first | exact List.forall_mem_nil _ | refine List.forall_mem_cons.2 (And.intro rfl ?_))); done) | (refine And.intro ?_ ?_ <;> simp only [List.length_map, List.length_append, List.length_cons, List.length_nil] <;> omega))
        conv => whnf
        have hrl : (((l.map TSymbol.tr).take k).drop 0).length = k := by simp; omega
        refine ⟨{ j : Nat // j ≤ k ∧ seenName (l.take j) x.fName = false }, fun j => ⟨[(1, .r (.c (.ptr (1, 0, 0) 0))), (3, tI .i64 (a : Int)), (5, .r (.c (.ptr (5, 0, 0) 0))), (15, .r (.c (.t (.lst 3 (l.map TSymbol.tr))))), (16, tI .i64 ((l.map TSymbol.tr).length : Int)), (17, tI .i64 (k : Int)), (50, .r (.c (.t (.lst 3 (((l.map TSymbol.tr).take k).drop 0))))), (51, tI .i64 ((((l.map TSymbol.tr).take k).drop 0).length : Int)), (52, tI .i64 (j.1 : Int))], [((1, 0, 0), some (.box [.t (.str code), .t (.lst 3 (l.map TSymbol.tr))])), ((5, 0, 0), some (.box [.t (.str x.fName), .t (.int .i64 x.fStart), .t (.int .i64 x.fSize)]))], [5, 1]⟩, fun j => k - j.1, ⟨0, by omega, rfl⟩, ?_, ?_⟩
        · skip
          repeat' ((conv => whnf); first | refine Or.inl ?_ | refine And.intro (Obl.out (?_ : Obl _)) ?_ | refine ifB_intro (fun h => ?_) (fun h => ?_) | refine Exists.intro _ (And.intro rfl ?_) | ((with_reducible show _ = _); rfl))
          all_goals try ((with_reducible refine Obl.mk ?_); first | ((with_reducible show regOk _ _ = true); kernel_rfl) | ((with_reducible show eqTyOk _ _ = true); kernel_rfl) | rfl | exact trivial | ((repeat' (first | exact trivial | refine And.intro ?_ ?_)); done) | decide | ((repeat' (first | exact List.forall_mem_nil _ | refine List.forall_mem_cons.2 (And.intro rfl ?_))); done) | (refine And.intro ?_ ?_ <;> simp only [List.length_map, List.length_append, List.length_cons, List.length_nil] <;> omega))
        intro ⟨j, hj, hsn⟩
        dsimp only
        by_cases hjk : j < k
        · obtain ⟨y, hy⟩ := get_of_lt (l := l) (k := j) (by omega)
          have hyr : (((l.map TSymbol.tr).take k).drop 0)[j]? = some y.tr := by rw [List.drop_zero, List.getElem?_take, if_pos hjk]; exact map_get hy
          have hst := seen_take (nm := x.fName) hy
          rw [hsn, Bool.false_or] at hst
          cases hyx : (y.fName == x.fName) with
          | true =>
            have hs2 := seen_mem hy hjk
            rw [beq_iff_eq.1 hyx] at hs2
            rw [hs2] at hr
            repeat' ((conv => whnf); first | refine Or.inl ?_ | refine And.intro (Obl.out (?_ : Obl _)) ?_ | refine ifB_intro (fun h => ?_) (fun h => ?_) | refine ⟨j, y.tr, rfl, hyr, ?_⟩ | refine Exists.intro _ (And.intro rfl ?_) | ((with_reducible show _ = _); rfl))
            all_goals try ((with_reducible refine Obl.mk ?_); first | ((with_reducible show regOk _ _ = true); kernel_rfl) | ((with_reducible show eqTyOk _ _ = true); kernel_rfl) | rfl | exact trivial | ((repeat' (first | exact trivial | refine And.intro ?_ ?_)); done) | decide | ((repeat' (first | exact List.forall_mem_nil _ | refine List.forall_mem_cons.2 (And.intro rfl ?_))); done) | (refine And.intro ?_ ?_ <;> simp only [List.length_map, List.length_append, List.length_cons, List.length_nil] <;> omega))
            all_goals first
              | (exfalso; have h' := of_decide_eq_false h; rw [hrl] at h'; omega)
              | exact ⟨by rw [← hr]; rfl⟩
              | (exfalso; rw [hyx] at h; simp at h; done)
          | false =>
            rw [hyx] at hst
            repeat' ((conv => whnf); first | refine Or.inl ?_ | refine And.intro (Obl.out (?_ : Obl _)) ?_ | refine ifB_intro (fun h => ?_) (fun h => ?_) | refine ⟨j, y.tr, rfl, hyr, ?_⟩ | refine Exists.intro _ (And.intro rfl ?_) | ((with_reducible show _ = _); rfl))
            all_goals try ((with_reducible refine Obl.mk ?_); first | ((with_reducible show regOk _ _ = true); kernel_rfl) | ((with_reducible show eqTyOk _ _ = true); kernel_rfl) | rfl | exact trivial | ((repeat' (first | exact trivial | refine And.intro ?_ ?_)); done) | decide | ((repeat' (first | exact List.forall_mem_nil _ | refine List.forall_mem_cons.2 (And.intro rfl ?_))); done) | (refine And.intro ?_ ?_ <;> simp only [List.length_map, List.length_append, List.length_cons, List.length_nil] <;> omega))
            all_goals try (exfalso; first | (have h' := of_decide_eq_false h; rw [hrl] at h'; omega) | (rw [hyx] at h; simp at h; done))
            conv => whnf
            refine ⟨⟨j + 1, by omega, hst⟩, ?_, by dsimp only; omega⟩
            repeat' ((conv => whnf); first | refine Or.inl ?_ | refine And.intro (Obl.out (?_ : Obl _)) ?_ | refine ifB_intro (fun h => ?_) (fun h => ?_) | refine Exists.intro _ (And.intro rfl ?_) | ((with_reducible show _ = _); rfl))
            all_goals try ((with_reducible refine Obl.mk ?_); first | ((with_reducible show regOk _ _ = true); kernel_rfl) | ((with_reducible show eqTyOk _ _ = true); kernel_rfl) | rfl | exact trivial | ((repeat' (first | exact trivial | refine And.intro ?_ ?_)); done) | decide | ((repeat' (first | exact List.forall_mem_nil _ | refine List.forall_mem_cons.2 (And.intro rfl ?_))); done) | (refine And.intro ?_ ?_ <;> simp only [List.length_map, List.length_append, List.length_cons, List.length_nil] <;> omega))
            all_goals exact ⟨by dsimp only; rw [IntWalk.i64_in _ (by omega)]; rfl⟩
        · have hjk2 : j = k := by omega
          subst hjk2
          obtain ⟨z, hz⟩ := Int.eq_ofNat_of_zero_le (show 0 ≤ x.fSize by omega)
          have hw2 : IntKind.i64.wrap ((a : Int) + x.fSize) = ((a + z : Nat) : Int) := by rw [IntWalk.i64_in _ (by omega), hz]; rfl
          rw [hsn, hz, Int.toNat_natCast] at hr
          have hD := s_impl_Disassemble ((code.take (a + z)).drop a) (by simp; omega)
          repeat' ((conv => whnf); first | refine Or.inl ?_ | refine And.intro (Obl.out (?_ : Obl _)) ?_ | refine ifB_intro (fun h => ?_) (fun h => ?_) | refine Exists.intro _ (And.intro rfl ?_) | ((with_reducible show _ = _); rfl))
          all_goals try ((with_reducible refine Obl.mk ?_); first | ((with_reducible show regOk _ _ = true); kernel_rfl) | ((with_reducible show eqTyOk _ _ = true); kernel_rfl) | rfl | exact trivial | ((repeat' (first | exact trivial | refine And.intro ?_ ?_)); done) | decide | ((repeat' (first | exact List.forall_mem_nil _ | refine List.forall_mem_cons.2 (And.intro rfl ?_))); done) | (refine And.intro ?_ ?_ <;> simp only [List.length_map, List.length_append, List.length_cons, List.length_nil] <;> omega))
          all_goals try (exfalso; have h' := of_decide_eq_true h; rw [hrl] at h'; omega)
          conv => whnf
          refine ⟨a, a + z, p1, hw2, by omega, by omega, ?_⟩
          cases hds : (disasm ((code.take (a + z)).drop a)).isSome with
          | false =>
            rw [hds] at hr hD
            repeat' ((conv => whnf); first | refine Or.inl ?_ | refine And.intro (Obl.out (?_ : Obl _)) ?_ | refine ifB_intro (fun h => ?_) (fun h => ?_) | refine call_intro (hD) (And.intro rfl trivial) ?_ | refine Exists.intro _ (And.intro rfl ?_) | ((with_reducible show _ = _); rfl))
            all_goals try ((with_reducible refine Obl.mk ?_); first | ((with_reducible show regOk _ _ = true); kernel_rfl) | ((with_reducible show eqTyOk _ _ = true); kernel_rfl) | rfl | exact trivial | ((repeat' (first | exact trivial | refine And.intro ?_ ?_)); done) | decide | ((repeat' (first | exact List.forall_mem_nil _ | refine List.forall_mem_cons.2 (And.intro rfl ?_))); done) | (refine And.intro ?_ ?_ <;> simp only [List.length_map, List.length_append, List.length_cons, List.length_nil] <;> omega))
            all_goals first
              | exact ⟨by rw [← hr]; rfl⟩
              | (exfalso; simp at h; done)
          | true =>
            rw [hds] at hr hD
            repeat' ((conv => whnf); first | refine Or.inl ?_ | refine And.intro (Obl.out (?_ : Obl _)) ?_ | refine ifB_intro (fun h => ?_) (fun h => ?_) | refine call_intro (hD) (And.intro rfl trivial) ?_ | refine Exists.intro _ (And.intro rfl ?_) | ((with_reducible show _ = _); rfl))
            all_goals try ((with_reducible refine Obl.mk ?_); first | ((with_reducible show regOk _ _ = true); kernel_rfl) | ((with_reducible show eqTyOk _ _ = true); kernel_rfl) | rfl | exact trivial | ((repeat' (first | exact trivial | refine And.intro ?_ ?_)); done) | decide | ((repeat' (first | exact List.forall_mem_nil _ | refine List.forall_mem_cons.2 (And.intro rfl ?_))); done) | (refine And.intro ?_ ?_ <;> simp only [List.length_map, List.length_append, List.length_cons, List.length_nil] <;> omega))
            all_goals try (exfalso; simp at h; done)
            conv => whnf
            refine ⟨⟨(j + 1, a + z), by dsimp only; omega, by dsimp only; omega, by simpa using hr⟩, ?_, by dsimp only; omega⟩
            repeat' ((conv => whnf); first | refine Or.inl ?_ | refine And.intro (Obl.out (?_ : Obl _)) ?_ | refine ifB_intro (fun h => ?_) (fun h => ?_) | refine Exists.intro _ (And.intro rfl ?_) | ((with_reducible show _ = _); rfl))
            all_goals try ((with_reducible refine Obl.mk ?_); first | ((with_reducible show regOk _ _ = true); kernel_rfl) | ((with_reducible show eqTyOk _ _ = true); kernel_rfl) | rfl | exact trivial | ((repeat' (first | exact trivial | refine And.intro ?_ ?_)); done) | decide | ((repeat' (first | exact List.forall_mem_nil _ | refine List.forall_mem_cons.2 (And.intro rfl ?_))); done) | (refine And.intro ?_ ?_ <;> simp only [List.length_map, List.length_append, List.length_cons, List.length_nil] <;> omega))
            all_goals first
              | exact ⟨by dsimp only; rw [hw2]⟩
              | exact ⟨by dsimp only; rw [IntWalk.i64_in _ (by omega)]; rfl⟩
    · have hge : l.length ≤ k := by omega
      rw [List.drop_eq_nil_of_le hge, imgOkF] at hr
      repeat' ((conv => whnf); first | refine Or.inl ?_ | refine And.intro (Obl.out (?_ : Obl _)) ?_ | refine ifB_intro (fun h => ?_) (fun h => ?_) | refine Exists.intro _ (And.intro rfl ?_) | ((with_reducible show _ = _); rfl))
      all_goals try ((with_reducible refine Obl.mk ?_); first | ((with_reducible show regOk _ _ = true); kernel_rfl) | ((with_reducible show eqTyOk _ _ = true); kernel_rfl) | rfl | exact trivial | ((repeat' (first | exact trivial | refine And.intro ?_ ?_)); done) | decide | ((repeat' (first | exact List.forall_mem_nil _ | refine List.forall_mem_cons.2 (And.intro rfl ?_))); done) | (refine And.intro ?_ ?_ <;> simp only [List.length_map, List.length_append, List.length_cons, List.length_nil] <;> omega))
      all_goals try (exfalso; simp only [decide_eq_false_iff_not, decide_eq_true_eq] at *; omega)
      exact ⟨by rw [← hr]; congr 1; rw [Bool.eq_iff_iff, beq_iff_eq, beq_iff_eq]; omega⟩
  · rw [show decide (code.length ≤ 1000000) = false from decide_eq_false hbig, Bool.false_and]
    repeat' ((conv => whnf); first | refine Or.inl ?_ | refine And.intro (Obl.out (?_ : Obl _)) ?_ | refine ifB_intro (fun h => ?_) (fun h => ?_) | refine Exists.intro _ (And.intro rfl ?_) | ((with_reducible show _ = _); rfl))
    all_goals try ((with_reducible refine Obl.mk ?_); first | ((with_reducible show regOk _ _ = true); kernel_rfl) | ((with_reducible show eqTyOk _ _ = true); kernel_rfl) | rfl | exact trivial | ((repeat' (first | exact trivial | refine And.intro ?_ ?_)); done) | decide | ((repeat' (first | exact List.forall_mem_nil _ | refine List.forall_mem_cons.2 (And.intro rfl ?_))); done) | (refine And.intro ?_ ?_ <;> simp only [List.length_map, List.length_append, List.length_cons, List.length_nil] <;> omega))
    all_goals (exfalso; have h' := of_decide_eq_false h; dsimp only at h'; omega)
theorem s_spec_ImageOk (i : TImage) (hs : smallR 1048576 i.tr) : Sim.Spec Try.prog 126 [.agg i.tr] (rB (imageOk i)) := by
  refine spec_of_W hΓ hmix Try.func126 rfl (by decide) rfl ?_
  obtain ⟨code, l⟩ := i
  simp only [TImage.tr, smallR] at hs
  have hcl : code.length ≤ 1048576 := by have := hs.1; rw [smallT] at this; omega
  have hl := small_nat hs.2.1
  have hlen : (l.map TSymbol.tr).length = l.length := by simp
  unfold imageOk
  dsimp only
  repeat' ((conv => whnf); first | refine Or.inl ?_ | refine And.intro (Obl.out (?_ : Obl _)) ?_ | refine ifB_intro (fun h => ?_) (fun h => ?_) | refine Exists.intro _ (And.intro rfl ?_) | ((with_reducible show _ = _); rfl))
  all_goals try ((with_reducible refine Obl.mk ?_); first | ((with_reducible show regOk _ _ = true); kernel_rfl) | ((with_reducible show eqTyOk _ _ = true); kernel_rfl) | rfl | exact trivial | ((repeat' (first | exact trivial | refine And.intro ?_ ?_)); done) | decide | ((repeat' (first | exact List.forall_mem_nil _ | refine List.forall_mem_cons.2 (And.intro rfl ?_))); done) | (refine And.intro ?_ ?_ <;> simp only [List.length_map, List.length_append, List.length_cons, List.length_nil] <;> omega))
  conv => whnf
  refine ⟨ImgIx code l, fun q => ⟨[(1, .r (.c (.ptr (1, 0, 0) 0))), (3, tI .i64 (q.1.2 : Int)), (4, tI .i64 (q.1.1 : Int))], [((1, 0, 0), some (.box [.t (.str code), .t (.lst 3 (l.map TSymbol.tr))]))], [1]⟩, fun q => l.length - q.1.1, ⟨(0, 0), by simp, by simp, by simp⟩, ?_, ?_⟩
  · skip
    repeat' ((conv => whnf); first | refine Or.inl ?_ | refine And.intro (Obl.out (?_ : Obl _)) ?_ | refine ifB_intro (fun h => ?_) (fun h => ?_) | refine Exists.intro _ (And.intro rfl ?_) | ((with_reducible show _ = _); rfl))
    all_goals try ((with_reducible refine Obl.mk ?_); first | ((with_reducible show regOk _ _ = true); kernel_rfl) | ((with_reducible show eqTyOk _ _ = true); kernel_rfl) | rfl | exact trivial | ((repeat' (first | exact trivial | refine And.intro ?_ ?_)); done) | decide | ((repeat' (first | exact List.forall_mem_nil _ | refine List.forall_mem_cons.2 (And.intro rfl ?_))); done) | (refine And.intro ?_ ?_ <;> simp only [List.length_map, List.length_append, List.length_cons, List.length_nil] <;> omega))
  intro ⟨⟨k, a⟩, hk, ha, hr⟩
  dsimp only at hk ha hr ⊢
  by_cases hlt : k < l.length
  · obtain ⟨x, hx⟩ := get_of_lt hlt
    have hxl : x.fName.length ≤ 1099511627775 := by
      have := smallRs_map hs.2.1 (List.mem_of_getElem? hx)
      simp only [TSymbol.tr, smallR, smallT] at this
      omega
    have hN := s_spec_NameOk x.fName hxl
    rw [img_at hx, imgAt] at hr
    have hw1 : IntKind.i64.wrap ((code.length : Int) - a) = (code.length : Int) - a := IntWalk.i64_in _ (by omega)
    cases hpre : imgPre code.length a x with
    | false =>
      rw [hpre, Bool.false_and, Bool.false_and] at hr
      repeat' ((conv => whnf); first | refine Or.inl ?_ | refine And.intro (Obl.out (?_ : Obl _)) ?_ | refine ifB_intro (fun h => ?_) (fun h => ?_) | refine ⟨k, x.tr, rfl, map_get hx, ?_⟩ | refine call_intro (hN) (And.intro rfl trivial) ?_ | refine Exists.intro _ (And.intro rfl ?_) | ((with_reducible show _ = _); rfl))
      all_goals try ((with_reducible refine Obl.mk ?_); first | ((with_reducible show regOk _ _ = true); kernel_rfl) | ((with_reducible show eqTyOk _ _ = true); kernel_rfl) | rfl | exact trivial | ((repeat' (first | exact trivial | refine And.intro ?_ ?_)); done) | decide | ((repeat' (first | exact List.forall_mem_nil _ | refine List.forall_mem_cons.2 (And.intro rfl ?_))); done) | (refine And.intro ?_ ?_ <;> simp only [List.length_map, List.length_append, List.length_cons, List.length_nil] <;> omega))
      all_goals try (exfalso; have h' := of_decide_eq_false h; rw [hlen] at h'; omega; done)
      all_goals try (exfalso; simp only [decide_eq_false_iff_not, decide_eq_true_eq] at *; omega)
      all_goals try exact ⟨by rw [← hr, Bool.and_false]⟩
      all_goals (exfalso; rw [← Bool.not_eq_true, imgPre_iff] at hpre; apply hpre; rw [hw1] at *; (simp_all) <;> omega)
    | true =>
      obtain ⟨p1, p2, p3, p4⟩ := imgPre_iff.1 hpre
      rw [p4] at hN
      rw [hpre, Bool.true_and] at hr
      repeat' ((conv => whnf); first | refine Or.inl ?_ | refine And.intro (Obl.out (?_ : Obl _)) ?_ | refine ifB_intro (fun h => ?_) (fun h => ?_) | refine ⟨k, x.tr, rfl, map_get hx, ?_⟩ | refine call_intro (hN) (And.intro rfl trivial) ?_ | refine Exists.intro _ (And.intro rfl ?_) | ((with_reducible show _ = _); rfl))
      all_goals try ((with_reducible refine Obl.mk ?_); first | ((with_reducible show regOk _ _ = true); kernel_rfl) | ((with_reducible show eqTyOk _ _ = true); kernel_rfl) | rfl | exact trivial | ((repeat' (first | exact trivial | refine And.intro ?_ ?_)); done) | decide | ((repeat' (first | exact List.forall_mem_nil _ | refine List.forall_mem_cons.2 (And.intro rfl ?_))); done) | (refine And.intro ?_ ?_ <;> simp only [List.length_map, List.length_append, List.length_cons, List.length_nil] <;> omega))
      all_goals try (exfalso; simp only [decide_eq_false_iff_not, decide_eq_true_eq] at *; omega)
      all_goals try (exfalso; first | (have h' := of_decide_eq_false h; rw [hlen] at h'; omega) | (simp at h; done) | (rw [p1] at h; simp at h; done) | (have h' := of_decide_eq_true h; (try rw [hw1] at h'); omega))
      conv => whnf
      have hrl : (((l.map TSymbol.tr).take k).drop 0).length = k := by simp; omega
      refine ⟨{ j : Nat // j ≤ k ∧ seenName (l.take j) x.fName = false }, fun j => ⟨[(1, .r (.c (.ptr (1, 0, 0) 0))), (3, tI .i64 (a : Int)), (5, .r (.c (.ptr (5, 0, 0) 0))), (4, tI .i64 (k : Int)), (6, tI .i64 (j.1 : Int))], [((1, 0, 0), some (.box [.t (.str code), .t (.lst 3 (l.map TSymbol.tr))])), ((5, 0, 0), some (.box [.t (.str x.fName), .t (.int .i64 x.fStart), .t (.int .i64 x.fSize)]))], [5, 1]⟩, fun j => k - j.1, ⟨0, by omega, rfl⟩, ?_, ?_⟩
      · skip
        repeat' ((conv => whnf); first | refine Or.inl ?_ | refine And.intro (Obl.out (?_ : Obl _)) ?_ | refine ifB_intro (fun h => ?_) (fun h => ?_) | refine Exists.intro _ (And.intro rfl ?_) | ((with_reducible show _ = _); rfl))
        all_goals try ((with_reducible refine Obl.mk ?_); first | ((with_reducible show regOk _ _ = true); kernel_rfl) | ((with_reducible show eqTyOk _ _ = true); kernel_rfl) | rfl | exact trivial | ((repeat' (first | exact trivial | refine And.intro ?_ ?_)); done) | decide | ((repeat' (first | exact List.forall_mem_nil _ | refine List.forall_mem_cons.2 (And.intro rfl ?_))); done) | (refine And.intro ?_ ?_ <;> simp only [List.length_map, List.length_append, List.length_cons, List.length_nil] <;> omega))
      intro ⟨j, hj, hsn⟩
      dsimp only
      by_cases hjk : j < k
      · obtain ⟨y, hy⟩ := get_of_lt (l := l) (k := j) (by omega)
        have hyr : (((l.map TSymbol.tr).take k).drop 0)[j]? = some y.tr := by rw [List.drop_zero, List.getElem?_take, if_pos hjk]; exact map_get hy
        have hst := seen_take (nm := x.fName) hy
        rw [hsn, Bool.false_or] at hst
        cases hyx : (y.fName == x.fName) with
        | true =>
          have hs2 := seen_mem hy hjk
          rw [beq_iff_eq.1 hyx] at hs2
          rw [hs2] at hr
          repeat' ((conv => whnf); first | refine Or.inl ?_ | refine And.intro (Obl.out (?_ : Obl _)) ?_ | refine ifB_intro (fun h => ?_) (fun h => ?_) | refine ⟨j, y.tr, rfl, map_get hy, ?_⟩ | refine Exists.intro _ (And.intro rfl ?_) | ((with_reducible show _ = _); rfl))
          all_goals try ((with_reducible refine Obl.mk ?_); first | ((with_reducible show regOk _ _ = true); kernel_rfl) | ((with_reducible show eqTyOk _ _ = true); kernel_rfl) | rfl | exact trivial | ((repeat' (first | exact trivial | refine And.intro ?_ ?_)); done) | decide | ((repeat' (first | exact List.forall_mem_nil _ | refine List.forall_mem_cons.2 (And.intro rfl ?_))); done) | (refine And.intro ?_ ?_ <;> simp only [List.length_map, List.length_append, List.length_cons, List.length_nil] <;> omega))
          all_goals first
            | (exfalso; have h' := of_decide_eq_false h; omega)
            | exact ⟨by rw [← hr]; simp⟩
            | (exfalso; rw [hyx] at h; simp at h; done)
        | false =>
          rw [hyx] at hst
          repeat' ((conv => whnf); first | refine Or.inl ?_ | refine And.intro (Obl.out (?_ : Obl _)) ?_ | refine ifB_intro (fun h => ?_) (fun h => ?_) | refine ⟨j, y.tr, rfl, map_get hy, ?_⟩ | refine Exists.intro _ (And.intro rfl ?_) | ((with_reducible show _ = _); rfl))
          all_goals try ((with_reducible refine Obl.mk ?_); first | ((with_reducible show regOk _ _ = true); kernel_rfl) | ((with_reducible show eqTyOk _ _ = true); kernel_rfl) | rfl | exact trivial | ((repeat' (first | exact trivial | refine And.intro ?_ ?_)); done) | decide | ((repeat' (first | exact List.forall_mem_nil _ | refine List.forall_mem_cons.2 (And.intro rfl ?_))); done) | (refine And.intro ?_ ?_ <;> simp only [List.length_map, List.length_append, List.length_cons, List.length_nil] <;> omega))
          all_goals try (exfalso; first | (have h' := of_decide_eq_false h; omega) | (rw [hyx] at h; simp at h; done))
          conv => whnf
          refine ⟨⟨j + 1, by omega, hst⟩, ?_, by dsimp only; omega⟩
          repeat' ((conv => whnf); first | refine Or.inl ?_ | refine And.intro (Obl.out (?_ : Obl _)) ?_ | refine ifB_intro (fun h => ?_) (fun h => ?_) | refine Exists.intro _ (And.intro rfl ?_) | ((with_reducible show _ = _); rfl))
          all_goals try ((with_reducible refine Obl.mk ?_); first | ((with_reducible show regOk _ _ = true); kernel_rfl) | ((with_reducible show eqTyOk _ _ = true); kernel_rfl) | rfl | exact trivial | ((repeat' (first | exact trivial | refine And.intro ?_ ?_)); done) | decide | ((repeat' (first | exact List.forall_mem_nil _ | refine List.forall_mem_cons.2 (And.intro rfl ?_))); done) | (refine And.intro ?_ ?_ <;> simp only [List.length_map, List.length_append, List.length_cons, List.length_nil] <;> omega))
          all_goals exact ⟨by dsimp only; rw [IntWalk.i64_in _ (by omega)]; rfl⟩
      · have hjk2 : j = k := by omega
        subst hjk2
        obtain ⟨z, hz⟩ := Int.eq_ofNat_of_zero_le (show 0 ≤ x.fSize by omega)
        have hw2 : IntKind.i64.wrap ((a : Int) + x.fSize) = ((a + z : Nat) : Int) := by rw [IntWalk.i64_in _ (by omega), hz]; rfl
        rw [hsn, hz, Int.toNat_natCast] at hr
        have hD := s_spec_Disassemble ((code.take (a + z)).drop a) (by simp; omega)
        repeat' ((conv => whnf); first | refine Or.inl ?_ | refine And.intro (Obl.out (?_ : Obl _)) ?_ | refine ifB_intro (fun h => ?_) (fun h => ?_) | refine Exists.intro _ (And.intro rfl ?_) | ((with_reducible show _ = _); rfl))
        all_goals try ((with_reducible refine Obl.mk ?_); first | ((with_reducible show regOk _ _ = true); kernel_rfl) | ((with_reducible show eqTyOk _ _ = true); kernel_rfl) | rfl | exact trivial | ((repeat' (first | exact trivial | refine And.intro ?_ ?_)); done) | decide | ((repeat' (first | exact List.forall_mem_nil _ | refine List.forall_mem_cons.2 (And.intro rfl ?_))); done) | (refine And.intro ?_ ?_ <;> simp only [List.length_map, List.length_append, List.length_cons, List.length_nil] <;> omega))
        all_goals try (exfalso; have h' := of_decide_eq_true h; omega)
        conv => whnf
        refine ⟨a, a + z, rfl, hw2, by omega, by omega, ?_⟩
        cases hds : (disasm ((code.take (a + z)).drop a)).isSome with
        | false =>
          rw [hds] at hr hD
          repeat' ((conv => whnf); first | refine Or.inl ?_ | refine And.intro (Obl.out (?_ : Obl _)) ?_ | refine ifB_intro (fun h => ?_) (fun h => ?_) | refine call_intro (hD) (And.intro rfl trivial) ?_ | refine Exists.intro _ (And.intro rfl ?_) | ((with_reducible show _ = _); rfl))
          all_goals try ((with_reducible refine Obl.mk ?_); first | ((with_reducible show regOk _ _ = true); kernel_rfl) | ((with_reducible show eqTyOk _ _ = true); kernel_rfl) | rfl | exact trivial | ((repeat' (first | exact trivial | refine And.intro ?_ ?_)); done) | decide | ((repeat' (first | exact List.forall_mem_nil _ | refine List.forall_mem_cons.2 (And.intro rfl ?_))); done) | (refine And.intro ?_ ?_ <;> simp only [List.length_map, List.length_append, List.length_cons, List.length_nil] <;> omega))
          all_goals first
            | exact ⟨by rw [← hr]; simp⟩
            | (exfalso; simp at h; done)
        | true =>
          rw [hds] at hr hD
          repeat' ((conv => whnf); first | refine Or.inl ?_ | refine And.intro (Obl.out (?_ : Obl _)) ?_ | refine ifB_intro (fun h => ?_) (fun h => ?_) | refine call_intro (hD) (And.intro rfl trivial) ?_ | refine Exists.intro _ (And.intro rfl ?_) | ((with_reducible show _ = _); rfl))
          all_goals try ((with_reducible refine Obl.mk ?_); first | ((with_reducible show regOk _ _ = true); kernel_rfl) | ((with_reducible show eqTyOk _ _ = true); kernel_rfl) | rfl | exact trivial | ((repeat' (first | exact trivial | refine And.intro ?_ ?_)); done) | decide | ((repeat' (first | exact List.forall_mem_nil _ | refine List.forall_mem_cons.2 (And.intro rfl ?_))); done) | (refine And.intro ?_ ?_ <;> simp only [List.length_map, List.length_append, List.length_cons, List.length_nil] <;> omega))
          all_goals try (exfalso; simp at h; done)
          conv => whnf
          refine ⟨⟨(j + 1, a + z), by dsimp only; omega, by dsimp only; omega, by simpa using hr⟩, ?_, by dsimp only; omega⟩
          repeat' ((conv => whnf); first | refine Or.inl ?_ | refine And.intro (Obl.out (?_ : Obl _)) ?_ | refine ifB_intro (fun h => ?_) (fun h => ?_) | refine Exists.intro _ (And.intro rfl ?_) | ((with_reducible show _ = _); rfl))
          all_goals try ((with_reducible refine Obl.mk ?_); first | ((with_reducible show regOk _ _ = true); kernel_rfl) | ((with_reducible show eqTyOk _ _ = true); kernel_rfl) | rfl | exact trivial | ((repeat' (first | exact trivial | refine And.intro ?_ ?_)); done) | decide | ((repeat' (first | exact List.forall_mem_nil _ | refine List.forall_mem_cons.2 (And.intro rfl ?_))); done) | (refine And.intro ?_ ?_ <;> simp only [List.length_map, List.length_append, List.length_cons, List.length_nil] <;> omega))
          all_goals first
            | exact ⟨by dsimp only; rw [hw2]⟩
            | exact ⟨by dsimp only; rw [IntWalk.i64_in _ (by omega)]; rfl⟩
  · have hge : l.length ≤ k := by omega
    rw [List.drop_eq_nil_of_le hge, imgOkF] at hr
    repeat' ((conv => whnf); first | refine Or.inl ?_ | refine And.intro (Obl.out (?_ : Obl _)) ?_ | refine ifB_intro (fun h => ?_) (fun h => ?_) | refine Exists.intro _ (And.intro rfl ?_) | ((with_reducible show _ = _); rfl))
    all_goals try ((with_reducible refine Obl.mk ?_); first | ((with_reducible show regOk _ _ = true); kernel_rfl) | ((with_reducible show eqTyOk _ _ = true); kernel_rfl) | rfl | exact trivial | ((repeat' (first | exact trivial | refine And.intro ?_ ?_)); done) | decide | ((repeat' (first | exact List.forall_mem_nil _ | refine List.forall_mem_cons.2 (And.intro rfl ?_))); done) | (refine And.intro ?_ ?_ <;> simp only [List.length_map, List.length_append, List.length_cons, List.length_nil] <;> omega))
    all_goals try (exfalso; simp only [decide_eq_false_iff_not, decide_eq_true_eq] at *; omega)
    · have h9 : a = code.length := by have := eq_of_beq h; omega
      refine ⟨congrArg Tr.bool ?_⟩
      rw [← hr, h9, beq_self_eq_true, Bool.and_true]
      exact decide_eq_decide.2 (by omega)
    · have h9 : (a == code.length) = false := by rw [beq_eq_false_iff_ne] at h ⊢; omega
      refine ⟨congrArg Tr.bool ?_⟩
      rw [← hr, h9, Bool.and_false]
end Go.Proofs.Ytehniaekfijmiaa
