/- DecodeDebug of the reference. -/
import Derived.Test.YtflolafbblohnaaFnsZe
namespace Go.Proofs.Ytflolafbblohnaa
open Go.Sim
set_option maxRecDepth 100000
set_option maxHeartbeats 4000000
def dec3L (s : List UInt8) : Nat → Nat → List (List UInt8) → Option (List (List UInt8))
  | 0, _, ts => some ts
  | m + 1, p, ts => match unpackT s (p : Int) with
    | some (t, y) => dec3L s m (p + y) (ts ++ [t])
    | none => none
def tailOf (id : Int) (syms : List TSymbol) : Option (List (List UInt8)) → Option TDebug
  | some [t1, t2, t3] => (match decodeRules t1, decodeRows t2, decodeInlines t3 with
    | some a, some b, some c => some ⟨id, syms, a, b, c⟩
    | _, _, _ => none)
  | _ => none
theorem decTail_of (s : List UInt8) (id : Int) (syms : List TSymbol) (p : Nat) : decTail s id syms p = tailOf id syms (dec3L s 3 p []) := by
  unfold decTail dec3 dec3L
  match h1 : unpackT s (p : Int) with
  | none => rfl
  | some (t1, y1) =>
    dsimp only
    unfold dec3L
    match h2 : unpackT s ((p + y1 : Nat) : Int) with
    | none => rfl
    | some (t2, y2) =>
      dsimp only
      unfold dec3L
      match h3 : unpackT s ((p + y1 + y2 : Nat) : Int) with
      | none => rfl
      | some (t3, y3) => rfl
theorem small_Symbol {l : List TSymbol} (hl : l.length ≤ 1048576) (hn : ∀ x ∈ l, x.fName.length ≤ 1048576) : smallT 1048576 (.lst 3 (l.map TSymbol.tr)) := small_map hl fun x hx => by
  have := hn x hx
  simp [TSymbol.tr, smallR, smallT]
  omega
theorem decSyms_len {s : List UInt8} : ∀ {c p p' : Nat} {l : List TSymbol}, decSyms s c p = some (l, p') → p ≤ s.length → p + l.length ≤ p' ∧ p' ≤ s.length ∧ ∀ x ∈ l, x.fName.length ≤ s.length
  | 0, p, p', l, h, hp => by
    rw [decSyms] at h
    injection h with h; injection h with h1 h2
    subst h1; subst h2
    exact ⟨by simp, hp, fun x hx => by cases hx⟩
  | c + 1, p, p', l, h, hp => by
    rw [decSyms] at h
    split at h
    · rename_i nm y e1
      split at h
      · rename_i a b z e2
        have h1 := unT_z e1
        have h2 := un_z e2
        match hd : decSyms s c (p + y + z), h with
        | some (l', q), h =>
          rw [Option.map_some] at h
          injection h with h; injection h with h3 h4
          subst h3; subst h4
          have := decSyms_len hd (by omega)
          refine ⟨by simp only [List.length_cons]; omega, this.2.1, fun x hx => ?_⟩
          rcases List.mem_cons.1 hx with rfl | hx
          · exact h1.2
          · exact this.2.2 x hx
        | none, h => cases h
      · cases h
    · cases h
theorem dec3_len {s : List UInt8} {p : Nat} {t1 t2 t3 : List UInt8} (h : dec3 s p = some (t1, t2, t3)) : t1.length ≤ s.length ∧ t2.length ≤ s.length ∧ t3.length ≤ s.length := by
  unfold dec3 at h
  split at h
  · rename_i a y e1
    split at h
    · rename_i b z e2
      split at h
      · rename_i c w e3
        injection h with h; injection h with h1 h; injection h with h2 h3
        subst h1; subst h2; subst h3
        exact ⟨(unT_z e1).2, (unT_z e2).2, (unT_z e3).2⟩
      · cases h
    · cases h
  · cases h
theorem decParts_small {s : List UInt8} (hs : s.length ≤ 1048576) {d : TDebug} (h : decParts s = some d) : smallR 1048576 d.tr := by
  unfold decParts at h
  split at h
  · rename_i id k0 e0
    split at h
    · rename_i n k1 e1
      obtain ⟨_, _, _, g3, _⟩ := dec_some e0
      obtain ⟨_, _, _, g4, _⟩ := dec_some e1
      rw [Int.toNat_natCast] at g4
      unfold decRest at h
      split at h
      · rename_i l p' e2
        have h2 := decSyms_len e2 (by omega)
        unfold decTail at h
        split at h
        · rename_i t1 t2 t3 e3
          have h3 := dec3_len e3
          split at h
          · rename_i a b c q1 q2 q3
            injection h with h
            subst h
            have f1 := decodeRules_len (s := t1) (by omega)
            have f2 := decodeRows_len (s := t2) (by omega)
            have f3 := decodeInlines_small (s := t3) (by omega)
            rw [q1] at f1
            rw [q2] at f2
            rw [q3] at f3
            simp only [TDebug.tr, smallR, List.nil_append]
            exact ⟨by simp [smallT], small_Symbol (by omega) (fun x hx => Nat.le_trans (h2.2.2 x hx) hs), small_Rule f1, small_Row f2, f3, trivial⟩
          · cases h
        · cases h
      · cases h
    · cases h
  · cases h
theorem decodeDebug_small {s : List UInt8} (hs : s.length ≤ 1048576) : smallR 1048576 (oD (decodeDebug s)).tr := by
  have z : smallR 1048576 (oD none).tr := by simp [oD, zeroD, TDebug.tr, smallR, smallT, smallRs]
  unfold decodeDebug
  cases h : decParts s with
  | none => exact z
  | some d =>
    by_cases he : encodeDebug d = s
    · rw [dbgFin_yes he]; exact decParts_small hs h
    · rw [dbgFin_no he]; exact z
structure DsIx (s : List UInt8) (id : Int) (n : Nat) (R : Option TDebug) where
  k : Nat
  p : Nat
  acc : List TSymbol
  hk : k ≤ n
  hp : p ≤ s.length
  hl : acc.length ≤ p
  hn : ∀ x ∈ acc, x.fName.length ≤ s.length
  hr : decRest s id (n - k) p acc = R
structure DtIx (s : List UInt8) (id : Int) (acc : List TSymbol) (R : Option TDebug) where
  j : Nat
  p : Nat
  ts : List (List UInt8)
  hj : j ≤ 3
  hp : p ≤ s.length
  hl : ts.length = j
  hn : ∀ t ∈ ts, t.length ≤ s.length
  hr : tailOf id acc (dec3L s (3 - j) p ts) = R
theorem s_spec_DecodeDebug (s : List UInt8) (hs : s.length ≤ 1048576) : Sim.Spec Try.prog 28 [tvS s] (.tup [.agg ((oD (decodeDebug s)).tr.map resC), .c (.t (.bool (decodeDebug s).isSome))]) := by
  refine spec_of_W hΓ hmix Try.func28 rfl (by decide) rfl ?_
  have hD0 := s_spec_DecodeVarint s 0 hs (by omega)
  unfold decodeDebug
  obtain ⟨R, hR⟩ : ∃ R, decParts s = R := ⟨_, rfl⟩
  rw [hR]
  unfold decParts at hR
  match e0 : dec s 0 with
  | none =>
    rw [e0] at hR
    dsimp only at hR
    subst hR
    have hD0 := dec_none_spec hD0 e0
    repeat' (
      (conv => whnf)
      first
      | refine Or.inl ?_
      | refine And.intro (Obl.out (?_ : Obl _)) ?_
      | refine ifB_intro (fun h => ?_) (fun h => ?_)
      | refine call_intro (hD0) (And.intro rfl (And.intro rfl trivial)) ?_
      | refine Exists.intro _ (And.intro rfl ?_)
      | ((with_reducible show _ = _); rfl))
    all_goals try (
      (with_reducible refine Obl.mk ?_)
      first
      | ((with_reducible show regOk _ _ = true); kernel_rfl)
      | ((with_reducible show eqTyOk _ _ = true); kernel_rfl)
      | rfl
      | exact trivial
      | ((repeat' (first | exact trivial | refine And.intro ?_ ?_)); done)
      | decide
      | (intro r hr; simp only [List.mem_cons, List.not_mem_nil, or_false] at hr; first | (subst hr; rfl) | (rcases hr with rfl | rfl <;> rfl) | (rcases hr with rfl | rfl | rfl <;> rfl) | (rcases hr with rfl | rfl | rfl | rfl <;> rfl))
      | (refine And.intro ?_ ?_ <;> simp only [List.length_map, List.length_append, List.length_cons, List.length_nil] <;> omega))
    all_goals try (exfalso; simp at h; done)
  | some (id, k0) =>
    rw [e0] at hR
    dsimp only at hR
    have hD0 := dec_some_spec hD0 e0
    obtain ⟨g0, g1, g2, g3, g4⟩ := dec_some e0
    rw [show (0 : Int).toNat = 0 from rfl, Nat.zero_add] at g3
    have hD1 := s_spec_DecodeVarint s (k0 : Nat) hs (by omega)
    match e1 : dec s (k0 : Nat) with
    | none =>
      rw [e1] at hR
      dsimp only at hR
      subst hR
      have hD1 := dec_none_spec hD1 e1
      repeat' (
        (conv => whnf)
        first
        | refine Or.inl ?_
        | refine And.intro (Obl.out (?_ : Obl _)) ?_
        | refine ifB_intro (fun h => ?_) (fun h => ?_)
        | refine call_intro (hD0) (And.intro rfl (And.intro rfl trivial)) ?_
        | refine call_intro (hD1) (And.intro rfl (And.intro rfl trivial)) ?_
        | refine Exists.intro _ (And.intro rfl ?_)
        | ((with_reducible show _ = _); rfl))
      all_goals try (
        (with_reducible refine Obl.mk ?_)
        first
        | ((with_reducible show regOk _ _ = true); kernel_rfl)
        | ((with_reducible show eqTyOk _ _ = true); kernel_rfl)
        | rfl
        | exact trivial
        | ((repeat' (first | exact trivial | refine And.intro ?_ ?_)); done)
        | decide
        | (intro r hr; simp only [List.mem_cons, List.not_mem_nil, or_false] at hr; first | (subst hr; rfl) | (rcases hr with rfl | rfl <;> rfl) | (rcases hr with rfl | rfl | rfl <;> rfl) | (rcases hr with rfl | rfl | rfl | rfl <;> rfl))
        | (refine And.intro ?_ ?_ <;> simp only [List.length_map, List.length_append, List.length_cons, List.length_nil] <;> omega))
      all_goals try (exfalso; simp at h; done)
    | some (n, k1) =>
      rw [e1] at hR
      dsimp only at hR
      have hD1 := dec_some_spec hD1 e1
      obtain ⟨q0, q1, q2, q3, q4⟩ := dec_some e1
      rw [Int.toNat_natCast] at q3
      repeat' (
        (conv => whnf)
        first
        | refine seq_inl ?_
        | refine And.intro (Obl.out (?_ : Obl _)) ?_
        | refine ifB_intro (fun h => ?_) (fun h => ?_)
        | refine Or.inl (call_intro (hD0) (And.intro rfl (And.intro rfl trivial)) ?_)
        | refine Or.inl (call_intro (hD1) (And.intro rfl (And.intro rfl trivial)) ?_)
        | refine Exists.intro _ (And.intro rfl ?_)
        | ((with_reducible show _ = _); rfl))
      all_goals try (
        (with_reducible refine Obl.mk ?_)
        first
        | ((with_reducible show regOk _ _ = true); kernel_rfl)
        | ((with_reducible show eqTyOk _ _ = true); kernel_rfl)
        | rfl
        | exact trivial
        | ((repeat' (first | exact trivial | refine And.intro ?_ ?_)); done)
        | decide
        | (intro r hr; simp only [List.mem_cons, List.not_mem_nil, or_false] at hr; first | (subst hr; rfl) | (rcases hr with rfl | rfl <;> rfl) | (rcases hr with rfl | rfl | rfl <;> rfl) | (rcases hr with rfl | rfl | rfl | rfl <;> rfl))
        | (refine And.intro ?_ ?_ <;> simp only [List.length_map, List.length_append, List.length_cons, List.length_nil] <;> omega))
      all_goals try (exfalso; simp at h; done)
      conv => whnf
      refine ⟨DsIx s id n R, fun q => ⟨[(0, tS s), (2, .r (.c (.ptr (2, 0, 0) 0))), (3, tB false), (4, .r (.c (.ptr (4, 0, 0) 0))), (6, tI .i64 (q.p : Int)), (8, tI .i64 (n : Int)), (11, .r (.c (.ptr (11, 0, 0) 0))), (12, tI .i64 (q.k : Int))], [((11, 0, 0), some (.box [.t (.int .i64 (id : Int)), .own (11, 0, 1), .nils 0, .nils 0, .nils 0])), ((11, 0, 1), some (.arr true 3 (q.acc.map TSymbol.tr))), ((4, 0, 0), some (.box [.t (.int .i64 0), .nils 0, .nils 0, .nils 0, .nils 0])), ((2, 0, 0), some (.box [.t (.int .i64 0), .nils 0, .nils 0, .nils 0, .nils 0]))], [11, 40, 33, 4, 2]⟩, fun q => n - q.k, ⟨0, k0 + k1, [], by omega, by omega, by simp, by simp, by rw [Nat.sub_zero]; exact hR⟩, ?_, ?_⟩
      · skip
        repeat' (
          (conv => whnf)
          first
          | refine Or.inl ?_
          | refine And.intro (Obl.out (?_ : Obl _)) ?_
          | refine ifB_intro (fun h => ?_) (fun h => ?_)
          | refine Exists.intro _ (And.intro rfl ?_)
          | ((with_reducible show _ = _); rfl))
        all_goals try (
          (with_reducible refine Obl.mk ?_)
          first
          | ((with_reducible show regOk _ _ = true); kernel_rfl)
          | ((with_reducible show eqTyOk _ _ = true); kernel_rfl)
          | rfl
          | exact trivial
          | ((repeat' (first | exact trivial | refine And.intro ?_ ?_)); done)
          | decide
          | (intro r hr; simp only [List.mem_cons, List.not_mem_nil, or_false] at hr; first | (subst hr; rfl) | (rcases hr with rfl | rfl <;> rfl) | (rcases hr with rfl | rfl | rfl <;> rfl) | (rcases hr with rfl | rfl | rfl | rfl <;> rfl))
          | (refine And.intro ?_ ?_ <;> simp only [List.length_map, List.length_append, List.length_cons, List.length_nil] <;> omega))
        all_goals exact ⟨by dsimp only; congr 1; rw [IntWalk.i64_in _ (by omega)]; omega⟩
      intro ⟨k, p, acc, hk, hp, hl, hn, hr⟩
      dsimp only at hk hp hl hn hr ⊢
      by_cases hlt : k < n
      · obtain ⟨m, hm⟩ : ∃ m, n - k = m + 1 := ⟨n - k - 1, by omega⟩
        rw [hm] at hr
        have hT := s_spec_UnpackText s (p : Int) hs (by omega)
        match e2 : unpackT s (p : Int) with
        | none =>
          rw [rest_bad1 e2] at hr
          subst hr
          rw [e2] at hT
          dsimp only [rUn, unS, unK, Option.isSome] at hT
          have hI := s_spec_UnpackInts s (p : Int) hs (by omega)
          generalize unpackInts s (p : Int) = o at hI
          repeat' (
            (conv => whnf)
            first
            | refine seq_inl ?_
            | refine And.intro (Obl.out (?_ : Obl _)) ?_
            | refine ifB_intro (fun h => ?_) (fun h => ?_)
            | refine Or.inl (call_intro (hT) (And.intro rfl (And.intro rfl trivial)) ?_)
            | refine Or.inl (call_intro (hI) (And.intro rfl (And.intro (congrArg (Tr.int _) (by first | rfl | (simp (disch := omega) only [IntWalk.i64_in]; done) | ((try simp (disch := omega) only [IntWalk.i64_in]); omega))) trivial)) ?_)
            | refine Exists.intro _ (And.intro rfl ?_)
            | ((with_reducible show _ = _); rfl))
          all_goals try (
            (with_reducible refine Obl.mk ?_)
            first
            | ((with_reducible show regOk _ _ = true); kernel_rfl)
            | ((with_reducible show eqTyOk _ _ = true); kernel_rfl)
            | rfl
            | exact trivial
            | ((repeat' (first | exact trivial | refine And.intro ?_ ?_)); done)
            | decide
            | (intro r hr; simp only [List.mem_cons, List.not_mem_nil, or_false] at hr; first | (subst hr; rfl) | (rcases hr with rfl | rfl <;> rfl) | (rcases hr with rfl | rfl | rfl <;> rfl) | (rcases hr with rfl | rfl | rfl | rfl <;> rfl))
            | (refine And.intro ?_ ?_ <;> simp only [List.length_map, List.length_append, List.length_cons, List.length_nil] <;> omega))
          all_goals try (exfalso; first | (simp at h; done) | (have h' := of_decide_eq_false h; omega))
        | some (nm, y) =>
          rw [e2] at hT
          dsimp only [rUn, unS, unK, Option.isSome] at hT
          have hy := unT_z e2
          have hI := s_spec_UnpackInts s ((p + y : Nat) : Int) hs (by omega)
          match e3 : unpackInts s ((p + y : Nat) : Int) with
          | none =>
            rw [rest_bad2 e2 (fun ns z e => by rw [e3] at e; cases e)] at hr
            subst hr
            rw [e3] at hI
            dsimp only [rUnp, upL, upZ, Option.isSome] at hI
            repeat' (
              (conv => whnf)
              first
              | refine seq_inl ?_
              | refine And.intro (Obl.out (?_ : Obl _)) ?_
              | refine ifB_intro (fun h => ?_) (fun h => ?_)
              | refine Or.inl (call_intro (hT) (And.intro rfl (And.intro rfl trivial)) ?_)
              | refine Or.inl (call_intro (hI) (And.intro rfl (And.intro (congrArg (Tr.int _) (by first | rfl | (simp (disch := omega) only [IntWalk.i64_in]; done) | ((try simp (disch := omega) only [IntWalk.i64_in]); omega))) trivial)) ?_)
              | refine Exists.intro _ (And.intro rfl ?_)
              | ((with_reducible show _ = _); rfl))
            all_goals try (
              (with_reducible refine Obl.mk ?_)
              first
              | ((with_reducible show regOk _ _ = true); kernel_rfl)
              | ((with_reducible show eqTyOk _ _ = true); kernel_rfl)
              | rfl
              | exact trivial
              | ((repeat' (first | exact trivial | refine And.intro ?_ ?_)); done)
              | decide
              | (intro r hr; simp only [List.mem_cons, List.not_mem_nil, or_false] at hr; first | (subst hr; rfl) | (rcases hr with rfl | rfl <;> rfl) | (rcases hr with rfl | rfl | rfl <;> rfl) | (rcases hr with rfl | rfl | rfl | rfl <;> rfl))
              | (refine And.intro ?_ ?_ <;> simp only [List.length_map, List.length_append, List.length_cons, List.length_nil] <;> omega))
            all_goals try (exfalso; first | (simp at h; done) | (have h' := of_decide_eq_false h; omega))
          | some (ns, z) =>
            rw [e3] at hI
            dsimp only [rUnp, upL, upZ, Option.isSome] at hI
            have hz := un_z e3
            have hlen : (ns.map intRow).length = ns.length := by simp
            by_cases h2 : ns.length = 2
            · match ns, h2 with
              | [x0, x1], _ =>
                rw [rest_good e2 e3] at hr
                repeat' (
                  (conv => whnf)
                  first
                  | refine seq_inl ?_
                  | refine And.intro (Obl.out (?_ : Obl _)) ?_
                  | refine ifB_intro (fun h => ?_) (fun h => ?_)
                  | refine Or.inl (call_intro (hT) (And.intro rfl (And.intro rfl trivial)) ?_)
                  | refine Or.inl (call_intro (hI) (And.intro rfl (And.intro (congrArg (Tr.int _) (by first | rfl | (simp (disch := omega) only [IntWalk.i64_in]; done) | ((try simp (disch := omega) only [IntWalk.i64_in]); omega))) trivial)) ?_)
                  | refine ⟨0, rfl, ?_⟩
                  | refine ⟨1, rfl, ?_⟩
                  | refine Exists.intro _ (And.intro rfl ?_)
                  | ((with_reducible show _ = _); rfl))
                all_goals try (
                  (with_reducible refine Obl.mk ?_)
                  first
                  | ((with_reducible show regOk _ _ = true); kernel_rfl)
                  | ((with_reducible show eqTyOk _ _ = true); kernel_rfl)
                  | rfl
                  | exact trivial
                  | ((repeat' (first | exact trivial | refine And.intro ?_ ?_)); done)
                  | decide
                  | (intro r hr; simp only [List.mem_cons, List.not_mem_nil, or_false] at hr; first | (subst hr; rfl) | (rcases hr with rfl | rfl <;> rfl) | (rcases hr with rfl | rfl | rfl <;> rfl) | (rcases hr with rfl | rfl | rfl | rfl <;> rfl))
                  | (refine And.intro ?_ ?_ <;> simp only [List.length_map, List.length_append, List.length_cons, List.length_nil] <;> omega))
                all_goals try (refine ⟨?_⟩; simp; done)
                all_goals try (refine ⟨?_⟩; simp only [List.length_map, List.length_cons, List.length_nil]; exact ⟨by omega, by omega⟩)
                all_goals try (exfalso; first | (simp at h; done) | (have h' := of_decide_eq_false h; omega))
                conv => whnf
                refine ⟨⟨k + 1, p + y + z, acc ++ [⟨nm, x0, x1⟩], by omega, by omega, by simp; omega, ?_, ?_⟩, ?_, by dsimp only; omega⟩
                · intro x hx
                  rcases List.mem_append.1 hx with hx | hx
                  · exact hn x hx
                  · rw [List.mem_singleton.1 hx]; exact hy.2
                · rw [show n - (k + 1) = m by omega]; exact hr
                repeat' (
                  (conv => whnf)
                  first
                  | refine Or.inl ?_
                  | refine And.intro (Obl.out (?_ : Obl _)) ?_
                  | refine ifB_intro (fun h => ?_) (fun h => ?_)
                  | refine Exists.intro _ (And.intro rfl ?_)
                  | ((with_reducible show _ = _); rfl))
                all_goals try (
                  (with_reducible refine Obl.mk ?_)
                  first
                  | ((with_reducible show regOk _ _ = true); kernel_rfl)
                  | ((with_reducible show eqTyOk _ _ = true); kernel_rfl)
                  | rfl
                  | exact trivial
                  | ((repeat' (first | exact trivial | refine And.intro ?_ ?_)); done)
                  | decide
                  | (intro r hr; simp only [List.mem_cons, List.not_mem_nil, or_false] at hr; first | (subst hr; rfl) | (rcases hr with rfl | rfl <;> rfl) | (rcases hr with rfl | rfl | rfl <;> rfl) | (rcases hr with rfl | rfl | rfl | rfl <;> rfl))
                  | (refine And.intro ?_ ?_ <;> simp only [List.length_map, List.length_append, List.length_cons, List.length_nil] <;> omega))
                all_goals first
                  | (refine ⟨?_⟩; dsimp only; rw [IntWalk.i64_in _ (by omega)]; rfl)
                  | (refine ⟨congrArg (Tr.int _) ?_⟩; dsimp only; simp (disch := omega) only [IntWalk.i64_in]; omega)
                  | (refine ⟨?_⟩; dsimp only; rw [List.map_append]; rfl)
            · rw [rest_bad2 e2 (fun ns' z' e => by rw [e3] at e; injection e with e; injection e with e1 e2; subst e1; exact h2)] at hr
              subst hr
              have hne : (((ns.map intRow).length : Int) != 2) = true := by rw [hlen, bne_iff_ne]; omega
              repeat' (
                (conv => whnf)
                first
                | refine seq_inl ?_
                | refine And.intro (Obl.out (?_ : Obl _)) ?_
                | refine ifB_intro (fun h => ?_) (fun h => ?_)
                | refine Or.inl (call_intro (hT) (And.intro rfl (And.intro rfl trivial)) ?_)
                | refine Or.inl (call_intro (hI) (And.intro rfl (And.intro (congrArg (Tr.int _) (by first | rfl | (simp (disch := omega) only [IntWalk.i64_in]; done) | ((try simp (disch := omega) only [IntWalk.i64_in]); omega))) trivial)) ?_)
                | refine Exists.intro _ (And.intro rfl ?_)
                | ((with_reducible show _ = _); rfl))
              all_goals try (
                (with_reducible refine Obl.mk ?_)
                first
                | ((with_reducible show regOk _ _ = true); kernel_rfl)
                | ((with_reducible show eqTyOk _ _ = true); kernel_rfl)
                | rfl
                | exact trivial
                | ((repeat' (first | exact trivial | refine And.intro ?_ ?_)); done)
                | decide
                | (intro r hr; simp only [List.mem_cons, List.not_mem_nil, or_false] at hr; first | (subst hr; rfl) | (rcases hr with rfl | rfl <;> rfl) | (rcases hr with rfl | rfl | rfl <;> rfl) | (rcases hr with rfl | rfl | rfl | rfl <;> rfl))
                | (refine And.intro ?_ ?_ <;> simp only [List.length_map, List.length_append, List.length_cons, List.length_nil] <;> omega))
              all_goals try (exfalso; first | (simp at h; done) | (have h' := of_decide_eq_false h; omega) | (rw [hne] at h; simp at h; done))
      · rw [show n - k = 0 by omega] at hr
        unfold decRest at hr
        rw [decSyms] at hr
        dsimp only at hr
        rw [List.append_nil, decTail_of] at hr
        repeat' (
          (conv => whnf)
          first
          | refine Or.inl ?_
          | refine And.intro (Obl.out (?_ : Obl _)) ?_
          | refine ifB_intro (fun h => ?_) (fun h => ?_)
          | refine Exists.intro _ (And.intro rfl ?_)
          | ((with_reducible show _ = _); rfl))
        all_goals try (
          (with_reducible refine Obl.mk ?_)
          first
          | ((with_reducible show regOk _ _ = true); kernel_rfl)
          | ((with_reducible show eqTyOk _ _ = true); kernel_rfl)
          | rfl
          | exact trivial
          | ((repeat' (first | exact trivial | refine And.intro ?_ ?_)); done)
          | decide
          | (intro r hr; simp only [List.mem_cons, List.not_mem_nil, or_false] at hr; first | (subst hr; rfl) | (rcases hr with rfl | rfl <;> rfl) | (rcases hr with rfl | rfl | rfl <;> rfl) | (rcases hr with rfl | rfl | rfl | rfl <;> rfl))
          | (refine And.intro ?_ ?_ <;> simp only [List.length_map, List.length_append, List.length_cons, List.length_nil] <;> omega))
        all_goals try (exfalso; have h' := of_decide_eq_true h; omega)
        conv => whnf
        refine ⟨DtIx s id acc R, fun q => ⟨[(0, tS s), (2, .r (.c (.ptr (2, 0, 0) 0))), (3, tB false), (4, .r (.c (.ptr (4, 0, 0) 0))), (6, tI .i64 (q.p : Int)), (11, .r (.c (.ptr (11, 0, 0) 0))), (19, .r (.c (.own (19, 0, 1)))), (20, tI .i64 (q.j : Int))], [((19, 0, 1), some (.arr true 1 (q.ts.map strRow))), ((11, 0, 0), some (.box [.t (.int .i64 (id : Int)), .own (11, 0, 1), .nils 0, .nils 0, .nils 0])), ((11, 0, 1), some (.arr true 3 (acc.map TSymbol.tr))), ((4, 0, 0), some (.box [.t (.int .i64 0), .nils 0, .nils 0, .nils 0, .nils 0])), ((2, 0, 0), some (.box [.t (.int .i64 0), .nils 0, .nils 0, .nils 0, .nils 0]))], [11, 40, 33, 4, 2, 19]⟩, fun q => 3 - q.j, ⟨0, p, [], by omega, hp, rfl, by simp, hr⟩, ?_, ?_⟩
        · skip
          repeat' (
            (conv => whnf)
            first
            | refine Or.inl ?_
            | refine And.intro (Obl.out (?_ : Obl _)) ?_
            | refine ifB_intro (fun h => ?_) (fun h => ?_)
            | refine Exists.intro _ (And.intro rfl ?_)
            | ((with_reducible show _ = _); rfl))
          all_goals try (
            (with_reducible refine Obl.mk ?_)
            first
            | ((with_reducible show regOk _ _ = true); kernel_rfl)
            | ((with_reducible show eqTyOk _ _ = true); kernel_rfl)
            | rfl
            | exact trivial
            | ((repeat' (first | exact trivial | refine And.intro ?_ ?_)); done)
            | decide
            | (intro r hr; simp only [List.mem_cons, List.not_mem_nil, or_false] at hr; first | (subst hr; rfl) | (rcases hr with rfl | rfl <;> rfl) | (rcases hr with rfl | rfl | rfl <;> rfl) | (rcases hr with rfl | rfl | rfl | rfl <;> rfl))
            | (refine And.intro ?_ ?_ <;> simp only [List.length_map, List.length_append, List.length_cons, List.length_nil] <;> omega))
        intro ⟨j, p, ts, hj, hp, hl2, hn2, hr⟩
        dsimp only at hj hp hl2 hn2 hr ⊢
        by_cases hlt : j < 3
        · have hT := s_spec_UnpackText s (p : Int) hs (by omega)
          obtain ⟨m, hm⟩ : ∃ m, 3 - j = m + 1 := ⟨3 - j - 1, by omega⟩
          rw [hm] at hr
          unfold dec3L at hr
          match e2 : unpackT s (p : Int) with
          | none =>
            rw [e2] at hr
            dsimp only at hr
            have hr : none = R := hr
            subst hr
            rw [e2] at hT
            dsimp only [rUn, unS, unK, Option.isSome] at hT
            repeat' (
              (conv => whnf)
              first
              | refine seq_inl ?_
              | refine And.intro (Obl.out (?_ : Obl _)) ?_
              | refine ifB_intro (fun h => ?_) (fun h => ?_)
              | refine Or.inl (call_intro (hT) (And.intro rfl (And.intro rfl trivial)) ?_)
              | refine Exists.intro _ (And.intro rfl ?_)
              | ((with_reducible show _ = _); rfl))
            all_goals try (
              (with_reducible refine Obl.mk ?_)
              first
              | ((with_reducible show regOk _ _ = true); kernel_rfl)
              | ((with_reducible show eqTyOk _ _ = true); kernel_rfl)
              | rfl
              | exact trivial
              | ((repeat' (first | exact trivial | refine And.intro ?_ ?_)); done)
              | decide
              | (intro r hr; simp only [List.mem_cons, List.not_mem_nil, or_false] at hr; first | (subst hr; rfl) | (rcases hr with rfl | rfl <;> rfl) | (rcases hr with rfl | rfl | rfl <;> rfl) | (rcases hr with rfl | rfl | rfl | rfl <;> rfl))
              | (refine And.intro ?_ ?_ <;> simp only [List.length_map, List.length_append, List.length_cons, List.length_nil] <;> omega))
            all_goals try (exfalso; first | (simp at h; done) | (have h' := of_decide_eq_false h; omega))
          | some (t, y) =>
            rw [e2] at hr
            dsimp only at hr
            rw [e2] at hT
            dsimp only [rUn, unS, unK, Option.isSome] at hT
            have hy := unT_z e2
            repeat' (
              (conv => whnf)
              first
              | refine seq_inl ?_
              | refine And.intro (Obl.out (?_ : Obl _)) ?_
              | refine ifB_intro (fun h => ?_) (fun h => ?_)
              | refine Or.inl (call_intro (hT) (And.intro rfl (And.intro rfl trivial)) ?_)
              | refine Exists.intro _ (And.intro rfl ?_)
              | ((with_reducible show _ = _); rfl))
            all_goals try (
              (with_reducible refine Obl.mk ?_)
              first
              | ((with_reducible show regOk _ _ = true); kernel_rfl)
              | ((with_reducible show eqTyOk _ _ = true); kernel_rfl)
              | rfl
              | exact trivial
              | ((repeat' (first | exact trivial | refine And.intro ?_ ?_)); done)
              | decide
              | (intro r hr; simp only [List.mem_cons, List.not_mem_nil, or_false] at hr; first | (subst hr; rfl) | (rcases hr with rfl | rfl <;> rfl) | (rcases hr with rfl | rfl | rfl <;> rfl) | (rcases hr with rfl | rfl | rfl | rfl <;> rfl))
              | (refine And.intro ?_ ?_ <;> simp only [List.length_map, List.length_append, List.length_cons, List.length_nil] <;> omega))
            all_goals try (exfalso; first | (simp at h; done) | (have h' := of_decide_eq_false h; omega))
            all_goals try (refine ⟨?_⟩; simp only [List.length_map, List.length_cons, List.length_nil]; exact ⟨by omega, by omega⟩)
            conv => whnf
            refine ⟨⟨j + 1, p + y, ts ++ [t], by omega, by omega, by simp; omega, ?_, ?_⟩, ?_, by dsimp only; omega⟩
            · intro x hx
              rcases List.mem_append.1 hx with hx | hx
              · exact hn2 x hx
              · rw [List.mem_singleton.1 hx]; exact hy.2
            · rw [show 3 - (j + 1) = m by omega]; exact hr
            repeat' (
              (conv => whnf)
              first
              | refine Or.inl ?_
              | refine And.intro (Obl.out (?_ : Obl _)) ?_
              | refine ifB_intro (fun h => ?_) (fun h => ?_)
              | refine Exists.intro _ (And.intro rfl ?_)
              | ((with_reducible show _ = _); rfl))
            all_goals try (
              (with_reducible refine Obl.mk ?_)
              first
              | ((with_reducible show regOk _ _ = true); kernel_rfl)
              | ((with_reducible show eqTyOk _ _ = true); kernel_rfl)
              | rfl
              | exact trivial
              | ((repeat' (first | exact trivial | refine And.intro ?_ ?_)); done)
              | decide
              | (intro r hr; simp only [List.mem_cons, List.not_mem_nil, or_false] at hr; first | (subst hr; rfl) | (rcases hr with rfl | rfl <;> rfl) | (rcases hr with rfl | rfl | rfl <;> rfl) | (rcases hr with rfl | rfl | rfl | rfl <;> rfl))
              | (refine And.intro ?_ ?_ <;> simp only [List.length_map, List.length_append, List.length_cons, List.length_nil] <;> omega))
            all_goals first
              | (refine ⟨?_⟩; dsimp only; rw [IntWalk.i64_in _ (by omega)]; rfl)
              | (refine ⟨congrArg (Tr.int _) ?_⟩; dsimp only; simp (disch := omega) only [IntWalk.i64_in]; omega)
              | (refine ⟨?_⟩; dsimp only; rw [List.map_append]; rfl)
        · have h3 : j = 3 := by omega
          subst h3
          match ts, hl2 with
          | [t1, t2, t3], _ =>
            have hs1 := hn2 t1 (by simp)
            have hs2 := hn2 t2 (by simp)
            have hs3 := hn2 t3 (by simp)
            have hr : tailOf id acc (some [t1, t2, t3]) = R := hr
            have d1 := s_spec_DecodeRules t1 (by omega)
            have d2 := s_spec_DecodeRows t2 (by omega)
            have d3 := s_spec_DecodeInlines t3 (by omega)
            dsimp only [tailOf] at hr
            match q1 : decodeRules t1 with
            | none =>
              rw [q1] at hr d1
              dsimp only at hr
              subst hr
              repeat' (
                (conv => whnf)
                first
                | refine seq_inl ?_
                | refine And.intro (Obl.out (?_ : Obl _)) ?_
                | refine ifB_intro (fun h => ?_) (fun h => ?_)
                | refine Or.inl (call_intro (d1) (And.intro rfl trivial) ?_)
                | refine Or.inl (call_intro (d2) (And.intro rfl trivial) ?_)
                | refine Or.inl (call_intro (d3) (And.intro rfl trivial) ?_)
                | refine ⟨0, (strRow t1), rfl, rfl, ?_⟩
                | refine ⟨1, (strRow t2), rfl, rfl, ?_⟩
                | refine ⟨2, (strRow t3), rfl, rfl, ?_⟩
                | refine Exists.intro _ (And.intro rfl ?_)
                | ((with_reducible show _ = _); rfl))
              all_goals try (
                (with_reducible refine Obl.mk ?_)
                first
                | ((with_reducible show regOk _ _ = true); kernel_rfl)
                | ((with_reducible show eqTyOk _ _ = true); kernel_rfl)
                | rfl
                | exact trivial
                | ((repeat' (first | exact trivial | refine And.intro ?_ ?_)); done)
                | decide
                | (intro r hr; simp only [List.mem_cons, List.not_mem_nil, or_false] at hr; first | (subst hr; rfl) | (rcases hr with rfl | rfl <;> rfl) | (rcases hr with rfl | rfl | rfl <;> rfl) | (rcases hr with rfl | rfl | rfl | rfl <;> rfl))
                | (refine And.intro ?_ ?_ <;> simp only [List.length_map, List.length_append, List.length_cons, List.length_nil] <;> omega))
              all_goals try (exfalso; first | (simp at h; done) | (have h2 := of_decide_eq_true h; omega))
              all_goals try (refine ⟨?_⟩; simp; done)
            | some ru =>
              match q2 : decodeRows t2 with
              | none =>
                rw [q1, q2] at hr
                rw [q1] at d1
                rw [q2] at d2
                dsimp only at hr
                subst hr
                repeat' (
                  (conv => whnf)
                  first
                  | refine seq_inl ?_
                  | refine And.intro (Obl.out (?_ : Obl _)) ?_
                  | refine ifB_intro (fun h => ?_) (fun h => ?_)
                  | refine Or.inl (call_intro (d1) (And.intro rfl trivial) ?_)
                  | refine Or.inl (call_intro (d2) (And.intro rfl trivial) ?_)
                  | refine Or.inl (call_intro (d3) (And.intro rfl trivial) ?_)
                  | refine ⟨0, (strRow t1), rfl, rfl, ?_⟩
                  | refine ⟨1, (strRow t2), rfl, rfl, ?_⟩
                  | refine ⟨2, (strRow t3), rfl, rfl, ?_⟩
                  | refine Exists.intro _ (And.intro rfl ?_)
                  | ((with_reducible show _ = _); rfl))
                all_goals try (
                  (with_reducible refine Obl.mk ?_)
                  first
                  | ((with_reducible show regOk _ _ = true); kernel_rfl)
                  | ((with_reducible show eqTyOk _ _ = true); kernel_rfl)
                  | rfl
                  | exact trivial
                  | ((repeat' (first | exact trivial | refine And.intro ?_ ?_)); done)
                  | decide
                  | (intro r hr; simp only [List.mem_cons, List.not_mem_nil, or_false] at hr; first | (subst hr; rfl) | (rcases hr with rfl | rfl <;> rfl) | (rcases hr with rfl | rfl | rfl <;> rfl) | (rcases hr with rfl | rfl | rfl | rfl <;> rfl))
                  | (refine And.intro ?_ ?_ <;> simp only [List.length_map, List.length_append, List.length_cons, List.length_nil] <;> omega))
                all_goals try (exfalso; first | (simp at h; done) | (have h2 := of_decide_eq_true h; omega))
                all_goals try (refine ⟨?_⟩; simp; done)
              | some ro =>
                match q3 : decodeInlines t3 with
                | none =>
                  rw [q1, q2, q3] at hr
                  rw [q1] at d1
                  rw [q2] at d2
                  rw [q3] at d3
                  dsimp only at hr
                  subst hr
                  repeat' (
                    (conv => whnf)
                    first
                    | refine seq_inl ?_
                    | refine And.intro (Obl.out (?_ : Obl _)) ?_
                    | refine ifB_intro (fun h => ?_) (fun h => ?_)
                    | refine Or.inl (call_intro (d1) (And.intro rfl trivial) ?_)
                    | refine Or.inl (call_intro (d2) (And.intro rfl trivial) ?_)
                    | refine Or.inl (call_intro (d3) (And.intro rfl trivial) ?_)
                    | refine ⟨0, (strRow t1), rfl, rfl, ?_⟩
                    | refine ⟨1, (strRow t2), rfl, rfl, ?_⟩
                    | refine ⟨2, (strRow t3), rfl, rfl, ?_⟩
                    | refine Exists.intro _ (And.intro rfl ?_)
                    | ((with_reducible show _ = _); rfl))
                  all_goals try (
                    (with_reducible refine Obl.mk ?_)
                    first
                    | ((with_reducible show regOk _ _ = true); kernel_rfl)
                    | ((with_reducible show eqTyOk _ _ = true); kernel_rfl)
                    | rfl
                    | exact trivial
                    | ((repeat' (first | exact trivial | refine And.intro ?_ ?_)); done)
                    | decide
                    | (intro r hr; simp only [List.mem_cons, List.not_mem_nil, or_false] at hr; first | (subst hr; rfl) | (rcases hr with rfl | rfl <;> rfl) | (rcases hr with rfl | rfl | rfl <;> rfl) | (rcases hr with rfl | rfl | rfl | rfl <;> rfl))
                    | (refine And.intro ?_ ?_ <;> simp only [List.length_map, List.length_append, List.length_cons, List.length_nil] <;> omega))
                  all_goals try (exfalso; first | (simp at h; done) | (have h2 := of_decide_eq_true h; omega))
                  all_goals try (refine ⟨?_⟩; simp; done)
                | some ri =>
                  rw [q1, q2, q3] at hr
                  rw [q1] at d1
                  rw [q2] at d2
                  rw [q3] at d3
                  dsimp only at hr
                  subst hr
                  have f1 := decodeRules_len (s := t1) (by omega)
                  have f2 := decodeRows_len (s := t2) (by omega)
                  have f3 := decodeInlines_small (s := t3) (by omega)
                  rw [q1] at f1
                  rw [q2] at f2
                  rw [q3] at f3
                  have hE := s_spec_EncodeDebug ⟨id, acc, ru, ro, ri⟩ ⟨by dsimp only; omega, fun x hx => Nat.le_trans (hn x hx) hs, f1, f2, small_nat f3, inl_short f3⟩
                  by_cases hen : encodeDebug ⟨id, acc, ru, ro, ri⟩ = s
                  · rw [dbgFin_yes hen]
                    rw [hen] at hE
                    repeat' (
                      (conv => whnf)
                      first
                      | refine seq_inl ?_
                      | refine And.intro (Obl.out (?_ : Obl _)) ?_
                      | refine ifB_intro (fun h => ?_) (fun h => ?_)
                      | refine Or.inl (call_intro (d1) (And.intro rfl trivial) ?_)
                      | refine Or.inl (call_intro (d2) (And.intro rfl trivial) ?_)
                      | refine Or.inl (call_intro (d3) (And.intro rfl trivial) ?_)
                      | refine ⟨0, (strRow t1), rfl, rfl, ?_⟩
                      | refine ⟨1, (strRow t2), rfl, rfl, ?_⟩
                      | refine ⟨2, (strRow t3), rfl, rfl, ?_⟩
                      | refine Or.inl (call_intro (hE) (And.intro (And.intro rfl (And.intro rfl (And.intro rfl (And.intro rfl (And.intro rfl trivial))))) trivial) ?_)
                      | refine Exists.intro _ (And.intro rfl ?_)
                      | ((with_reducible show _ = _); rfl))
                    all_goals try (
                      (with_reducible refine Obl.mk ?_)
                      first
                      | ((with_reducible show regOk _ _ = true); kernel_rfl)
                      | ((with_reducible show eqTyOk _ _ = true); kernel_rfl)
                      | rfl
                      | exact trivial
                      | ((repeat' (first | exact trivial | refine And.intro ?_ ?_)); done)
                      | decide
                      | (intro r hr; simp only [List.mem_cons, List.not_mem_nil, or_false] at hr; first | (subst hr; rfl) | (rcases hr with rfl | rfl <;> rfl) | (rcases hr with rfl | rfl | rfl <;> rfl) | (rcases hr with rfl | rfl | rfl | rfl <;> rfl))
                      | (refine And.intro ?_ ?_ <;> simp only [List.length_map, List.length_append, List.length_cons, List.length_nil] <;> omega))
                    all_goals try (exfalso; first | (simp at h; done) | (have h2 := of_decide_eq_true h; omega))
                    all_goals try (refine ⟨?_⟩; simp; done)
                  · rw [dbgFin_no hen]
                    have hne : (encodeDebug ⟨id, acc, ru, ro, ri⟩ == s) = false := by simpa using hen
                    repeat' (
                      (conv => whnf)
                      first
                      | refine seq_inl ?_
                      | refine And.intro (Obl.out (?_ : Obl _)) ?_
                      | refine ifB_intro (fun h => ?_) (fun h => ?_)
                      | refine Or.inl (call_intro (d1) (And.intro rfl trivial) ?_)
                      | refine Or.inl (call_intro (d2) (And.intro rfl trivial) ?_)
                      | refine Or.inl (call_intro (d3) (And.intro rfl trivial) ?_)
                      | refine ⟨0, (strRow t1), rfl, rfl, ?_⟩
                      | refine ⟨1, (strRow t2), rfl, rfl, ?_⟩
                      | refine ⟨2, (strRow t3), rfl, rfl, ?_⟩
                      | refine Or.inl (call_intro (hE) (And.intro (And.intro rfl (And.intro rfl (And.intro rfl (And.intro rfl (And.intro rfl trivial))))) trivial) ?_)
                      | refine Exists.intro _ (And.intro rfl ?_)
                      | ((with_reducible show _ = _); rfl))
                    all_goals try (
                      (with_reducible refine Obl.mk ?_)
                      first
                      | ((with_reducible show regOk _ _ = true); kernel_rfl)
                      | ((with_reducible show eqTyOk _ _ = true); kernel_rfl)
                      | rfl
                      | exact trivial
                      | ((repeat' (first | exact trivial | refine And.intro ?_ ?_)); done)
                      | decide
                      | (intro r hr; simp only [List.mem_cons, List.not_mem_nil, or_false] at hr; first | (subst hr; rfl) | (rcases hr with rfl | rfl <;> rfl) | (rcases hr with rfl | rfl | rfl <;> rfl) | (rcases hr with rfl | rfl | rfl | rfl <;> rfl))
                      | (refine And.intro ?_ ?_ <;> simp only [List.length_map, List.length_append, List.length_cons, List.length_nil] <;> omega))
                    all_goals try (exfalso; first | (simp at h; done) | (have h2 := of_decide_eq_true h; omega))
                    all_goals try (refine ⟨?_⟩; simp; done)
                    all_goals try (exfalso; have h' := h; rw [show (encodeDebug ⟨id, acc, ru, ro, ri⟩ != s) = !(encodeDebug ⟨id, acc, ru, ro, ri⟩ == s) from rfl, hne] at h'; simp at h'; done)
                    all_goals try (exfalso; rw [hne] at h; simp at h; done)
end Go.Proofs.Ytflolafbblohnaa
