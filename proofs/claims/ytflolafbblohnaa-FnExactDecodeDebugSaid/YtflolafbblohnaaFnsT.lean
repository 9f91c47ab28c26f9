/- DecodeInlines in both texts. -/
import Derived.Test.YtflolafbblohnaaFnsS
import Derived.Test.YtflolafbblohnaaFnsM
import Derived.Test.YtflolafbblohnaaFnsL
import Derived.Test.YtflolafbblohnaaFnsQ
namespace Go.Proofs.Ytflolafbblohnaa
open Go.Sim
set_option maxRecDepth 100000
set_option maxHeartbeats 4000000
def decInlL (s : List UInt8) : Nat → Nat → Option (List TInline)
  | 0, _ => some []
  | c + 1, at' => match unpackInts s (at' : Int) with
    | some ([x0, x1, x2, x3], n) => (match unpackT s ((at' + n : Nat) : Int) with
      | some (name, m) => (decInlL s c (at' + n + m)).map (⟨x0, x1, x2, x3, name⟩ :: ·)
      | none => none)
    | _ => none
def decInlR (s : List UInt8) : Option (List TInline) := match dec s 0 with
  | none => none
  | some x => decInlL s x.1 x.2
def decodeInlines (s : List UInt8) : Option (List TInline) := match decInlR s with
  | none => none
  | some l => if encodeInlines l = s then some l else none
theorem un_z {s : List UInt8} {p : Nat} {ns : List Int} {z : Nat} (h : unpackInts s (p : Int) = some (ns, z)) : 1 ≤ z ∧ p + z ≤ s.length := by
  unfold unpackInts at h
  match hd : dec s (p : Int) with
  | none => rw [hd] at h; cases h
  | some (a, b) =>
    rw [hd] at h
    have h1 := dec_some hd
    have h2 := unpackL_len h
    rw [Int.toNat_natCast] at h1 h2
    dsimp only at h2
    have := h2.2.2 h1.2.2.2.1
    omega
theorem unT_z {s : List UInt8} {p : Nat} {t : List UInt8} {z : Nat} (h : unpackT s (p : Int) = some (t, z)) : p + z ≤ s.length ∧ t.length ≤ s.length := by
  unfold unpackT at h
  match hd : dec s (p : Int) with
  | none => rw [hd] at h; cases h
  | some (a, b) =>
    rw [hd] at h
    dsimp only at h
    split at h
    · injection h with h
      injection h with h1 h2
      rw [Int.toNat_natCast] at *
      subst h1
      constructor
      · omega
      · simp; omega
    · cases h
theorem decInlL_len {s : List UInt8} : ∀ {c p : Nat} {l : List TInline}, decInlL s c p = some l → p ≤ s.length → l.length = c ∧ p + c ≤ s.length ∧ ∀ x ∈ l, x.fName.length ≤ s.length
  | 0, p, l, h, hp => by
    rw [decInlL] at h
    injection h with h
    subst h
    exact ⟨rfl, hp, fun x hx => by cases hx⟩
  | c + 1, p, l, h, hp => by
    rw [decInlL] at h
    split at h
    · rename_i x0 x1 x2 x3 n hu
      split at h
      · rename_i name m ht
        rw [Option.map_eq_some_iff] at h
        obtain ⟨l', h', rfl⟩ := h
        have h1 := un_z hu
        have h2 := unT_z ht
        have h3 := decInlL_len h' (by omega)
        refine ⟨by simp [h3.1], by omega, fun x hx => ?_⟩
        rcases List.mem_cons.1 hx with rfl | hx
        · exact h2.2
        · exact h3.2.2 x hx
      · cases h
    · cases h
theorem inl_none1 {s : List UInt8} {m p : Nat} (hu : unpackInts s (p : Int) = none) : decInlL s (m + 1) p = none := by rw [decInlL, hu]
theorem inl_none2 {s : List UInt8} {m p z : Nat} {ns : List Int} (hu : unpackInts s (p : Int) = some (ns, z)) (h : ns.length ≠ 4) : decInlL s (m + 1) p = none := by
  rw [decInlL, hu]
  match ns, h with
  | [], _ => rfl
  | [_], _ => rfl
  | [_, _], _ => rfl
  | [_, _, _], _ => rfl
  | [_, _, _, _], h => exact absurd rfl h
  | _ :: _ :: _ :: _ :: _ :: _, _ => rfl
theorem inl_none3 {s : List UInt8} {m p z : Nat} {ns : List Int} (hu : unpackInts s (p : Int) = some (ns, z)) (ht : unpackT s ((p + z : Nat) : Int) = none) : decInlL s (m + 1) p = none := by
  by_cases h : ns.length = 4
  · match ns, h with
    | [_, _, _, _], _ => rw [decInlL, hu]; dsimp only; rw [ht]
  · exact inl_none2 hu h
theorem inl_some {s : List UInt8} {m p z y : Nat} {a b c d : Int} {t : List UInt8} (hu : unpackInts s (p : Int) = some ([a, b, c, d], z)) (ht : unpackT s ((p + z : Nat) : Int) = some (t, y)) : decInlL s (m + 1) p = (decInlL s m (p + z + y)).map (⟨a, b, c, d, t⟩ :: ·) := by
  rw [decInlL, hu]; dsimp only; rw [ht]
abbrev DecIIx (s : List UInt8) (c : Nat) (R : Option (List TInline)) := { q : Nat × Nat × List TInline // q.1 ≤ c ∧ q.2.2.length = q.1 ∧ q.1 ≤ q.2.1 ∧ q.2.1 ≤ s.length ∧ (∀ x ∈ q.2.2, x.fName.length ≤ s.length) ∧ (decInlL s (c - q.1) q.2.1).map (q.2.2 ++ ·) = R }
theorem s_impl_DecodeInlines (s : List UInt8) (hs : s.length ≤ 1048576) : Sim.Spec Try.prog 92 [tvS s] (.tup [.c (.arr 5 ((oL (decodeInlines s)).map TInline.tr)), .c (.t (.bool (decodeInlines s).isSome))]) := by
  refine spec_of_W hΓ hmix Try.func92 rfl (by decide) rfl ?_
  have hD := s_impl_DecodeVarint s 0 hs
  unfold decodeInlines decInlR
  match hd : dec s 0 with
  | none =>
    have hD := dec_none_spec hD hd
    repeat' (
      (conv => whnf)
      first
      | refine Or.inl ?_
      | refine And.intro (Obl.out (?_ : Obl _)) ?_
      | refine ifB_intro (fun h => ?_) (fun h => ?_)
      | refine call_intro (hD) (And.intro rfl (And.intro rfl trivial)) ?_
      | refine Exists.intro _ (And.intro rfl ?_)
      | ((with_reducible show _ = _); rfl))
    all_goals try (
      (with_reducible refine Obl.mk ?_)
      first
      | ((with_reducible show regOk _ _ = true); kernel_rfl)
      | ((with_reducible show eqTyOk _ _ = true); kernel_rfl)
      | rfl
      | exact trivial
      | ((repeat' (first | exact trivial | refine And.intro ?_ ?_)); done)
      | decide
      | (intro r hr; simp only [List.mem_cons, List.not_mem_nil, or_false] at hr; first | (subst hr; rfl) | (rcases hr with rfl | rfl <;> rfl) | (rcases hr with rfl | rfl | rfl <;> rfl) | (rcases hr with rfl | rfl | rfl | rfl <;> rfl))
      | (refine And.intro ?_ ?_ <;> simp only [List.length_map, List.length_append, List.length_cons, List.length_nil] <;> omega))
  | some (c, k0) =>
    have hD := dec_some_spec hD hd
    obtain ⟨h0, h1, h2, h3, h4⟩ := dec_some hd
    rw [show (0 : Int).toNat = 0 from rfl, Nat.zero_add] at h3
    dsimp only
    generalize hR : decInlL s c k0 = R
    by_cases hcs : c ≤ s.length
    · skip
      repeat' (
        (conv => whnf)
        first
        | refine Or.inl ?_
        | refine And.intro (Obl.out (?_ : Obl _)) ?_
        | refine ifB_intro (fun h => ?_) (fun h => ?_)
        | refine call_intro (hD) (And.intro rfl (And.intro rfl trivial)) ?_
        | refine Exists.intro _ (And.intro rfl ?_)
        | ((with_reducible show _ = _); rfl))
      all_goals try (
        (with_reducible refine Obl.mk ?_)
        first
        | ((with_reducible show regOk _ _ = true); kernel_rfl)
        | ((with_reducible show eqTyOk _ _ = true); kernel_rfl)
        | rfl
        | exact trivial
        | ((repeat' (first | exact trivial | refine And.intro ?_ ?_)); done)
        | decide
        | (intro r hr; simp only [List.mem_cons, List.not_mem_nil, or_false] at hr; first | (subst hr; rfl) | (rcases hr with rfl | rfl <;> rfl) | (rcases hr with rfl | rfl | rfl <;> rfl) | (rcases hr with rfl | rfl | rfl | rfl <;> rfl))
        | (refine And.intro ?_ ?_ <;> simp only [List.length_map, List.length_append, List.length_cons, List.length_nil] <;> omega))
      all_goals try (exfalso; have h' := of_decide_eq_true h; omega; done)
      conv => whnf
      refine ⟨DecIIx s c R, fun q => ⟨[(0, tS s), (4, tI .i64 (c : Int)), (5, tI .i64 (q.1.2.1 : Int)), (7, .r (.c (.own (29, 0, 0)))), (8, tI .i64 (q.1.1 : Int))], [((29, 0, 0), some (.arr true 5 (q.1.2.2.map TInline.tr)))], [29]⟩, fun q => c - q.1.1, ⟨(0, k0, []), by simp, by simp, by simp, by simpa using h3, by simp, by simpa using hR⟩, ?_, ?_⟩
      · skip
        repeat' (
          (conv => whnf)
          first
          | refine Or.inl ?_
          | refine And.intro (Obl.out (?_ : Obl _)) ?_
          | refine ifB_intro (fun h => ?_) (fun h => ?_)
          | refine Exists.intro _ (And.intro rfl ?_)
          | ((with_reducible show _ = _); rfl))
        all_goals try (
          (with_reducible refine Obl.mk ?_)
          first
          | ((with_reducible show regOk _ _ = true); kernel_rfl)
          | ((with_reducible show eqTyOk _ _ = true); kernel_rfl)
          | rfl
          | exact trivial
          | ((repeat' (first | exact trivial | refine And.intro ?_ ?_)); done)
          | decide
          | (intro r hr; simp only [List.mem_cons, List.not_mem_nil, or_false] at hr; first | (subst hr; rfl) | (rcases hr with rfl | rfl <;> rfl) | (rcases hr with rfl | rfl | rfl <;> rfl) | (rcases hr with rfl | rfl | rfl | rfl <;> rfl))
          | (refine And.intro ?_ ?_ <;> simp only [List.length_map, List.length_append, List.length_cons, List.length_nil] <;> omega))
      intro ⟨⟨k, p, acc⟩, hk, hal, hkp, hp, hn, hr⟩
      dsimp only at hk hal hkp hp hn hr ⊢
      by_cases hlt : k < c
      · obtain ⟨m, hm⟩ : ∃ m, c - k = m + 1 := ⟨c - k - 1, by omega⟩
        rw [hm] at hr
        have hU := s_impl_UnpackInts s (p : Int) hs (by omega)
        match hu : unpackInts s (p : Int) with
        | none =>
          rw [inl_none1 hu] at hr
          rw [hu] at hU
          dsimp only [rUnp, upL, upZ, Option.isSome] at hU
          have hT := s_impl_UnpackText s (p : Int) hs (by omega)
          rw [← hr]
          repeat' (
            (conv => whnf)
            first
            | refine Or.inl ?_
            | refine And.intro (Obl.out (?_ : Obl _)) ?_
            | refine ifB_intro (fun h => ?_) (fun h => ?_)
            | refine call_intro (hU) (And.intro rfl (And.intro rfl trivial)) ?_
            | refine call_intro (hT) (And.intro rfl (And.intro (congrArg (Tr.int _) (by first | rfl | (simp (disch := omega) only [IntWalk.i64_in]; done) | ((try simp (disch := omega) only [IntWalk.i64_in]); omega))) trivial)) ?_
            | refine Exists.intro _ (And.intro rfl ?_)
            | ((with_reducible show _ = _); rfl))
          all_goals try (
            (with_reducible refine Obl.mk ?_)
            first
            | ((with_reducible show regOk _ _ = true); kernel_rfl)
            | ((with_reducible show eqTyOk _ _ = true); kernel_rfl)
            | rfl
            | exact trivial
            | ((repeat' (first | exact trivial | refine And.intro ?_ ?_)); done)
            | decide
            | (intro r hr; simp only [List.mem_cons, List.not_mem_nil, or_false] at hr; first | (subst hr; rfl) | (rcases hr with rfl | rfl <;> rfl) | (rcases hr with rfl | rfl | rfl <;> rfl) | (rcases hr with rfl | rfl | rfl | rfl <;> rfl))
            | (refine And.intro ?_ ?_ <;> simp only [List.length_map, List.length_append, List.length_cons, List.length_nil] <;> omega))
          all_goals try (exfalso; simp only [decide_eq_false_iff_not, decide_eq_true_eq] at *; omega)
        | some (ns, z) =>
          rw [hu] at hU
          dsimp only [rUnp, upL, upZ, Option.isSome] at hU
          have hz := un_z hu
          have hT := s_impl_UnpackText s ((p + z : Nat) : Int) hs (by omega)
          have hlen : (ns.map intRow).length = ns.length := by simp
          match ht : unpackT s ((p + z : Nat) : Int) with
          | none =>
            rw [inl_none3 hu ht] at hr
            rw [ht] at hT
            dsimp only [rUn, unS, unK, Option.isSome] at hT
            rw [← hr]
            repeat' (
              (conv => whnf)
              first
              | refine Or.inl ?_
              | refine And.intro (Obl.out (?_ : Obl _)) ?_
              | refine ifB_intro (fun h => ?_) (fun h => ?_)
              | refine call_intro (hU) (And.intro rfl (And.intro rfl trivial)) ?_
              | refine call_intro (hT) (And.intro rfl (And.intro (congrArg (Tr.int _) (by first | rfl | (simp (disch := omega) only [IntWalk.i64_in]; done) | ((try simp (disch := omega) only [IntWalk.i64_in]); omega))) trivial)) ?_
              | refine Exists.intro _ (And.intro rfl ?_)
              | ((with_reducible show _ = _); rfl))
            all_goals try (
              (with_reducible refine Obl.mk ?_)
              first
              | ((with_reducible show regOk _ _ = true); kernel_rfl)
              | ((with_reducible show eqTyOk _ _ = true); kernel_rfl)
              | rfl
              | exact trivial
              | ((repeat' (first | exact trivial | refine And.intro ?_ ?_)); done)
              | decide
              | (intro r hr; simp only [List.mem_cons, List.not_mem_nil, or_false] at hr; first | (subst hr; rfl) | (rcases hr with rfl | rfl <;> rfl) | (rcases hr with rfl | rfl | rfl <;> rfl) | (rcases hr with rfl | rfl | rfl | rfl <;> rfl))
              | (refine And.intro ?_ ?_ <;> simp only [List.length_map, List.length_append, List.length_cons, List.length_nil] <;> omega))
            all_goals try (exfalso; simp only [decide_eq_false_iff_not, decide_eq_true_eq] at *; omega)
          | some (t, y) =>
            rw [ht] at hT
            dsimp only [rUn, unS, unK, Option.isSome] at hT
            have hy := unT_z ht
            by_cases h44 : ns.length = 4
            · match ns, h44 with
              | [x0, x1, x2, x3], _ =>
                rw [inl_some hu ht] at hr
                repeat' (
                  (conv => whnf)
                  first
                  | refine Or.inl ?_
                  | refine And.intro (Obl.out (?_ : Obl _)) ?_
                  | refine ifB_intro (fun h => ?_) (fun h => ?_)
                  | refine call_intro (hU) (And.intro rfl (And.intro rfl trivial)) ?_
                  | refine call_intro (hT) (And.intro rfl (And.intro (congrArg (Tr.int _) (by first | rfl | (simp (disch := omega) only [IntWalk.i64_in]; done) | ((try simp (disch := omega) only [IntWalk.i64_in]); omega))) trivial)) ?_
                  | refine ⟨0, rfl, ?_⟩
                  | refine ⟨1, rfl, ?_⟩
                  | refine ⟨2, rfl, ?_⟩
                  | refine ⟨3, rfl, ?_⟩
                  | refine Exists.intro _ (And.intro rfl ?_)
                  | ((with_reducible show _ = _); rfl))
                all_goals try (
                  (with_reducible refine Obl.mk ?_)
                  first
                  | ((with_reducible show regOk _ _ = true); kernel_rfl)
                  | ((with_reducible show eqTyOk _ _ = true); kernel_rfl)
                  | rfl
                  | exact trivial
                  | ((repeat' (first | exact trivial | refine And.intro ?_ ?_)); done)
                  | decide
                  | (intro r hr; simp only [List.mem_cons, List.not_mem_nil, or_false] at hr; first | (subst hr; rfl) | (rcases hr with rfl | rfl <;> rfl) | (rcases hr with rfl | rfl | rfl <;> rfl) | (rcases hr with rfl | rfl | rfl | rfl <;> rfl))
                  | (refine And.intro ?_ ?_ <;> simp only [List.length_map, List.length_append, List.length_cons, List.length_nil] <;> omega))
                all_goals try (exfalso; simp only [decide_eq_false_iff_not, decide_eq_true_eq] at *; omega)
                all_goals try exact ⟨by simp⟩
                all_goals try exact ⟨⟨by simp only [List.length_map, List.length_cons, List.length_nil]; omega, by simp only [List.length_map, List.length_cons, List.length_nil]; omega⟩⟩
                conv => whnf
                refine ⟨⟨(k + 1, p + z + y, acc ++ [⟨x0, x1, x2, x3, t⟩]), by dsimp only; omega, by simp; omega, by dsimp only; omega, by dsimp only; omega, fun x hx => ?_, ?_⟩, ?_, by dsimp only; omega⟩
                · rcases List.mem_append.1 hx with hx | hx
                  · exact hn x hx
                  · rw [List.mem_singleton.1 hx]; exact hy.2
                · dsimp only
                  rw [show c - (k + 1) = m by omega, ← hr, Option.map_map]
                  congr 1
                  funext l
                  simp
                repeat' (
                  (conv => whnf)
                  first
                  | refine Or.inl ?_
                  | refine And.intro (Obl.out (?_ : Obl _)) ?_
                  | refine ifB_intro (fun h => ?_) (fun h => ?_)
                  | refine Exists.intro _ (And.intro rfl ?_)
                  | ((with_reducible show _ = _); rfl))
                all_goals try (
                  (with_reducible refine Obl.mk ?_)
                  first
                  | ((with_reducible show regOk _ _ = true); kernel_rfl)
                  | ((with_reducible show eqTyOk _ _ = true); kernel_rfl)
                  | rfl
                  | exact trivial
                  | ((repeat' (first | exact trivial | refine And.intro ?_ ?_)); done)
                  | decide
                  | (intro r hr; simp only [List.mem_cons, List.not_mem_nil, or_false] at hr; first | (subst hr; rfl) | (rcases hr with rfl | rfl <;> rfl) | (rcases hr with rfl | rfl | rfl <;> rfl) | (rcases hr with rfl | rfl | rfl | rfl <;> rfl))
                  | (refine And.intro ?_ ?_ <;> simp only [List.length_map, List.length_append, List.length_cons, List.length_nil] <;> omega))
                all_goals first
                  | (refine ⟨?_⟩; dsimp only; rw [IntWalk.i64_in _ (by omega)]; rfl)
                  | (refine ⟨congrArg (Tr.int _) ?_⟩; dsimp only; simp (disch := omega) only [IntWalk.i64_in]; omega)
                  | (refine ⟨?_⟩; dsimp only; rw [List.map_append]; rfl)
            · rw [inl_none2 hu h44] at hr
              rw [← hr]
              have hne : (((ns.map intRow).length : Int) != 4) = true := by rw [hlen, bne_iff_ne]; omega
              repeat' (
                (conv => whnf)
                first
                | refine Or.inl ?_
                | refine And.intro (Obl.out (?_ : Obl _)) ?_
                | refine ifB_intro (fun h => ?_) (fun h => ?_)
                | refine call_intro (hU) (And.intro rfl (And.intro rfl trivial)) ?_
                | refine call_intro (hT) (And.intro rfl (And.intro (congrArg (Tr.int _) (by first | rfl | (simp (disch := omega) only [IntWalk.i64_in]; done) | ((try simp (disch := omega) only [IntWalk.i64_in]); omega))) trivial)) ?_
                | refine Exists.intro _ (And.intro rfl ?_)
                | ((with_reducible show _ = _); rfl))
              all_goals try (
                (with_reducible refine Obl.mk ?_)
                first
                | ((with_reducible show regOk _ _ = true); kernel_rfl)
                | ((with_reducible show eqTyOk _ _ = true); kernel_rfl)
                | rfl
                | exact trivial
                | ((repeat' (first | exact trivial | refine And.intro ?_ ?_)); done)
                | decide
                | (intro r hr; simp only [List.mem_cons, List.not_mem_nil, or_false] at hr; first | (subst hr; rfl) | (rcases hr with rfl | rfl <;> rfl) | (rcases hr with rfl | rfl | rfl <;> rfl) | (rcases hr with rfl | rfl | rfl | rfl <;> rfl))
                | (refine And.intro ?_ ?_ <;> simp only [List.length_map, List.length_append, List.length_cons, List.length_nil] <;> omega))
              all_goals try (exfalso; simp only [decide_eq_false_iff_not, decide_eq_true_eq] at *; omega)
              all_goals try (exfalso; rw [hne] at h; simp at h; done)
      · have hge : c ≤ k := by omega
        rw [show c - k = 0 by omega, decInlL] at hr
        simp only [Option.map_some, List.append_nil] at hr
        have hEnc := s_impl_EncodeInlines acc (by omega) fun x hx => by have := hn x hx; omega
        rw [← hr]
        by_cases he : encodeInlines acc = s
        · dsimp only
          rw [if_pos he]
          rw [he] at hEnc
          repeat' (
            (conv => whnf)
            first
            | refine Or.inl ?_
            | refine And.intro (Obl.out (?_ : Obl _)) ?_
            | refine ifB_intro (fun h => ?_) (fun h => ?_)
            | refine call_intro (hEnc) (And.intro rfl trivial) ?_
            | refine Exists.intro _ (And.intro rfl ?_)
            | ((with_reducible show _ = _); rfl))
          all_goals try (
            (with_reducible refine Obl.mk ?_)
            first
            | ((with_reducible show regOk _ _ = true); kernel_rfl)
            | ((with_reducible show eqTyOk _ _ = true); kernel_rfl)
            | rfl
            | exact trivial
            | ((repeat' (first | exact trivial | refine And.intro ?_ ?_)); done)
            | decide
            | (intro r hr; simp only [List.mem_cons, List.not_mem_nil, or_false] at hr; first | (subst hr; rfl) | (rcases hr with rfl | rfl <;> rfl) | (rcases hr with rfl | rfl | rfl <;> rfl) | (rcases hr with rfl | rfl | rfl | rfl <;> rfl))
            | (refine And.intro ?_ ?_ <;> simp only [List.length_map, List.length_append, List.length_cons, List.length_nil] <;> omega))
          all_goals try (exfalso; simp only [decide_eq_false_iff_not, decide_eq_true_eq] at *; omega)
          all_goals (exfalso; simp at h; done)
        · dsimp only
          rw [if_neg he]
          repeat' (
            (conv => whnf)
            first
            | refine Or.inl ?_
            | refine And.intro (Obl.out (?_ : Obl _)) ?_
            | refine ifB_intro (fun h => ?_) (fun h => ?_)
            | refine call_intro (hEnc) (And.intro rfl trivial) ?_
            | refine Exists.intro _ (And.intro rfl ?_)
            | ((with_reducible show _ = _); rfl))
          all_goals try (
            (with_reducible refine Obl.mk ?_)
            first
            | ((with_reducible show regOk _ _ = true); kernel_rfl)
            | ((with_reducible show eqTyOk _ _ = true); kernel_rfl)
            | rfl
            | exact trivial
            | ((repeat' (first | exact trivial | refine And.intro ?_ ?_)); done)
            | decide
            | (intro r hr; simp only [List.mem_cons, List.not_mem_nil, or_false] at hr; first | (subst hr; rfl) | (rcases hr with rfl | rfl <;> rfl) | (rcases hr with rfl | rfl | rfl <;> rfl) | (rcases hr with rfl | rfl | rfl | rfl <;> rfl))
            | (refine And.intro ?_ ?_ <;> simp only [List.length_map, List.length_append, List.length_cons, List.length_nil] <;> omega))
          all_goals try (exfalso; simp only [decide_eq_false_iff_not, decide_eq_true_eq] at *; omega)
          all_goals (exfalso; simp at h; exact he h)
    · have hRn : R = none := by
        cases hq : R with
        | none => rfl
        | some l => rw [hq] at hR; have := decInlL_len hR h3; omega
      rw [hRn]
      repeat' (
        (conv => whnf)
        first
        | refine Or.inl ?_
        | refine And.intro (Obl.out (?_ : Obl _)) ?_
        | refine ifB_intro (fun h => ?_) (fun h => ?_)
        | refine call_intro (hD) (And.intro rfl (And.intro rfl trivial)) ?_
        | refine Exists.intro _ (And.intro rfl ?_)
        | ((with_reducible show _ = _); rfl))
      all_goals try (
        (with_reducible refine Obl.mk ?_)
        first
        | ((with_reducible show regOk _ _ = true); kernel_rfl)
        | ((with_reducible show eqTyOk _ _ = true); kernel_rfl)
        | rfl
        | exact trivial
        | ((repeat' (first | exact trivial | refine And.intro ?_ ?_)); done)
        | decide
        | (intro r hr; simp only [List.mem_cons, List.not_mem_nil, or_false] at hr; first | (subst hr; rfl) | (rcases hr with rfl | rfl <;> rfl) | (rcases hr with rfl | rfl | rfl <;> rfl) | (rcases hr with rfl | rfl | rfl | rfl <;> rfl))
        | (refine And.intro ?_ ?_ <;> simp only [List.length_map, List.length_append, List.length_cons, List.length_nil] <;> omega))
      all_goals (exfalso; have h' := of_decide_eq_false h; omega)
theorem s_spec_DecodeInlines (s : List UInt8) (hs : s.length ≤ 1048576) : Sim.Spec Try.prog 85 [tvS s] (.tup [.c (.arr 5 ((oL (decodeInlines s)).map TInline.tr)), .c (.t (.bool (decodeInlines s).isSome))]) := by
  refine spec_of_W hΓ hmix Try.func85 rfl (by decide) rfl ?_
  have hD := s_spec_DecodeVarint s 0 hs (by omega)
  unfold decodeInlines decInlR
  match hd : dec s 0 with
  | none =>
    have hD := dec_none_spec hD hd
    repeat' (
      (conv => whnf)
      first
      | refine Or.inl ?_
      | refine And.intro (Obl.out (?_ : Obl _)) ?_
      | refine ifB_intro (fun h => ?_) (fun h => ?_)
      | refine call_intro (hD) (And.intro rfl (And.intro rfl trivial)) ?_
      | refine Exists.intro _ (And.intro rfl ?_)
      | ((with_reducible show _ = _); rfl))
    all_goals try (
      (with_reducible refine Obl.mk ?_)
      first
      | ((with_reducible show regOk _ _ = true); kernel_rfl)
      | ((with_reducible show eqTyOk _ _ = true); kernel_rfl)
      | rfl
      | exact trivial
      | ((repeat' (first | exact trivial | refine And.intro ?_ ?_)); done)
      | decide
      | (intro r hr; simp only [List.mem_cons, List.not_mem_nil, or_false] at hr; first | (subst hr; rfl) | (rcases hr with rfl | rfl <;> rfl) | (rcases hr with rfl | rfl | rfl <;> rfl) | (rcases hr with rfl | rfl | rfl | rfl <;> rfl))
      | (refine And.intro ?_ ?_ <;> simp only [List.length_map, List.length_append, List.length_cons, List.length_nil] <;> omega))
    conv => whnf
    refine ⟨Unit, fun _ => ⟨[(0, tS s), (4, .r (.c (.own (15, 0, 0)))), (5, tI .i64 0), (6, tI .i64 0), (7, tB false), (8, tI .i64 0)], [((15, 0, 0), some (.arr true 5 []))], [15]⟩, fun _ => 0, (), ?_, ?_⟩
    · skip
      repeat' (
        (conv => whnf)
        first
        | refine Or.inl ?_
        | refine And.intro (Obl.out (?_ : Obl _)) ?_
        | refine ifB_intro (fun h => ?_) (fun h => ?_)
        | refine Exists.intro _ (And.intro rfl ?_)
        | ((with_reducible show _ = _); rfl))
      all_goals try (
        (with_reducible refine Obl.mk ?_)
        first
        | ((with_reducible show regOk _ _ = true); kernel_rfl)
        | ((with_reducible show eqTyOk _ _ = true); kernel_rfl)
        | rfl
        | exact trivial
        | ((repeat' (first | exact trivial | refine And.intro ?_ ?_)); done)
        | decide
        | (intro r hr; simp only [List.mem_cons, List.not_mem_nil, or_false] at hr; first | (subst hr; rfl) | (rcases hr with rfl | rfl <;> rfl) | (rcases hr with rfl | rfl | rfl <;> rfl) | (rcases hr with rfl | rfl | rfl | rfl <;> rfl))
        | (refine And.intro ?_ ?_ <;> simp only [List.length_map, List.length_append, List.length_cons, List.length_nil] <;> omega))
    intro _
    repeat' (
      (conv => whnf)
      first
      | refine Or.inl ?_
      | refine And.intro (Obl.out (?_ : Obl _)) ?_
      | refine ifB_intro (fun h => ?_) (fun h => ?_)
      | refine Exists.intro _ (And.intro rfl ?_)
      | ((with_reducible show _ = _); rfl))
    all_goals try (
      (with_reducible refine Obl.mk ?_)
      first
      | ((with_reducible show regOk _ _ = true); kernel_rfl)
      | ((with_reducible show eqTyOk _ _ = true); kernel_rfl)
      | rfl
      | exact trivial
      | ((repeat' (first | exact trivial | refine And.intro ?_ ?_)); done)
      | decide
      | (intro r hr; simp only [List.mem_cons, List.not_mem_nil, or_false] at hr; first | (subst hr; rfl) | (rcases hr with rfl | rfl <;> rfl) | (rcases hr with rfl | rfl | rfl <;> rfl) | (rcases hr with rfl | rfl | rfl | rfl <;> rfl))
      | (refine And.intro ?_ ?_ <;> simp only [List.length_map, List.length_append, List.length_cons, List.length_nil] <;> omega))
    all_goals (exfalso; simp at *; done)
  | some (c, k0) =>
    have hD := dec_some_spec hD hd
    obtain ⟨h0, h1, h2, h3, h4⟩ := dec_some hd
    rw [show (0 : Int).toNat = 0 from rfl, Nat.zero_add] at h3
    dsimp only
    generalize hR : decInlL s c k0 = R
    repeat' (
      (conv => whnf)
      first
      | refine Or.inl ?_
      | refine And.intro (Obl.out (?_ : Obl _)) ?_
      | refine ifB_intro (fun h => ?_) (fun h => ?_)
      | refine call_intro (hD) (And.intro rfl (And.intro rfl trivial)) ?_
      | refine Exists.intro _ (And.intro rfl ?_)
      | ((with_reducible show _ = _); rfl))
    all_goals try (
      (with_reducible refine Obl.mk ?_)
      first
      | ((with_reducible show regOk _ _ = true); kernel_rfl)
      | ((with_reducible show eqTyOk _ _ = true); kernel_rfl)
      | rfl
      | exact trivial
      | ((repeat' (first | exact trivial | refine And.intro ?_ ?_)); done)
      | decide
      | (intro r hr; simp only [List.mem_cons, List.not_mem_nil, or_false] at hr; first | (subst hr; rfl) | (rcases hr with rfl | rfl <;> rfl) | (rcases hr with rfl | rfl | rfl <;> rfl) | (rcases hr with rfl | rfl | rfl | rfl <;> rfl))
      | (refine And.intro ?_ ?_ <;> simp only [List.length_map, List.length_append, List.length_cons, List.length_nil] <;> omega))
    conv => whnf
    refine ⟨DecIIx s c R, fun q => ⟨[(0, tS s), (4, .r (.c (.own (15, 0, 0)))), (5, tI .i64 (c : Int)), (6, tI .i64 (q.1.2.1 : Int)), (7, tB true), (8, tI .i64 (q.1.1 : Int))], [((15, 0, 0), some (.arr true 5 (q.1.2.2.map TInline.tr)))], [15]⟩, fun q => c - q.1.1, ⟨(0, k0, []), by simp, by simp, by simp, by simpa using h3, by simp, by simpa using hR⟩, ?_, ?_⟩
    · skip
      repeat' (
        (conv => whnf)
        first
        | refine Or.inl ?_
        | refine And.intro (Obl.out (?_ : Obl _)) ?_
        | refine ifB_intro (fun h => ?_) (fun h => ?_)
        | refine Exists.intro _ (And.intro rfl ?_)
        | ((with_reducible show _ = _); rfl))
      all_goals try (
        (with_reducible refine Obl.mk ?_)
        first
        | ((with_reducible show regOk _ _ = true); kernel_rfl)
        | ((with_reducible show eqTyOk _ _ = true); kernel_rfl)
        | rfl
        | exact trivial
        | ((repeat' (first | exact trivial | refine And.intro ?_ ?_)); done)
        | decide
        | (intro r hr; simp only [List.mem_cons, List.not_mem_nil, or_false] at hr; first | (subst hr; rfl) | (rcases hr with rfl | rfl <;> rfl) | (rcases hr with rfl | rfl | rfl <;> rfl) | (rcases hr with rfl | rfl | rfl | rfl <;> rfl))
        | (refine And.intro ?_ ?_ <;> simp only [List.length_map, List.length_append, List.length_cons, List.length_nil] <;> omega))
    intro ⟨⟨k, p, acc⟩, hk, hal, hkp, hp, hn, hr⟩
    dsimp only at hk hal hkp hp hn hr ⊢
    by_cases hlt : k < c
    · obtain ⟨m, hm⟩ : ∃ m, c - k = m + 1 := ⟨c - k - 1, by omega⟩
      rw [hm] at hr
      have hU := s_spec_UnpackInts s (p : Int) hs (by omega)
      match hu : unpackInts s (p : Int) with
      | none =>
        rw [inl_none1 hu] at hr
        rw [hu] at hU
        dsimp only [rUnp, upL, upZ, Option.isSome] at hU
        have hT := s_spec_UnpackText s (p : Int) hs (by omega)
        rw [← hr]
        repeat' (
          (conv => whnf)
          first
          | refine Or.inl ?_
          | refine And.intro (Obl.out (?_ : Obl _)) ?_
          | refine ifB_intro (fun h => ?_) (fun h => ?_)
          | refine call_intro (hU) (And.intro rfl (And.intro rfl trivial)) ?_
          | refine call_intro (hT) (And.intro rfl (And.intro (congrArg (Tr.int _) (by first | rfl | (simp (disch := omega) only [IntWalk.i64_in]; done) | ((try simp (disch := omega) only [IntWalk.i64_in]); omega))) trivial)) ?_
          | refine Exists.intro _ (And.intro rfl ?_)
          | ((with_reducible show _ = _); rfl))
        all_goals try (
          (with_reducible refine Obl.mk ?_)
          first
          | ((with_reducible show regOk _ _ = true); kernel_rfl)
          | ((with_reducible show eqTyOk _ _ = true); kernel_rfl)
          | rfl
          | exact trivial
          | ((repeat' (first | exact trivial | refine And.intro ?_ ?_)); done)
          | decide
          | (intro r hr; simp only [List.mem_cons, List.not_mem_nil, or_false] at hr; first | (subst hr; rfl) | (rcases hr with rfl | rfl <;> rfl) | (rcases hr with rfl | rfl | rfl <;> rfl) | (rcases hr with rfl | rfl | rfl | rfl <;> rfl))
          | (refine And.intro ?_ ?_ <;> simp only [List.length_map, List.length_append, List.length_cons, List.length_nil] <;> omega))
        all_goals try (exfalso; simp only [decide_eq_false_iff_not, decide_eq_true_eq] at *; omega)
      | some (ns, z) =>
        rw [hu] at hU
        dsimp only [rUnp, upL, upZ, Option.isSome] at hU
        have hz := un_z hu
        have hT := s_spec_UnpackText s ((p + z : Nat) : Int) hs (by omega)
        have hlen : (ns.map intRow).length = ns.length := by simp
        match ht : unpackT s ((p + z : Nat) : Int) with
        | none =>
          rw [inl_none3 hu ht] at hr
          rw [ht] at hT
          dsimp only [rUn, unS, unK, Option.isSome] at hT
          rw [← hr]
          repeat' (
            (conv => whnf)
            first
            | refine Or.inl ?_
            | refine And.intro (Obl.out (?_ : Obl _)) ?_
            | refine ifB_intro (fun h => ?_) (fun h => ?_)
            | refine call_intro (hU) (And.intro rfl (And.intro rfl trivial)) ?_
            | refine call_intro (hT) (And.intro rfl (And.intro (congrArg (Tr.int _) (by first | rfl | (simp (disch := omega) only [IntWalk.i64_in]; done) | ((try simp (disch := omega) only [IntWalk.i64_in]); omega))) trivial)) ?_
            | refine Exists.intro _ (And.intro rfl ?_)
            | ((with_reducible show _ = _); rfl))
          all_goals try (
            (with_reducible refine Obl.mk ?_)
            first
            | ((with_reducible show regOk _ _ = true); kernel_rfl)
            | ((with_reducible show eqTyOk _ _ = true); kernel_rfl)
            | rfl
            | exact trivial
            | ((repeat' (first | exact trivial | refine And.intro ?_ ?_)); done)
            | decide
            | (intro r hr; simp only [List.mem_cons, List.not_mem_nil, or_false] at hr; first | (subst hr; rfl) | (rcases hr with rfl | rfl <;> rfl) | (rcases hr with rfl | rfl | rfl <;> rfl) | (rcases hr with rfl | rfl | rfl | rfl <;> rfl))
            | (refine And.intro ?_ ?_ <;> simp only [List.length_map, List.length_append, List.length_cons, List.length_nil] <;> omega))
          all_goals try (exfalso; simp only [decide_eq_false_iff_not, decide_eq_true_eq] at *; omega)
        | some (t, y) =>
          rw [ht] at hT
          dsimp only [rUn, unS, unK, Option.isSome] at hT
          have hy := unT_z ht
          by_cases h44 : ns.length = 4
          · match ns, h44 with
            | [x0, x1, x2, x3], _ =>
              rw [inl_some hu ht] at hr
              repeat' (
                (conv => whnf)
                first
                | refine Or.inl ?_
                | refine And.intro (Obl.out (?_ : Obl _)) ?_
                | refine ifB_intro (fun h => ?_) (fun h => ?_)
                | refine call_intro (hU) (And.intro rfl (And.intro rfl trivial)) ?_
                | refine call_intro (hT) (And.intro rfl (And.intro (congrArg (Tr.int _) (by first | rfl | (simp (disch := omega) only [IntWalk.i64_in]; done) | ((try simp (disch := omega) only [IntWalk.i64_in]); omega))) trivial)) ?_
                | refine ⟨0, rfl, ?_⟩
                | refine ⟨1, rfl, ?_⟩
                | refine ⟨2, rfl, ?_⟩
                | refine ⟨3, rfl, ?_⟩
                | refine Exists.intro _ (And.intro rfl ?_)
                | ((with_reducible show _ = _); rfl))
              all_goals try (
                (with_reducible refine Obl.mk ?_)
                first
                | ((with_reducible show regOk _ _ = true); kernel_rfl)
                | ((with_reducible show eqTyOk _ _ = true); kernel_rfl)
                | rfl
                | exact trivial
                | ((repeat' (first | exact trivial | refine And.intro ?_ ?_)); done)
                | decide
                | (intro r hr; simp only [List.mem_cons, List.not_mem_nil, or_false] at hr; first | (subst hr; rfl) | (rcases hr with rfl | rfl <;> rfl) | (rcases hr with rfl | rfl | rfl <;> rfl) | (rcases hr with rfl | rfl | rfl | rfl <;> rfl))
                | (refine And.intro ?_ ?_ <;> simp only [List.length_map, List.length_append, List.length_cons, List.length_nil] <;> omega))
              all_goals try (exfalso; simp only [decide_eq_false_iff_not, decide_eq_true_eq] at *; omega)
              all_goals try exact ⟨by simp⟩
              all_goals try exact ⟨⟨by simp only [List.length_map, List.length_cons, List.length_nil]; omega, by simp only [List.length_map, List.length_cons, List.length_nil]; omega⟩⟩
              conv => whnf
              refine ⟨⟨(k + 1, p + z + y, acc ++ [⟨x0, x1, x2, x3, t⟩]), by dsimp only; omega, by simp; omega, by dsimp only; omega, by dsimp only; omega, fun x hx => ?_, ?_⟩, ?_, by dsimp only; omega⟩
              · rcases List.mem_append.1 hx with hx | hx
                · exact hn x hx
                · rw [List.mem_singleton.1 hx]; exact hy.2
              · dsimp only
                rw [show c - (k + 1) = m by omega, ← hr, Option.map_map]
                congr 1
                funext l
                simp
              repeat' (
                (conv => whnf)
                first
                | refine Or.inl ?_
                | refine And.intro (Obl.out (?_ : Obl _)) ?_
                | refine ifB_intro (fun h => ?_) (fun h => ?_)
                | refine Exists.intro _ (And.intro rfl ?_)
                | ((with_reducible show _ = _); rfl))
              all_goals try (
                (with_reducible refine Obl.mk ?_)
                first
                | ((with_reducible show regOk _ _ = true); kernel_rfl)
                | ((with_reducible show eqTyOk _ _ = true); kernel_rfl)
                | rfl
                | exact trivial
                | ((repeat' (first | exact trivial | refine And.intro ?_ ?_)); done)
                | decide
                | (intro r hr; simp only [List.mem_cons, List.not_mem_nil, or_false] at hr; first | (subst hr; rfl) | (rcases hr with rfl | rfl <;> rfl) | (rcases hr with rfl | rfl | rfl <;> rfl) | (rcases hr with rfl | rfl | rfl | rfl <;> rfl))
                | (refine And.intro ?_ ?_ <;> simp only [List.length_map, List.length_append, List.length_cons, List.length_nil] <;> omega))
              all_goals first
                | (refine ⟨?_⟩; dsimp only; rw [IntWalk.i64_in _ (by omega)]; rfl)
                | (refine ⟨congrArg (Tr.int _) ?_⟩; dsimp only; simp (disch := omega) only [IntWalk.i64_in]; omega)
                | (refine ⟨?_⟩; dsimp only; rw [List.map_append]; rfl)
          · rw [inl_none2 hu h44] at hr
            rw [← hr]
            have hne : (((ns.map intRow).length : Int) != 4) = true := by rw [hlen, bne_iff_ne]; omega
            repeat' (
              (conv => whnf)
              first
              | refine Or.inl ?_
              | refine And.intro (Obl.out (?_ : Obl _)) ?_
              | refine ifB_intro (fun h => ?_) (fun h => ?_)
              | refine call_intro (hU) (And.intro rfl (And.intro rfl trivial)) ?_
              | refine call_intro (hT) (And.intro rfl (And.intro (congrArg (Tr.int _) (by first | rfl | (simp (disch := omega) only [IntWalk.i64_in]; done) | ((try simp (disch := omega) only [IntWalk.i64_in]); omega))) trivial)) ?_
              | refine Exists.intro _ (And.intro rfl ?_)
              | ((with_reducible show _ = _); rfl))
            all_goals try (
              (with_reducible refine Obl.mk ?_)
              first
              | ((with_reducible show regOk _ _ = true); kernel_rfl)
              | ((with_reducible show eqTyOk _ _ = true); kernel_rfl)
              | rfl
              | exact trivial
              | ((repeat' (first | exact trivial | refine And.intro ?_ ?_)); done)
              | decide
              | (intro r hr; simp only [List.mem_cons, List.not_mem_nil, or_false] at hr; first | (subst hr; rfl) | (rcases hr with rfl | rfl <;> rfl) | (rcases hr with rfl | rfl | rfl <;> rfl) | (rcases hr with rfl | rfl | rfl | rfl <;> rfl))
              | (refine And.intro ?_ ?_ <;> simp only [List.length_map, List.length_append, List.length_cons, List.length_nil] <;> omega))
            all_goals try (exfalso; simp only [decide_eq_false_iff_not, decide_eq_true_eq] at *; omega)
            all_goals try (exfalso; rw [hne] at h; simp at h; done)
    · have hge : c ≤ k := by omega
      rw [show c - k = 0 by omega, decInlL] at hr
      simp only [Option.map_some, List.append_nil] at hr
      have hEnc := s_spec_EncodeInlines acc (by omega) fun x hx => by have := hn x hx; omega
      rw [← hr]
      by_cases he : encodeInlines acc = s
      · dsimp only
        rw [if_pos he]
        rw [he] at hEnc
        repeat' (
          (conv => whnf)
          first
          | refine Or.inl ?_
          | refine And.intro (Obl.out (?_ : Obl _)) ?_
          | refine ifB_intro (fun h => ?_) (fun h => ?_)
          | refine call_intro (hEnc) (And.intro rfl trivial) ?_
          | refine Exists.intro _ (And.intro rfl ?_)
          | ((with_reducible show _ = _); rfl))
        all_goals try (
          (with_reducible refine Obl.mk ?_)
          first
          | ((with_reducible show regOk _ _ = true); kernel_rfl)
          | ((with_reducible show eqTyOk _ _ = true); kernel_rfl)
          | rfl
          | exact trivial
          | ((repeat' (first | exact trivial | refine And.intro ?_ ?_)); done)
          | decide
          | (intro r hr; simp only [List.mem_cons, List.not_mem_nil, or_false] at hr; first | (subst hr; rfl) | (rcases hr with rfl | rfl <;> rfl) | (rcases hr with rfl | rfl | rfl <;> rfl) | (rcases hr with rfl | rfl | rfl | rfl <;> rfl))
          | (refine And.intro ?_ ?_ <;> simp only [List.length_map, List.length_append, List.length_cons, List.length_nil] <;> omega))
        all_goals try (exfalso; simp only [decide_eq_false_iff_not, decide_eq_true_eq] at *; omega)
        all_goals (exfalso; simp at h; done)
      · dsimp only
        rw [if_neg he]
        repeat' (
          (conv => whnf)
          first
          | refine Or.inl ?_
          | refine And.intro (Obl.out (?_ : Obl _)) ?_
          | refine ifB_intro (fun h => ?_) (fun h => ?_)
          | refine call_intro (hEnc) (And.intro rfl trivial) ?_
          | refine Exists.intro _ (And.intro rfl ?_)
          | ((with_reducible show _ = _); rfl))
        all_goals try (
          (with_reducible refine Obl.mk ?_)
          first
          | ((with_reducible show regOk _ _ = true); kernel_rfl)
          | ((with_reducible show eqTyOk _ _ = true); kernel_rfl)
          | rfl
          | exact trivial
          | ((repeat' (first | exact trivial | refine And.intro ?_ ?_)); done)
          | decide
          | (intro r hr; simp only [List.mem_cons, List.not_mem_nil, or_false] at hr; first | (subst hr; rfl) | (rcases hr with rfl | rfl <;> rfl) | (rcases hr with rfl | rfl | rfl <;> rfl) | (rcases hr with rfl | rfl | rfl | rfl <;> rfl))
          | (refine And.intro ?_ ?_ <;> simp only [List.length_map, List.length_append, List.length_cons, List.length_nil] <;> omega))
        all_goals try (exfalso; simp only [decide_eq_false_iff_not, decide_eq_true_eq] at *; omega)
        all_goals (exfalso; simp at h; exact he h)
theorem small_Inline {l : List TInline} (hl : l.length ≤ 1048576) (hn : ∀ x ∈ l, x.fName.length ≤ 1048576) : smallT 1048576 (.lst 5 (l.map TInline.tr)) := small_map hl fun x hx => by
  have := hn x hx
  simp [TInline.tr, smallR, smallT]
  omega
theorem decodeInlines_small {s : List UInt8} (hs : s.length ≤ 1048576) : smallT 1048576 (.lst 5 ((oL (decodeInlines s)).map TInline.tr)) := by
  unfold decodeInlines decInlR
  match hd : dec s 0 with
  | none => exact small_Inline (by simp [oL]) (by simp [oL])
  | some (c, k0) =>
    obtain ⟨h0, h1, h2, h3, h4⟩ := dec_some hd
    rw [show (0 : Int).toNat = 0 from rfl, Nat.zero_add] at h3
    dsimp only
    match hl : decInlL s c k0 with
    | none => exact small_Inline (by simp [oL]) (by simp [oL])
    | some l =>
      have := decInlL_len hl h3
      dsimp only
      split
      · exact small_Inline (by dsimp only [oL]; omega) (fun x hx => Nat.le_trans (this.2.2 x hx) hs)
      · exact small_Inline (by simp [oL]) (by simp [oL])
end Go.Proofs.Ytflolafbblohnaa
