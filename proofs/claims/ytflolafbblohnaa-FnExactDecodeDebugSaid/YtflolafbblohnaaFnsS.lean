/- DecodeRows, DecodeRules in both texts. -/
import Derived.Test.YtflolafbblohnaaFnsQ
import Derived.Test.YtflolafbblohnaaFnsJ
import Derived.Test.YtflolafbblohnaaLwA
namespace Go.Proofs.Ytflolafbblohnaa
open Go.Sim
set_option maxRecDepth 100000
set_option maxHeartbeats 4000000
def decRowsL : TRow → List Int → List TRow
  | p, a :: b :: c :: l => ⟨p.fOffset + a, p.fLine + b, c == 1⟩ :: decRowsL ⟨p.fOffset + a, p.fLine + b, c == 1⟩ l
  | _, _ => []
def decodeRows (s : List UInt8) : Option (List TRow) := match unpackInts s 0 with
  | none => none
  | some x => if x.1.length % 3 = 0 ∧ encodeRows (decRowsL row0 x.1) = s then some (decRowsL row0 x.1) else none
def oL {α : Type} (o : Option (List α)) : List α := match o with | some l => l | none => []
theorem signed_in (n : Int) : -549755813888 ≤ signed n ∧ signed n ≤ 549755813888 := by
  unfold signed
  split
  · rename_i h
    have := within_iff.1 h
    split <;> omega
  · omega
theorem unpackL_in {s : List UInt8} {p : Nat} : ∀ {n z : Nat} {y : List Int × Nat}, unpackL s p n z = some y → ∀ x ∈ y.1, -549755813888 ≤ x ∧ x ≤ 549755813888
  | 0, z, y, h => by
    rw [unpackL] at h
    injection h with h
    subst h
    intro x hx
    cases hx
  | n + 1, z, y, h => by
    rw [unpackL] at h
    split at h
    · cases h
    · rw [Option.map_eq_some_iff] at h
      obtain ⟨y', h', rfl⟩ := h
      have := unpackL_in h'
      intro x hx
      rcases List.mem_cons.1 hx with rfl | hx
      · exact signed_in _
      · exact this x hx
theorem unpack_in {s : List UInt8} {p : Int} {ns : List Int} {z : Nat} (h : unpackInts s p = some (ns, z)) : ∀ x ∈ ns, -549755813888 ≤ x ∧ x ≤ 549755813888 := by
  unfold unpackInts at h
  split at h
  · cases h
  · exact unpackL_in h
theorem packL_in : ∀ {l : List Int} {bs : List UInt8}, packL l = some bs → ∀ n ∈ l, inSign n
  | [], _, _, n, hn => by cases hn
  | m :: l, bs, h, n, hn => by
    rw [packL] at h
    split at h
    · cases h
    · rename_i hneg
      rw [Option.map_eq_some_iff] at h
      obtain ⟨b', h', _⟩ := h
      rcases List.mem_cons.1 hn with rfl | hn
      · unfold signless at hneg
        split at hneg
        · rename_i hw
          exact within_iff.1 hw
        · omega
      · exact packL_in h' n hn
theorem unpack_nil : unpackInts [] 0 = none := by decide
theorem pack_full {s : List UInt8} {l ns : List Int} {z : Nat} (hl : l.length ≤ 1099511627775) (he : packInts l = s) (hu : unpackInts s 0 = some (ns, z)) : z = s.length ∧ ns = l := by
  match hp : packL l with
  | none =>
    have : packInts l = [] := by rw [packInts, hp]
    rw [← he, this, unpack_nil] at hu
    cases hu
  | some bs =>
    have hin := packL_in hp
    have h := unpack_at (s := s) (rest := []) (p := 0) hin hl (by rw [List.drop_zero, List.append_nil, he])
    rw [show ((0 : Nat) : Int) = 0 from rfl, hu] at h
    injection h with h
    injection h with h1 h2
    exact ⟨by rw [h2, he], h1⟩
theorem decRowsL_nil (p : TRow) : decRowsL p [] = [] := by simp [decRowsL]
theorem decRowsL_len : ∀ (p : TRow) (l : List Int), 3 * (decRowsL p l).length ≤ l.length
  | p, a :: b :: c :: l => by rw [decRowsL]; have := decRowsL_len ⟨p.fOffset + a, p.fLine + b, c == 1⟩ l; simp only [List.length_cons]; omega
  | _, [] => by simp [decRowsL]
  | _, [_] => by simp [decRowsL]
  | _, [_, _] => by simp [decRowsL]
theorem rows_full {s : List UInt8} {R : List TRow} {ns : List Int} {z : Nat} (hR : R.length ≤ 1048576) (he : encodeRows R = s) (hu : unpackInts s 0 = some (ns, z)) : z = s.length := by
  unfold encodeRows at he
  split at he
  · exact (pack_full (by rw [encRowsL_len]; omega) he hu).1
  · rw [← he, unpack_nil] at hu
    cases hu
abbrev DecRIx (ns : List Int) := { q : Nat × TRow × List TRow // 3 * q.2.2.length = q.1 ∧ q.1 ≤ ns.length ∧ (-(549755813888 * (q.1 : Int)) ≤ q.2.1.fOffset ∧ q.2.1.fOffset ≤ 549755813888 * (q.1 : Int) ∧ -(549755813888 * (q.1 : Int)) ≤ q.2.1.fLine ∧ q.2.1.fLine ≤ 549755813888 * (q.1 : Int)) ∧ q.2.2 ++ decRowsL q.2.1 (ns.drop q.1) = decRowsL row0 ns }
theorem s_impl_DecodeRows (s : List UInt8) (hs : s.length ≤ 1048576) : Sim.Spec Try.prog 91 [tvS s] (.tup [.c (.arr 3 ((oL (decodeRows s)).map TRow.tr)), .c (.t (.bool (decodeRows s).isSome))]) := by
  refine spec_of_W hΓ hmix Try.func91 rfl (by decide) rfl ?_
  have hun := s_impl_UnpackInts s 0 hs (by omega)
  have hul := unpack_len (p := 0) hs
  match hu : unpackInts s 0 with
  | none =>
    rw [hu] at hun
    dsimp only [rUnp, upL, upZ, Option.isSome] at hun
    have hd : decodeRows s = none := by rw [decodeRows, hu]
    rw [hd]
    repeat' (
      (conv => whnf)
      first
      | refine Or.inl ?_
      | refine And.intro (Obl.out (?_ : Obl _)) ?_
      | refine ifB_intro (fun h => ?_) (fun h => ?_)
      | refine call_intro (hun) (And.intro rfl (And.intro rfl trivial)) ?_
      | refine Exists.intro _ (And.intro rfl ?_)
      | ((with_reducible show _ = _); rfl))
    all_goals try (
      (with_reducible refine Obl.mk ?_)
      first
      | ((with_reducible show regOk _ _ = true); kernel_rfl)
      | ((with_reducible show eqTyOk _ _ = true); kernel_rfl)
      | rfl
      | exact trivial
      | ((repeat' (first | exact trivial | refine And.intro ?_ ?_)); done)
      | decide
      | (intro r hr; simp only [List.mem_cons, List.not_mem_nil, or_false] at hr; first | (subst hr; rfl) | (rcases hr with rfl | rfl <;> rfl) | (rcases hr with rfl | rfl | rfl <;> rfl) | (rcases hr with rfl | rfl | rfl | rfl <;> rfl))
      | (refine And.intro ?_ ?_ <;> simp only [List.length_map, List.length_append, List.length_cons, List.length_nil] <;> omega))
  | some (ns, z) =>
    rw [hu] at hun hul
    dsimp only [rUnp, upL, upZ, Option.isSome] at hun hul
    have hlen : (ns.map intRow).length = ns.length := by simp
    by_cases h3 : ns.length % 3 = 0
    · have hrg := unpack_in hu
      have hm3 : ((ns.map intRow).length : Int).tmod 3 = 0 := by rw [hlen, Int.tmod_eq_emod_of_nonneg (by omega)]; omega
      have hRl := decRowsL_len row0 ns
      have hEnc := s_impl_EncodeRows (decRowsL row0 ns) (by omega)
      have hd : decodeRows s = if encodeRows (decRowsL row0 ns) = s then some (decRowsL row0 ns) else none := by
        rw [decodeRows, hu]
        by_cases he : encodeRows (decRowsL row0 ns) = s
        · rw [if_pos he]; exact if_pos ⟨h3, he⟩
        · rw [if_neg he]; exact if_neg fun h => he h.2
      have hz := fun he => rows_full (R := decRowsL row0 ns) (by omega) he hu
      rw [hd]
      repeat' (
        (conv => whnf)
        first
        | refine Or.inl ?_
        | refine And.intro (Obl.out (?_ : Obl _)) ?_
        | refine ifB_intro (fun h => ?_) (fun h => ?_)
        | refine call_intro (hun) (And.intro rfl (And.intro rfl trivial)) ?_
        | refine Exists.intro _ (And.intro rfl ?_)
        | ((with_reducible show _ = _); rfl))
      all_goals try (
        (with_reducible refine Obl.mk ?_)
        first
        | ((with_reducible show regOk _ _ = true); kernel_rfl)
        | ((with_reducible show eqTyOk _ _ = true); kernel_rfl)
        | rfl
        | exact trivial
        | ((repeat' (first | exact trivial | refine And.intro ?_ ?_)); done)
        | decide
        | (intro r hr; simp only [List.mem_cons, List.not_mem_nil, or_false] at hr; first | (subst hr; rfl) | (rcases hr with rfl | rfl <;> rfl) | (rcases hr with rfl | rfl | rfl <;> rfl) | (rcases hr with rfl | rfl | rfl | rfl <;> rfl))
        | (refine And.intro ?_ ?_ <;> simp only [List.length_map, List.length_append, List.length_cons, List.length_nil] <;> omega))
      all_goals try (exfalso; rw [hm3] at h; simp at h; done)
      all_goals try (
        have hne : encodeRows (decRowsL row0 ns) ≠ s := fun he => by
          have := hz he
          rw [this] at h
          simp at h
        rw [if_neg hne]
        exact ⟨rfl⟩)
      conv => whnf
      refine ⟨DecRIx ns, fun q => ⟨[(0, tS s), (4, .r (.c (.own (13, 0, 0)))), (7, .r (.c (.own (25, 0, 0)))), (8, .r (.c (.ptr (8, 0, 0) 0))), (9, tI .i64 (q.1.1 : Int))], [((13, 0, 0), some (.arr true 1 (ns.map intRow))), ((25, 0, 0), some (.arr true 3 (q.1.2.2.map TRow.tr))), ((8, 0, 0), some (.box [.t (.int .i64 q.1.2.1.fOffset), .t (.int .i64 q.1.2.1.fLine), .t (.bool q.1.2.1.fStart)]))], [13, 25, 8]⟩, fun q => ns.length - q.1.1, ⟨(0, row0, []), by simp, by simp, by simp [row0], by simp⟩, ?_, ?_⟩
      · skip
        repeat' (
          (conv => whnf)
          first
          | refine Or.inl ?_
          | refine And.intro (Obl.out (?_ : Obl _)) ?_
          | refine ifB_intro (fun h => ?_) (fun h => ?_)
          | refine Exists.intro _ (And.intro rfl ?_)
          | ((with_reducible show _ = _); rfl))
        all_goals try (
          (with_reducible refine Obl.mk ?_)
          first
          | ((with_reducible show regOk _ _ = true); kernel_rfl)
          | ((with_reducible show eqTyOk _ _ = true); kernel_rfl)
          | rfl
          | exact trivial
          | ((repeat' (first | exact trivial | refine And.intro ?_ ?_)); done)
          | decide
          | (intro r hr; simp only [List.mem_cons, List.not_mem_nil, or_false] at hr; first | (subst hr; rfl) | (rcases hr with rfl | rfl <;> rfl) | (rcases hr with rfl | rfl | rfl <;> rfl) | (rcases hr with rfl | rfl | rfl | rfl <;> rfl))
          | (refine And.intro ?_ ?_ <;> simp only [List.length_map, List.length_append, List.length_cons, List.length_nil] <;> omega))
      intro ⟨⟨k, p, acc⟩, hal, hk, hb, hr⟩
      dsimp only at hal hk hb hr ⊢
      by_cases hlt : k < ns.length
      · obtain ⟨a, ha⟩ := get_of_lt hlt
        obtain ⟨b, hb2⟩ := get_of_lt (show k + 1 < ns.length by omega)
        obtain ⟨c, hc⟩ := get_of_lt (show k + 2 < ns.length by omega)
        have ia := hrg a (List.mem_of_getElem? ha)
        have ib := hrg b (List.mem_of_getElem? hb2)
        rw [drop_at ha, drop_at hb2, drop_at hc, decRowsL] at hr
        have w1 : IntKind.i64.wrap ((k : Int) + 1) = ((k + 1 : Nat) : Int) := by rw [IntWalk.i64_in _ (by omega)]; rfl
        have w2 : IntKind.i64.wrap ((k : Int) + 2) = ((k + 2 : Nat) : Int) := by rw [IntWalk.i64_in _ (by omega)]; rfl
        have w3 : IntKind.i64.wrap (p.fOffset + a) = p.fOffset + a := IntWalk.i64_in _ (by omega)
        have w4 : IntKind.i64.wrap (p.fLine + b) = p.fLine + b := IntWalk.i64_in _ (by omega)
        repeat' (
          (conv => whnf)
          first
          | refine Or.inl ?_
          | refine And.intro (Obl.out (?_ : Obl _)) ?_
          | refine ifB_intro (fun h => ?_) (fun h => ?_)
          | refine ⟨k + 1, w1, ?_⟩
          | refine ⟨k + 2, w2, ?_⟩
          | refine ⟨intRow a, map_get ha, ?_⟩
          | refine ⟨intRow b, map_get hb2, ?_⟩
          | refine ⟨intRow c, map_get hc, ?_⟩
          | refine Exists.intro _ (And.intro rfl ?_)
          | ((with_reducible show _ = _); rfl))
        all_goals try (
          (with_reducible refine Obl.mk ?_)
          first
          | ((with_reducible show regOk _ _ = true); kernel_rfl)
          | ((with_reducible show eqTyOk _ _ = true); kernel_rfl)
          | rfl
          | exact trivial
          | ((repeat' (first | exact trivial | refine And.intro ?_ ?_)); done)
          | decide
          | (intro r hr; simp only [List.mem_cons, List.not_mem_nil, or_false] at hr; first | (subst hr; rfl) | (rcases hr with rfl | rfl <;> rfl) | (rcases hr with rfl | rfl | rfl <;> rfl) | (rcases hr with rfl | rfl | rfl | rfl <;> rfl))
          | (refine And.intro ?_ ?_ <;> simp only [List.length_map, List.length_append, List.length_cons, List.length_nil] <;> omega))
        all_goals try (exfalso; simp only [decide_eq_false_iff_not, decide_eq_true_eq] at *; omega)
        all_goals try exact ⟨by rw [hlen]; omega⟩
        all_goals try exact ⟨⟨by simp; omega, by simp; omega⟩⟩
        all_goals (
          conv => whnf
          refine ⟨⟨(k + 3, ⟨p.fOffset + a, p.fLine + b, c == 1⟩, acc ++ [⟨p.fOffset + a, p.fLine + b, c == 1⟩]), by simp; omega, by dsimp only; omega, ⟨by dsimp only; omega, by dsimp only; omega, by dsimp only; omega, by dsimp only; omega⟩, by rw [← hr]; simp⟩, ?_, by dsimp only; omega⟩)
        repeat' (
          (conv => whnf)
          first
          | refine Or.inl ?_
          | refine And.intro (Obl.out (?_ : Obl _)) ?_
          | refine ifB_intro (fun h => ?_) (fun h => ?_)
          | refine Exists.intro _ (And.intro rfl ?_)
          | ((with_reducible show _ = _); rfl))
        all_goals try (
          (with_reducible refine Obl.mk ?_)
          first
          | ((with_reducible show regOk _ _ = true); kernel_rfl)
          | ((with_reducible show eqTyOk _ _ = true); kernel_rfl)
          | rfl
          | exact trivial
          | ((repeat' (first | exact trivial | refine And.intro ?_ ?_)); done)
          | decide
          | (intro r hr; simp only [List.mem_cons, List.not_mem_nil, or_false] at hr; first | (subst hr; rfl) | (rcases hr with rfl | rfl <;> rfl) | (rcases hr with rfl | rfl | rfl <;> rfl) | (rcases hr with rfl | rfl | rfl | rfl <;> rfl))
          | (refine And.intro ?_ ?_ <;> simp only [List.length_map, List.length_append, List.length_cons, List.length_nil] <;> omega))
        all_goals first
          | (refine ⟨?_⟩; dsimp only; rw [w3, w4, List.map_append]; rfl)
          | (refine ⟨?_⟩; dsimp only; rw [w3]; done)
          | (refine ⟨?_⟩; dsimp only; rw [w4]; done)
          | (refine ⟨?_⟩; dsimp only; rw [IntWalk.i64_in _ (by omega)]; rfl)
      · have hge : ns.length ≤ k := by omega
        rw [List.drop_eq_nil_of_le hge, decRowsL_nil, List.append_nil] at hr
        · subst hr
          by_cases he : encodeRows (decRowsL row0 ns) = s
          · rw [if_pos he]
            rw [he] at hEnc
            repeat' (
              (conv => whnf)
              first
              | refine Or.inl ?_
              | refine And.intro (Obl.out (?_ : Obl _)) ?_
              | refine ifB_intro (fun h => ?_) (fun h => ?_)
              | refine call_intro (hEnc) (And.intro rfl trivial) ?_
              | refine Exists.intro _ (And.intro rfl ?_)
              | ((with_reducible show _ = _); rfl))
            all_goals try (
              (with_reducible refine Obl.mk ?_)
              first
              | ((with_reducible show regOk _ _ = true); kernel_rfl)
              | ((with_reducible show eqTyOk _ _ = true); kernel_rfl)
              | rfl
              | exact trivial
              | ((repeat' (first | exact trivial | refine And.intro ?_ ?_)); done)
              | decide
              | (intro r hr; simp only [List.mem_cons, List.not_mem_nil, or_false] at hr; first | (subst hr; rfl) | (rcases hr with rfl | rfl <;> rfl) | (rcases hr with rfl | rfl | rfl <;> rfl) | (rcases hr with rfl | rfl | rfl | rfl <;> rfl))
              | (refine And.intro ?_ ?_ <;> simp only [List.length_map, List.length_append, List.length_cons, List.length_nil] <;> omega))
            all_goals try (exfalso; simp only [decide_eq_false_iff_not, decide_eq_true_eq] at *; omega)
            all_goals (exfalso; simp at h; done)
          · rw [if_neg he]
            repeat' (
              (conv => whnf)
              first
              | refine Or.inl ?_
              | refine And.intro (Obl.out (?_ : Obl _)) ?_
              | refine ifB_intro (fun h => ?_) (fun h => ?_)
              | refine call_intro (hEnc) (And.intro rfl trivial) ?_
              | refine Exists.intro _ (And.intro rfl ?_)
              | ((with_reducible show _ = _); rfl))
            all_goals try (
              (with_reducible refine Obl.mk ?_)
              first
              | ((with_reducible show regOk _ _ = true); kernel_rfl)
              | ((with_reducible show eqTyOk _ _ = true); kernel_rfl)
              | rfl
              | exact trivial
              | ((repeat' (first | exact trivial | refine And.intro ?_ ?_)); done)
              | decide
              | (intro r hr; simp only [List.mem_cons, List.not_mem_nil, or_false] at hr; first | (subst hr; rfl) | (rcases hr with rfl | rfl <;> rfl) | (rcases hr with rfl | rfl | rfl <;> rfl) | (rcases hr with rfl | rfl | rfl | rfl <;> rfl))
              | (refine And.intro ?_ ?_ <;> simp only [List.length_map, List.length_append, List.length_cons, List.length_nil] <;> omega))
            all_goals try (exfalso; simp only [decide_eq_false_iff_not, decide_eq_true_eq] at *; omega)
            all_goals (exfalso; simp at h; exact he h)
    · have hd : decodeRows s = none := by rw [decodeRows, hu]; exact if_neg fun h => h3 h.1
      rw [hd]
      have hm3 : ((ns.map intRow).length : Int).tmod 3 ≠ 0 := by rw [hlen, Int.tmod_eq_emod_of_nonneg (by omega)]; omega
      repeat' (
        (conv => whnf)
        first
        | refine Or.inl ?_
        | refine And.intro (Obl.out (?_ : Obl _)) ?_
        | refine ifB_intro (fun h => ?_) (fun h => ?_)
        | refine call_intro (hun) (And.intro rfl (And.intro rfl trivial)) ?_
        | refine Exists.intro _ (And.intro rfl ?_)
        | ((with_reducible show _ = _); rfl))
      all_goals try (
        (with_reducible refine Obl.mk ?_)
        first
        | ((with_reducible show regOk _ _ = true); kernel_rfl)
        | ((with_reducible show eqTyOk _ _ = true); kernel_rfl)
        | rfl
        | exact trivial
        | ((repeat' (first | exact trivial | refine And.intro ?_ ?_)); done)
        | decide
        | (intro r hr; simp only [List.mem_cons, List.not_mem_nil, or_false] at hr; first | (subst hr; rfl) | (rcases hr with rfl | rfl <;> rfl) | (rcases hr with rfl | rfl | rfl <;> rfl) | (rcases hr with rfl | rfl | rfl | rfl <;> rfl))
        | (refine And.intro ?_ ?_ <;> simp only [List.length_map, List.length_append, List.length_cons, List.length_nil] <;> omega))
      all_goals (exfalso; simp at h; exact hm3 (by rw [hlen]; exact h))
theorem s_spec_DecodeRows (s : List UInt8) (hs : s.length ≤ 1048576) : Sim.Spec Try.prog 84 [tvS s] (.tup [.c (.arr 3 ((oL (decodeRows s)).map TRow.tr)), .c (.t (.bool (decodeRows s).isSome))]) := by
  refine spec_of_W hΓ hmix Try.func84 rfl (by decide) rfl ?_
  have hun := s_spec_UnpackInts s 0 hs (by omega)
  have hul := unpack_len (p := 0) hs
  match hu : unpackInts s 0 with
  | none =>
    rw [hu] at hun
    dsimp only [rUnp, upL, upZ, Option.isSome] at hun
    have hd : decodeRows s = none := by rw [decodeRows, hu]
    rw [hd]
    repeat' (
      (conv => whnf)
      first
      | refine Or.inl ?_
      | refine And.intro (Obl.out (?_ : Obl _)) ?_
      | refine ifB_intro (fun h => ?_) (fun h => ?_)
      | refine call_intro (hun) (And.intro rfl (And.intro rfl trivial)) ?_
      | refine Exists.intro _ (And.intro rfl ?_)
      | ((with_reducible show _ = _); rfl))
    all_goals try (
      (with_reducible refine Obl.mk ?_)
      first
      | ((with_reducible show regOk _ _ = true); kernel_rfl)
      | ((with_reducible show eqTyOk _ _ = true); kernel_rfl)
      | rfl
      | exact trivial
      | ((repeat' (first | exact trivial | refine And.intro ?_ ?_)); done)
      | decide
      | (intro r hr; simp only [List.mem_cons, List.not_mem_nil, or_false] at hr; first | (subst hr; rfl) | (rcases hr with rfl | rfl <;> rfl) | (rcases hr with rfl | rfl | rfl <;> rfl) | (rcases hr with rfl | rfl | rfl | rfl <;> rfl))
      | (refine And.intro ?_ ?_ <;> simp only [List.length_map, List.length_append, List.length_cons, List.length_nil] <;> omega))
  | some (ns, z) =>
    rw [hu] at hun hul
    dsimp only [rUnp, upL, upZ, Option.isSome] at hun hul
    have hlen : (ns.map intRow).length = ns.length := by simp
    by_cases h3 : ns.length % 3 = 0
    · have hrg := unpack_in hu
      have hm3 : ((ns.map intRow).length : Int).tmod 3 = 0 := by rw [hlen, Int.tmod_eq_emod_of_nonneg (by omega)]; omega
      have hRl := decRowsL_len row0 ns
      have hEnc := s_spec_EncodeRows (decRowsL row0 ns) (by omega)
      have hd : decodeRows s = if encodeRows (decRowsL row0 ns) = s then some (decRowsL row0 ns) else none := by
        rw [decodeRows, hu]
        by_cases he : encodeRows (decRowsL row0 ns) = s
        · rw [if_pos he]; exact if_pos ⟨h3, he⟩
        · rw [if_neg he]; exact if_neg fun h => he h.2
      have hz := fun he => rows_full (R := decRowsL row0 ns) (by omega) he hu
      rw [hd]
      repeat' (
        (conv => whnf)
        first
        | refine Or.inl ?_
        | refine And.intro (Obl.out (?_ : Obl _)) ?_
        | refine ifB_intro (fun h => ?_) (fun h => ?_)
        | refine call_intro (hun) (And.intro rfl (And.intro rfl trivial)) ?_
        | refine Exists.intro _ (And.intro rfl ?_)
        | ((with_reducible show _ = _); rfl))
      all_goals try (
        (with_reducible refine Obl.mk ?_)
        first
        | ((with_reducible show regOk _ _ = true); kernel_rfl)
        | ((with_reducible show eqTyOk _ _ = true); kernel_rfl)
        | rfl
        | exact trivial
        | ((repeat' (first | exact trivial | refine And.intro ?_ ?_)); done)
        | decide
        | (intro r hr; simp only [List.mem_cons, List.not_mem_nil, or_false] at hr; first | (subst hr; rfl) | (rcases hr with rfl | rfl <;> rfl) | (rcases hr with rfl | rfl | rfl <;> rfl) | (rcases hr with rfl | rfl | rfl | rfl <;> rfl))
        | (refine And.intro ?_ ?_ <;> simp only [List.length_map, List.length_append, List.length_cons, List.length_nil] <;> omega))
      all_goals try (exfalso; rw [hm3] at h; simp at h; done)
      all_goals try (
        have hne : encodeRows (decRowsL row0 ns) ≠ s := fun he => by
          have := hz he
          rw [this] at h
          simp at h
        rw [if_neg hne]
        exact ⟨rfl⟩)
      conv => whnf
      refine ⟨DecRIx ns, fun q => ⟨[(0, tS s), (4, .r (.c (.own (12, 0, 0)))), (7, .r (.c (.own (16, 0, 0)))), (8, .r (.c (.ptr (8, 0, 0) 0))), (9, tI .i64 (q.1.1 : Int))], [((12, 0, 0), some (.arr true 1 (ns.map intRow))), ((16, 0, 0), some (.arr true 3 (q.1.2.2.map TRow.tr))), ((8, 0, 0), some (.box [.t (.int .i64 q.1.2.1.fOffset), .t (.int .i64 q.1.2.1.fLine), .t (.bool q.1.2.1.fStart)]))], [12, 16, 8]⟩, fun q => ns.length - q.1.1, ⟨(0, row0, []), by simp, by simp, by simp [row0], by simp⟩, ?_, ?_⟩
      · skip
        repeat' (
          (conv => whnf)
          first
          | refine Or.inl ?_
          | refine And.intro (Obl.out (?_ : Obl _)) ?_
          | refine ifB_intro (fun h => ?_) (fun h => ?_)
          | refine Exists.intro _ (And.intro rfl ?_)
          | ((with_reducible show _ = _); rfl))
        all_goals try (
          (with_reducible refine Obl.mk ?_)
          first
          | ((with_reducible show regOk _ _ = true); kernel_rfl)
          | ((with_reducible show eqTyOk _ _ = true); kernel_rfl)
          | rfl
          | exact trivial
          | ((repeat' (first | exact trivial | refine And.intro ?_ ?_)); done)
          | decide
          | (intro r hr; simp only [List.mem_cons, List.not_mem_nil, or_false] at hr; first | (subst hr; rfl) | (rcases hr with rfl | rfl <;> rfl) | (rcases hr with rfl | rfl | rfl <;> rfl) | (rcases hr with rfl | rfl | rfl | rfl <;> rfl))
          | (refine And.intro ?_ ?_ <;> simp only [List.length_map, List.length_append, List.length_cons, List.length_nil] <;> omega))
      intro ⟨⟨k, p, acc⟩, hal, hk, hb, hr⟩
      dsimp only at hal hk hb hr ⊢
      by_cases hlt : k < ns.length
      · obtain ⟨a, ha⟩ := get_of_lt hlt
        obtain ⟨b, hb2⟩ := get_of_lt (show k + 1 < ns.length by omega)
        obtain ⟨c, hc⟩ := get_of_lt (show k + 2 < ns.length by omega)
        have ia := hrg a (List.mem_of_getElem? ha)
        have ib := hrg b (List.mem_of_getElem? hb2)
        rw [drop_at ha, drop_at hb2, drop_at hc, decRowsL] at hr
        have w1 : IntKind.i64.wrap ((k : Int) + 1) = ((k + 1 : Nat) : Int) := by rw [IntWalk.i64_in _ (by omega)]; rfl
        have w2 : IntKind.i64.wrap ((k : Int) + 2) = ((k + 2 : Nat) : Int) := by rw [IntWalk.i64_in _ (by omega)]; rfl
        have w3 : IntKind.i64.wrap (p.fOffset + a) = p.fOffset + a := IntWalk.i64_in _ (by omega)
        have w4 : IntKind.i64.wrap (p.fLine + b) = p.fLine + b := IntWalk.i64_in _ (by omega)
        repeat' (
          (conv => whnf)
          first
          | refine Or.inl ?_
          | refine And.intro (Obl.out (?_ : Obl _)) ?_
          | refine ifB_intro (fun h => ?_) (fun h => ?_)
          | refine ⟨k + 1, w1, ?_⟩
          | refine ⟨k + 2, w2, ?_⟩
          | refine ⟨intRow a, map_get ha, ?_⟩
          | refine ⟨intRow b, map_get hb2, ?_⟩
          | refine ⟨intRow c, map_get hc, ?_⟩
          | refine Exists.intro _ (And.intro rfl ?_)
          | ((with_reducible show _ = _); rfl))
        all_goals try (
          (with_reducible refine Obl.mk ?_)
          first
          | ((with_reducible show regOk _ _ = true); kernel_rfl)
          | ((with_reducible show eqTyOk _ _ = true); kernel_rfl)
          | rfl
          | exact trivial
          | ((repeat' (first | exact trivial | refine And.intro ?_ ?_)); done)
          | decide
          | (intro r hr; simp only [List.mem_cons, List.not_mem_nil, or_false] at hr; first | (subst hr; rfl) | (rcases hr with rfl | rfl <;> rfl) | (rcases hr with rfl | rfl | rfl <;> rfl) | (rcases hr with rfl | rfl | rfl | rfl <;> rfl))
          | (refine And.intro ?_ ?_ <;> simp only [List.length_map, List.length_append, List.length_cons, List.length_nil] <;> omega))
        all_goals try (exfalso; simp only [decide_eq_false_iff_not, decide_eq_true_eq] at *; omega)
        all_goals try exact ⟨by rw [hlen]; omega⟩
        all_goals try exact ⟨⟨by simp; omega, by simp; omega⟩⟩
        all_goals (
          conv => whnf
          refine ⟨⟨(k + 3, ⟨p.fOffset + a, p.fLine + b, c == 1⟩, acc ++ [⟨p.fOffset + a, p.fLine + b, c == 1⟩]), by simp; omega, by dsimp only; omega, ⟨by dsimp only; omega, by dsimp only; omega, by dsimp only; omega, by dsimp only; omega⟩, by rw [← hr]; simp⟩, ?_, by dsimp only; omega⟩)
        repeat' (
          (conv => whnf)
          first
          | refine Or.inl ?_
          | refine And.intro (Obl.out (?_ : Obl _)) ?_
          | refine ifB_intro (fun h => ?_) (fun h => ?_)
          | refine Exists.intro _ (And.intro rfl ?_)
          | ((with_reducible show _ = _); rfl))
        all_goals try (
          (with_reducible refine Obl.mk ?_)
          first
          | ((with_reducible show regOk _ _ = true); kernel_rfl)
          | ((with_reducible show eqTyOk _ _ = true); kernel_rfl)
          | rfl
          | exact trivial
          | ((repeat' (first | exact trivial | refine And.intro ?_ ?_)); done)
          | decide
          | (intro r hr; simp only [List.mem_cons, List.not_mem_nil, or_false] at hr; first | (subst hr; rfl) | (rcases hr with rfl | rfl <;> rfl) | (rcases hr with rfl | rfl | rfl <;> rfl) | (rcases hr with rfl | rfl | rfl | rfl <;> rfl))
          | (refine And.intro ?_ ?_ <;> simp only [List.length_map, List.length_append, List.length_cons, List.length_nil] <;> omega))
        all_goals first
          | (refine ⟨?_⟩; dsimp only; rw [w3, w4, List.map_append]; rfl)
          | (refine ⟨?_⟩; dsimp only; rw [w3]; done)
          | (refine ⟨?_⟩; dsimp only; rw [w4]; done)
          | (refine ⟨?_⟩; dsimp only; rw [IntWalk.i64_in _ (by omega)]; rfl)
      · have hge : ns.length ≤ k := by omega
        rw [List.drop_eq_nil_of_le hge, decRowsL_nil, List.append_nil] at hr
        · subst hr
          by_cases he : encodeRows (decRowsL row0 ns) = s
          · rw [if_pos he]
            rw [he] at hEnc
            repeat' (
              (conv => whnf)
              first
              | refine Or.inl ?_
              | refine And.intro (Obl.out (?_ : Obl _)) ?_
              | refine ifB_intro (fun h => ?_) (fun h => ?_)
              | refine call_intro (hEnc) (And.intro rfl trivial) ?_
              | refine Exists.intro _ (And.intro rfl ?_)
              | ((with_reducible show _ = _); rfl))
            all_goals try (
              (with_reducible refine Obl.mk ?_)
              first
              | ((with_reducible show regOk _ _ = true); kernel_rfl)
              | ((with_reducible show eqTyOk _ _ = true); kernel_rfl)
              | rfl
              | exact trivial
              | ((repeat' (first | exact trivial | refine And.intro ?_ ?_)); done)
              | decide
              | (intro r hr; simp only [List.mem_cons, List.not_mem_nil, or_false] at hr; first | (subst hr; rfl) | (rcases hr with rfl | rfl <;> rfl) | (rcases hr with rfl | rfl | rfl <;> rfl) | (rcases hr with rfl | rfl | rfl | rfl <;> rfl))
              | (refine And.intro ?_ ?_ <;> simp only [List.length_map, List.length_append, List.length_cons, List.length_nil] <;> omega))
            all_goals try (exfalso; simp only [decide_eq_false_iff_not, decide_eq_true_eq] at *; omega)
            all_goals (exfalso; simp at h; done)
          · rw [if_neg he]
            repeat' (
              (conv => whnf)
              first
              | refine Or.inl ?_
              | refine And.intro (Obl.out (?_ : Obl _)) ?_
              | refine ifB_intro (fun h => ?_) (fun h => ?_)
              | refine call_intro (hEnc) (And.intro rfl trivial) ?_
              | refine Exists.intro _ (And.intro rfl ?_)
              | ((with_reducible show _ = _); rfl))
            all_goals try (
              (with_reducible refine Obl.mk ?_)
              first
              | ((with_reducible show regOk _ _ = true); kernel_rfl)
              | ((with_reducible show eqTyOk _ _ = true); kernel_rfl)
              | rfl
              | exact trivial
              | ((repeat' (first | exact trivial | refine And.intro ?_ ?_)); done)
              | decide
              | (intro r hr; simp only [List.mem_cons, List.not_mem_nil, or_false] at hr; first | (subst hr; rfl) | (rcases hr with rfl | rfl <;> rfl) | (rcases hr with rfl | rfl | rfl <;> rfl) | (rcases hr with rfl | rfl | rfl | rfl <;> rfl))
              | (refine And.intro ?_ ?_ <;> simp only [List.length_map, List.length_append, List.length_cons, List.length_nil] <;> omega))
            all_goals try (exfalso; simp only [decide_eq_false_iff_not, decide_eq_true_eq] at *; omega)
            all_goals (exfalso; simp at h; exact he h)
    · have hd : decodeRows s = none := by rw [decodeRows, hu]; exact if_neg fun h => h3 h.1
      rw [hd]
      have hm3 : ((ns.map intRow).length : Int).tmod 3 ≠ 0 := by rw [hlen, Int.tmod_eq_emod_of_nonneg (by omega)]; omega
      repeat' (
        (conv => whnf)
        first
        | refine Or.inl ?_
        | refine And.intro (Obl.out (?_ : Obl _)) ?_
        | refine ifB_intro (fun h => ?_) (fun h => ?_)
        | refine call_intro (hun) (And.intro rfl (And.intro rfl trivial)) ?_
        | refine Exists.intro _ (And.intro rfl ?_)
        | ((with_reducible show _ = _); rfl))
      all_goals try (
        (with_reducible refine Obl.mk ?_)
        first
        | ((with_reducible show regOk _ _ = true); kernel_rfl)
        | ((with_reducible show eqTyOk _ _ = true); kernel_rfl)
        | rfl
        | exact trivial
        | ((repeat' (first | exact trivial | refine And.intro ?_ ?_)); done)
        | decide
        | (intro r hr; simp only [List.mem_cons, List.not_mem_nil, or_false] at hr; first | (subst hr; rfl) | (rcases hr with rfl | rfl <;> rfl) | (rcases hr with rfl | rfl | rfl <;> rfl) | (rcases hr with rfl | rfl | rfl | rfl <;> rfl))
        | (refine And.intro ?_ ?_ <;> simp only [List.length_map, List.length_append, List.length_cons, List.length_nil] <;> omega))
      all_goals (exfalso; simp at h; exact hm3 (by rw [hlen]; exact h))
def decRulesL : Int → List Int → List TRule
  | p, a :: b :: c :: d :: l => ⟨p + a, p + a + b, c == 1, d⟩ :: decRulesL (p + a + b) l
  | _, _ => []
def decodeRules (s : List UInt8) : Option (List TRule) := match unpackInts s 0 with
  | none => none
  | some x => if x.1.length % 4 = 0 ∧ encodeRules (decRulesL 0 x.1) = s then some (decRulesL 0 x.1) else none
theorem encRules_len : ∀ (l : List TRule) (p : Int), (encRulesL p l).length = 4 * l.length
  | [], _ => rfl
  | r :: l, _ => by rw [encRulesL]; simp [encRules_len l r.fEnd]; omega
theorem decRulesL_nil (p : Int) : decRulesL p [] = [] := by simp [decRulesL]
theorem decRulesL_len : ∀ (p : Int) (l : List Int), 4 * (decRulesL p l).length ≤ l.length
  | p, a :: b :: c :: d :: l => by rw [decRulesL]; have := decRulesL_len (p + a + b) l; simp only [List.length_cons]; omega
  | _, [] => by simp [decRulesL]
  | _, [_] => by simp [decRulesL]
  | _, [_, _] => by simp [decRulesL]
  | _, [_, _, _] => by simp [decRulesL]
theorem rules_full {s : List UInt8} {R : List TRule} {ns : List Int} {z : Nat} (hR : R.length ≤ 1048576) (he : encodeRules R = s) (hu : unpackInts s 0 = some (ns, z)) : z = s.length := by
  unfold encodeRules at he
  split at he
  · exact (pack_full (by rw [encRules_len]; omega) he hu).1
  · rw [← he, unpack_nil] at hu
    cases hu
abbrev DecUIx (ns : List Int) := { q : Nat × Int × List TRule // 4 * q.2.2.length = q.1 ∧ q.1 ≤ ns.length ∧ (-(549755813888 * (q.1 : Int)) ≤ q.2.1 ∧ q.2.1 ≤ 549755813888 * (q.1 : Int)) ∧ q.2.2 ++ decRulesL q.2.1 (ns.drop q.1) = decRulesL 0 ns }
theorem s_impl_DecodeRules (s : List UInt8) (hs : s.length ≤ 1048576) : Sim.Spec Try.prog 90 [tvS s] (.tup [.c (.arr 4 ((oL (decodeRules s)).map TRule.tr)), .c (.t (.bool (decodeRules s).isSome))]) := by
  refine spec_of_W hΓ hmix Try.func90 rfl (by decide) rfl ?_
  have hun := s_impl_UnpackInts s 0 hs (by omega)
  have hul := unpack_len (p := 0) hs
  match hu : unpackInts s 0 with
  | none =>
    rw [hu] at hun
    dsimp only [rUnp, upL, upZ, Option.isSome] at hun
    have hd : decodeRules s = none := by rw [decodeRules, hu]
    rw [hd]
    repeat' (
      (conv => whnf)
      first
      | refine Or.inl ?_
      | refine And.intro (Obl.out (?_ : Obl _)) ?_
      | refine ifB_intro (fun h => ?_) (fun h => ?_)
      | refine call_intro (hun) (And.intro rfl (And.intro rfl trivial)) ?_
      | refine Exists.intro _ (And.intro rfl ?_)
      | ((with_reducible show _ = _); rfl))
    all_goals try (
      (with_reducible refine Obl.mk ?_)
      first
      | ((with_reducible show regOk _ _ = true); kernel_rfl)
      | ((with_reducible show eqTyOk _ _ = true); kernel_rfl)
      | rfl
      | exact trivial
      | ((repeat' (first | exact trivial | refine And.intro ?_ ?_)); done)
      | decide
      | (intro r hr; simp only [List.mem_cons, List.not_mem_nil, or_false] at hr; first | (subst hr; rfl) | (rcases hr with rfl | rfl <;> rfl) | (rcases hr with rfl | rfl | rfl <;> rfl) | (rcases hr with rfl | rfl | rfl | rfl <;> rfl))
      | (refine And.intro ?_ ?_ <;> simp only [List.length_map, List.length_append, List.length_cons, List.length_nil] <;> omega))
  | some (ns, z) =>
    rw [hu] at hun hul
    dsimp only [rUnp, upL, upZ, Option.isSome] at hun hul
    have hlen : (ns.map intRow).length = ns.length := by simp
    by_cases h3 : ns.length % 4 = 0
    · have hrg := unpack_in hu
      have hm3 : ((ns.map intRow).length : Int).tmod 4 = 0 := by rw [hlen, Int.tmod_eq_emod_of_nonneg (by omega)]; omega
      have hRl := decRulesL_len 0 ns
      have hEnc := s_impl_EncodeRules (decRulesL 0 ns) (by omega)
      have hd : decodeRules s = if encodeRules (decRulesL 0 ns) = s then some (decRulesL 0 ns) else none := by
        rw [decodeRules, hu]
        by_cases he : encodeRules (decRulesL 0 ns) = s
        · rw [if_pos he]; exact if_pos ⟨h3, he⟩
        · rw [if_neg he]; exact if_neg fun h => he h.2
      have hz := fun he => rules_full (R := decRulesL 0 ns) (by omega) he hu
      rw [hd]
      repeat' (
        (conv => whnf)
        first
        | refine Or.inl ?_
        | refine And.intro (Obl.out (?_ : Obl _)) ?_
        | refine ifB_intro (fun h => ?_) (fun h => ?_)
        | refine call_intro (hun) (And.intro rfl (And.intro rfl trivial)) ?_
        | refine Exists.intro _ (And.intro rfl ?_)
        | ((with_reducible show _ = _); rfl))
      all_goals try (
        (with_reducible refine Obl.mk ?_)
        first
        | ((with_reducible show regOk _ _ = true); kernel_rfl)
        | ((with_reducible show eqTyOk _ _ = true); kernel_rfl)
        | rfl
        | exact trivial
        | ((repeat' (first | exact trivial | refine And.intro ?_ ?_)); done)
        | decide
        | (intro r hr; simp only [List.mem_cons, List.not_mem_nil, or_false] at hr; first | (subst hr; rfl) | (rcases hr with rfl | rfl <;> rfl) | (rcases hr with rfl | rfl | rfl <;> rfl) | (rcases hr with rfl | rfl | rfl | rfl <;> rfl))
        | (refine And.intro ?_ ?_ <;> simp only [List.length_map, List.length_append, List.length_cons, List.length_nil] <;> omega))
      all_goals try (exfalso; rw [hm3] at h; simp at h; done)
      all_goals try (
        have hne : encodeRules (decRulesL 0 ns) ≠ s := fun he => by
          have := hz he
          rw [this] at h
          simp at h
        rw [if_neg hne]
        exact ⟨rfl⟩)
      conv => whnf
      refine ⟨DecUIx ns, fun q => ⟨[(0, tS s), (4, .r (.c (.own (13, 0, 0)))), (7, .r (.c (.own (25, 0, 0)))), (8, tI .i64 q.1.2.1), (9, tI .i64 (q.1.1 : Int))], [((13, 0, 0), some (.arr true 1 (ns.map intRow))), ((25, 0, 0), some (.arr true 4 (q.1.2.2.map TRule.tr)))], [13, 25]⟩, fun q => ns.length - q.1.1, ⟨(0, 0, []), by simp, by simp, by simp, by simp⟩, ?_, ?_⟩
      · skip
        repeat' (
          (conv => whnf)
          first
          | refine Or.inl ?_
          | refine And.intro (Obl.out (?_ : Obl _)) ?_
          | refine ifB_intro (fun h => ?_) (fun h => ?_)
          | refine Exists.intro _ (And.intro rfl ?_)
          | ((with_reducible show _ = _); rfl))
        all_goals try (
          (with_reducible refine Obl.mk ?_)
          first
          | ((with_reducible show regOk _ _ = true); kernel_rfl)
          | ((with_reducible show eqTyOk _ _ = true); kernel_rfl)
          | rfl
          | exact trivial
          | ((repeat' (first | exact trivial | refine And.intro ?_ ?_)); done)
          | decide
          | (intro r hr; simp only [List.mem_cons, List.not_mem_nil, or_false] at hr; first | (subst hr; rfl) | (rcases hr with rfl | rfl <;> rfl) | (rcases hr with rfl | rfl | rfl <;> rfl) | (rcases hr with rfl | rfl | rfl | rfl <;> rfl))
          | (refine And.intro ?_ ?_ <;> simp only [List.length_map, List.length_append, List.length_cons, List.length_nil] <;> omega))
      intro ⟨⟨k, p, acc⟩, hal, hk, hb, hr⟩
      dsimp only at hal hk hb hr ⊢
      by_cases hlt : k < ns.length
      · obtain ⟨a, ha⟩ := get_of_lt hlt
        obtain ⟨b, hb2⟩ := get_of_lt (show k + 1 < ns.length by omega)
        obtain ⟨c, hc⟩ := get_of_lt (show k + 2 < ns.length by omega)
        obtain ⟨d, hd2⟩ := get_of_lt (show k + 3 < ns.length by omega)
        have ia := hrg a (List.mem_of_getElem? ha)
        have ib := hrg b (List.mem_of_getElem? hb2)
        rw [drop_at ha, drop_at hb2, drop_at hc, drop_at hd2, decRulesL] at hr
        have w1 : IntKind.i64.wrap ((k : Int) + 1) = ((k + 1 : Nat) : Int) := by rw [IntWalk.i64_in _ (by omega)]; rfl
        have w2 : IntKind.i64.wrap ((k : Int) + 2) = ((k + 2 : Nat) : Int) := by rw [IntWalk.i64_in _ (by omega)]; rfl
        have w0 : IntKind.i64.wrap ((k : Int) + 3) = ((k + 3 : Nat) : Int) := by rw [IntWalk.i64_in _ (by omega)]; rfl
        have w3 : IntKind.i64.wrap (p + a) = p + a := IntWalk.i64_in _ (by omega)
        have w4 : IntKind.i64.wrap (p + a + b) = p + a + b := IntWalk.i64_in _ (by omega)
        repeat' (
          (conv => whnf)
          first
          | refine Or.inl ?_
          | refine And.intro (Obl.out (?_ : Obl _)) ?_
          | refine ifB_intro (fun h => ?_) (fun h => ?_)
          | refine ⟨k + 1, w1, ?_⟩
          | refine ⟨k + 2, w2, ?_⟩
          | refine ⟨k + 3, w0, ?_⟩
          | refine ⟨intRow a, map_get ha, ?_⟩
          | refine ⟨intRow b, map_get hb2, ?_⟩
          | refine ⟨intRow c, map_get hc, ?_⟩
          | refine ⟨intRow d, map_get hd2, ?_⟩
          | refine Exists.intro _ (And.intro rfl ?_)
          | ((with_reducible show _ = _); rfl))
        all_goals try (
          (with_reducible refine Obl.mk ?_)
          first
          | ((with_reducible show regOk _ _ = true); kernel_rfl)
          | ((with_reducible show eqTyOk _ _ = true); kernel_rfl)
          | rfl
          | exact trivial
          | ((repeat' (first | exact trivial | refine And.intro ?_ ?_)); done)
          | decide
          | (intro r hr; simp only [List.mem_cons, List.not_mem_nil, or_false] at hr; first | (subst hr; rfl) | (rcases hr with rfl | rfl <;> rfl) | (rcases hr with rfl | rfl | rfl <;> rfl) | (rcases hr with rfl | rfl | rfl | rfl <;> rfl))
          | (refine And.intro ?_ ?_ <;> simp only [List.length_map, List.length_append, List.length_cons, List.length_nil] <;> omega))
        all_goals try (exfalso; simp only [decide_eq_false_iff_not, decide_eq_true_eq] at *; omega)
        all_goals try exact ⟨by rw [hlen]; omega⟩
        all_goals try exact ⟨⟨by simp; omega, by simp; omega⟩⟩
        all_goals (
          conv => whnf
          refine ⟨⟨(k + 4, p + a + b, acc ++ [⟨p + a, p + a + b, c == 1, d⟩]), by simp; omega, by dsimp only; omega, ⟨by dsimp only; omega, by dsimp only; omega⟩, by rw [← hr]; simp⟩, ?_, by dsimp only; omega⟩)
        repeat' (
          (conv => whnf)
          first
          | refine Or.inl ?_
          | refine And.intro (Obl.out (?_ : Obl _)) ?_
          | refine ifB_intro (fun h => ?_) (fun h => ?_)
          | refine Exists.intro _ (And.intro rfl ?_)
          | ((with_reducible show _ = _); rfl))
        all_goals try (
          (with_reducible refine Obl.mk ?_)
          first
          | ((with_reducible show regOk _ _ = true); kernel_rfl)
          | ((with_reducible show eqTyOk _ _ = true); kernel_rfl)
          | rfl
          | exact trivial
          | ((repeat' (first | exact trivial | refine And.intro ?_ ?_)); done)
          | decide
          | (intro r hr; simp only [List.mem_cons, List.not_mem_nil, or_false] at hr; first | (subst hr; rfl) | (rcases hr with rfl | rfl <;> rfl) | (rcases hr with rfl | rfl | rfl <;> rfl) | (rcases hr with rfl | rfl | rfl | rfl <;> rfl))
          | (refine And.intro ?_ ?_ <;> simp only [List.length_map, List.length_append, List.length_cons, List.length_nil] <;> omega))
        all_goals first
          | (refine ⟨?_⟩; dsimp only; rw [w3, w4, List.map_append]; rfl)
          | (refine ⟨?_⟩; dsimp only; rw [w3, w4]; done)
          | (refine ⟨?_⟩; dsimp only; rw [w3]; done)
          | (refine ⟨?_⟩; dsimp only; rw [w4]; done)
          | (refine ⟨?_⟩; dsimp only; rw [IntWalk.i64_in _ (by omega)]; rfl)
      · have hge : ns.length ≤ k := by omega
        rw [List.drop_eq_nil_of_le hge, decRulesL_nil, List.append_nil] at hr
        · subst hr
          by_cases he : encodeRules (decRulesL 0 ns) = s
          · rw [if_pos he]
            rw [he] at hEnc
            repeat' (
              (conv => whnf)
              first
              | refine Or.inl ?_
              | refine And.intro (Obl.out (?_ : Obl _)) ?_
              | refine ifB_intro (fun h => ?_) (fun h => ?_)
              | refine call_intro (hEnc) (And.intro rfl trivial) ?_
              | refine Exists.intro _ (And.intro rfl ?_)
              | ((with_reducible show _ = _); rfl))
            all_goals try (
              (with_reducible refine Obl.mk ?_)
              first
              | ((with_reducible show regOk _ _ = true); kernel_rfl)
              | ((with_reducible show eqTyOk _ _ = true); kernel_rfl)
              | rfl
              | exact trivial
              | ((repeat' (first | exact trivial | refine And.intro ?_ ?_)); done)
              | decide
              | (intro r hr; simp only [List.mem_cons, List.not_mem_nil, or_false] at hr; first | (subst hr; rfl) | (rcases hr with rfl | rfl <;> rfl) | (rcases hr with rfl | rfl | rfl <;> rfl) | (rcases hr with rfl | rfl | rfl | rfl <;> rfl))
              | (refine And.intro ?_ ?_ <;> simp only [List.length_map, List.length_append, List.length_cons, List.length_nil] <;> omega))
            all_goals try (exfalso; simp only [decide_eq_false_iff_not, decide_eq_true_eq] at *; omega)
            all_goals (exfalso; simp at h; done)
          · rw [if_neg he]
            repeat' (
              (conv => whnf)
              first
              | refine Or.inl ?_
              | refine And.intro (Obl.out (?_ : Obl _)) ?_
              | refine ifB_intro (fun h => ?_) (fun h => ?_)
              | refine call_intro (hEnc) (And.intro rfl trivial) ?_
              | refine Exists.intro _ (And.intro rfl ?_)
              | ((with_reducible show _ = _); rfl))
            all_goals try (
              (with_reducible refine Obl.mk ?_)
              first
              | ((with_reducible show regOk _ _ = true); kernel_rfl)
              | ((with_reducible show eqTyOk _ _ = true); kernel_rfl)
              | rfl
              | exact trivial
              | ((repeat' (first | exact trivial | refine And.intro ?_ ?_)); done)
              | decide
              | (intro r hr; simp only [List.mem_cons, List.not_mem_nil, or_false] at hr; first | (subst hr; rfl) | (rcases hr with rfl | rfl <;> rfl) | (rcases hr with rfl | rfl | rfl <;> rfl) | (rcases hr with rfl | rfl | rfl | rfl <;> rfl))
              | (refine And.intro ?_ ?_ <;> simp only [List.length_map, List.length_append, List.length_cons, List.length_nil] <;> omega))
            all_goals try (exfalso; simp only [decide_eq_false_iff_not, decide_eq_true_eq] at *; omega)
            all_goals (exfalso; simp at h; exact he h)
    · have hd : decodeRules s = none := by rw [decodeRules, hu]; exact if_neg fun h => h3 h.1
      rw [hd]
      have hm3 : ((ns.map intRow).length : Int).tmod 4 ≠ 0 := by rw [hlen, Int.tmod_eq_emod_of_nonneg (by omega)]; omega
      repeat' (
        (conv => whnf)
        first
        | refine Or.inl ?_
        | refine And.intro (Obl.out (?_ : Obl _)) ?_
        | refine ifB_intro (fun h => ?_) (fun h => ?_)
        | refine call_intro (hun) (And.intro rfl (And.intro rfl trivial)) ?_
        | refine Exists.intro _ (And.intro rfl ?_)
        | ((with_reducible show _ = _); rfl))
      all_goals try (
        (with_reducible refine Obl.mk ?_)
        first
        | ((with_reducible show regOk _ _ = true); kernel_rfl)
        | ((with_reducible show eqTyOk _ _ = true); kernel_rfl)
        | rfl
        | exact trivial
        | ((repeat' (first | exact trivial | refine And.intro ?_ ?_)); done)
        | decide
        | (intro r hr; simp only [List.mem_cons, List.not_mem_nil, or_false] at hr; first | (subst hr; rfl) | (rcases hr with rfl | rfl <;> rfl) | (rcases hr with rfl | rfl | rfl <;> rfl) | (rcases hr with rfl | rfl | rfl | rfl <;> rfl))
        | (refine And.intro ?_ ?_ <;> simp only [List.length_map, List.length_append, List.length_cons, List.length_nil] <;> omega))
      all_goals (exfalso; simp at h; exact hm3 (by rw [hlen]; exact h))
theorem s_spec_DecodeRules (s : List UInt8) (hs : s.length ≤ 1048576) : Sim.Spec Try.prog 83 [tvS s] (.tup [.c (.arr 4 ((oL (decodeRules s)).map TRule.tr)), .c (.t (.bool (decodeRules s).isSome))]) := by
  refine spec_of_W hΓ hmix Try.func83 rfl (by decide) rfl ?_
  have hun := s_spec_UnpackInts s 0 hs (by omega)
  have hul := unpack_len (p := 0) hs
  match hu : unpackInts s 0 with
  | none =>
    rw [hu] at hun
    dsimp only [rUnp, upL, upZ, Option.isSome] at hun
    have hd : decodeRules s = none := by rw [decodeRules, hu]
    rw [hd]
    repeat' (
      (conv => whnf)
      first
      | refine Or.inl ?_
      | refine And.intro (Obl.out (?_ : Obl _)) ?_
      | refine ifB_intro (fun h => ?_) (fun h => ?_)
      | refine call_intro (hun) (And.intro rfl (And.intro rfl trivial)) ?_
      | refine Exists.intro _ (And.intro rfl ?_)
      | ((with_reducible show _ = _); rfl))
    all_goals try (
      (with_reducible refine Obl.mk ?_)
      first
      | ((with_reducible show regOk _ _ = true); kernel_rfl)
      | ((with_reducible show eqTyOk _ _ = true); kernel_rfl)
      | rfl
      | exact trivial
      | ((repeat' (first | exact trivial | refine And.intro ?_ ?_)); done)
      | decide
      | (intro r hr; simp only [List.mem_cons, List.not_mem_nil, or_false] at hr; first | (subst hr; rfl) | (rcases hr with rfl | rfl <;> rfl) | (rcases hr with rfl | rfl | rfl <;> rfl) | (rcases hr with rfl | rfl | rfl | rfl <;> rfl))
      | (refine And.intro ?_ ?_ <;> simp only [List.length_map, List.length_append, List.length_cons, List.length_nil] <;> omega))
  | some (ns, z) =>
    rw [hu] at hun hul
    dsimp only [rUnp, upL, upZ, Option.isSome] at hun hul
    have hlen : (ns.map intRow).length = ns.length := by simp
    by_cases h3 : ns.length % 4 = 0
    · have hrg := unpack_in hu
      have hm3 : ((ns.map intRow).length : Int).tmod 4 = 0 := by rw [hlen, Int.tmod_eq_emod_of_nonneg (by omega)]; omega
      have hRl := decRulesL_len 0 ns
      have hEnc := s_spec_EncodeRules (decRulesL 0 ns) (by omega)
      have hd : decodeRules s = if encodeRules (decRulesL 0 ns) = s then some (decRulesL 0 ns) else none := by
        rw [decodeRules, hu]
        by_cases he : encodeRules (decRulesL 0 ns) = s
        · rw [if_pos he]; exact if_pos ⟨h3, he⟩
        · rw [if_neg he]; exact if_neg fun h => he h.2
      have hz := fun he => rules_full (R := decRulesL 0 ns) (by omega) he hu
      rw [hd]
      repeat' (
        (conv => whnf)
        first
        | refine Or.inl ?_
        | refine And.intro (Obl.out (?_ : Obl _)) ?_
        | refine ifB_intro (fun h => ?_) (fun h => ?_)
        | refine call_intro (hun) (And.intro rfl (And.intro rfl trivial)) ?_
        | refine Exists.intro _ (And.intro rfl ?_)
        | ((with_reducible show _ = _); rfl))
      all_goals try (
        (with_reducible refine Obl.mk ?_)
        first
        | ((with_reducible show regOk _ _ = true); kernel_rfl)
        | ((with_reducible show eqTyOk _ _ = true); kernel_rfl)
        | rfl
        | exact trivial
        | ((repeat' (first | exact trivial | refine And.intro ?_ ?_)); done)
        | decide
        | (intro r hr; simp only [List.mem_cons, List.not_mem_nil, or_false] at hr; first | (subst hr; rfl) | (rcases hr with rfl | rfl <;> rfl) | (rcases hr with rfl | rfl | rfl <;> rfl) | (rcases hr with rfl | rfl | rfl | rfl <;> rfl))
        | (refine And.intro ?_ ?_ <;> simp only [List.length_map, List.length_append, List.length_cons, List.length_nil] <;> omega))
      all_goals try (exfalso; rw [hm3] at h; simp at h; done)
      all_goals try (
        have hne : encodeRules (decRulesL 0 ns) ≠ s := fun he => by
          have := hz he
          rw [this] at h
          simp at h
        rw [if_neg hne]
        exact ⟨rfl⟩)
      conv => whnf
      refine ⟨DecUIx ns, fun q => ⟨[(0, tS s), (4, .r (.c (.own (12, 0, 0)))), (7, .r (.c (.own (16, 0, 0)))), (8, tI .i64 q.1.2.1), (9, tI .i64 (q.1.1 : Int))], [((12, 0, 0), some (.arr true 1 (ns.map intRow))), ((16, 0, 0), some (.arr true 4 (q.1.2.2.map TRule.tr)))], [12, 16]⟩, fun q => ns.length - q.1.1, ⟨(0, 0, []), by simp, by simp, by simp, by simp⟩, ?_, ?_⟩
      · skip
        repeat' (
          (conv => whnf)
          first
          | refine Or.inl ?_
          | refine And.intro (Obl.out (?_ : Obl _)) ?_
          | refine ifB_intro (fun h => ?_) (fun h => ?_)
          | refine Exists.intro _ (And.intro rfl ?_)
          | ((with_reducible show _ = _); rfl))
        all_goals try (
          (with_reducible refine Obl.mk ?_)
          first
          | ((with_reducible show regOk _ _ = true); kernel_rfl)
          | ((with_reducible show eqTyOk _ _ = true); kernel_rfl)
          | rfl
          | exact trivial
          | ((repeat' (first | exact trivial | refine And.intro ?_ ?_)); done)
          | decide
          | (intro r hr; simp only [List.mem_cons, List.not_mem_nil, or_false] at hr; first | (subst hr; rfl) | (rcases hr with rfl | rfl <;> rfl) | (rcases hr with rfl | rfl | rfl <;> rfl) | (rcases hr with rfl | rfl | rfl | rfl <;> rfl))
          | (refine And.intro ?_ ?_ <;> simp only [List.length_map, List.length_append, List.length_cons, List.length_nil] <;> omega))
      intro ⟨⟨k, p, acc⟩, hal, hk, hb, hr⟩
      dsimp only at hal hk hb hr ⊢
      by_cases hlt : k < ns.length
      · obtain ⟨a, ha⟩ := get_of_lt hlt
        obtain ⟨b, hb2⟩ := get_of_lt (show k + 1 < ns.length by omega)
        obtain ⟨c, hc⟩ := get_of_lt (show k + 2 < ns.length by omega)
        obtain ⟨d, hd2⟩ := get_of_lt (show k + 3 < ns.length by omega)
        have ia := hrg a (List.mem_of_getElem? ha)
        have ib := hrg b (List.mem_of_getElem? hb2)
        rw [drop_at ha, drop_at hb2, drop_at hc, drop_at hd2, decRulesL] at hr
        have w1 : IntKind.i64.wrap ((k : Int) + 1) = ((k + 1 : Nat) : Int) := by rw [IntWalk.i64_in _ (by omega)]; rfl
        have w2 : IntKind.i64.wrap ((k : Int) + 2) = ((k + 2 : Nat) : Int) := by rw [IntWalk.i64_in _ (by omega)]; rfl
        have w0 : IntKind.i64.wrap ((k : Int) + 3) = ((k + 3 : Nat) : Int) := by rw [IntWalk.i64_in _ (by omega)]; rfl
        have w3 : IntKind.i64.wrap (p + a) = p + a := IntWalk.i64_in _ (by omega)
        have w4 : IntKind.i64.wrap (p + a + b) = p + a + b := IntWalk.i64_in _ (by omega)
        repeat' (
          (conv => whnf)
          first
          | refine Or.inl ?_
          | refine And.intro (Obl.out (?_ : Obl _)) ?_
          | refine ifB_intro (fun h => ?_) (fun h => ?_)
          | refine ⟨k + 1, w1, ?_⟩
          | refine ⟨k + 2, w2, ?_⟩
          | refine ⟨k + 3, w0, ?_⟩
          | refine ⟨intRow a, map_get ha, ?_⟩
          | refine ⟨intRow b, map_get hb2, ?_⟩
          | refine ⟨intRow c, map_get hc, ?_⟩
          | refine ⟨intRow d, map_get hd2, ?_⟩
          | refine Exists.intro _ (And.intro rfl ?_)
          | ((with_reducible show _ = _); rfl))
        all_goals try (
          (with_reducible refine Obl.mk ?_)
          first
          | ((with_reducible show regOk _ _ = true); kernel_rfl)
          | ((with_reducible show eqTyOk _ _ = true); kernel_rfl)
          | rfl
          | exact trivial
          | ((repeat' (first | exact trivial | refine And.intro ?_ ?_)); done)
          | decide
          | (intro r hr; simp only [List.mem_cons, List.not_mem_nil, or_false] at hr; first | (subst hr; rfl) | (rcases hr with rfl | rfl <;> rfl) | (rcases hr with rfl | rfl | rfl <;> rfl) | (rcases hr with rfl | rfl | rfl | rfl <;> rfl))
          | (refine And.intro ?_ ?_ <;> simp only [List.length_map, List.length_append, List.length_cons, List.length_nil] <;> omega))
        all_goals try (exfalso; simp only [decide_eq_false_iff_not, decide_eq_true_eq] at *; omega)
        all_goals try exact ⟨by rw [hlen]; omega⟩
        all_goals try exact ⟨⟨by simp; omega, by simp; omega⟩⟩
        all_goals (
          conv => whnf
          refine ⟨⟨(k + 4, p + a + b, acc ++ [⟨p + a, p + a + b, c == 1, d⟩]), by simp; omega, by dsimp only; omega, ⟨by dsimp only; omega, by dsimp only; omega⟩, by rw [← hr]; simp⟩, ?_, by dsimp only; omega⟩)
        repeat' (
          (conv => whnf)
          first
          | refine Or.inl ?_
          | refine And.intro (Obl.out (?_ : Obl _)) ?_
          | refine ifB_intro (fun h => ?_) (fun h => ?_)
          | refine Exists.intro _ (And.intro rfl ?_)
          | ((with_reducible show _ = _); rfl))
        all_goals try (
          (with_reducible refine Obl.mk ?_)
          first
          | ((with_reducible show regOk _ _ = true); kernel_rfl)
          | ((with_reducible show eqTyOk _ _ = true); kernel_rfl)
          | rfl
          | exact trivial
          | ((repeat' (first | exact trivial | refine And.intro ?_ ?_)); done)
          | decide
          | (intro r hr; simp only [List.mem_cons, List.not_mem_nil, or_false] at hr; first | (subst hr; rfl) | (rcases hr with rfl | rfl <;> rfl) | (rcases hr with rfl | rfl | rfl <;> rfl) | (rcases hr with rfl | rfl | rfl | rfl <;> rfl))
          | (refine And.intro ?_ ?_ <;> simp only [List.length_map, List.length_append, List.length_cons, List.length_nil] <;> omega))
        all_goals first
          | (refine ⟨?_⟩; dsimp only; rw [w3, w4, List.map_append]; rfl)
          | (refine ⟨?_⟩; dsimp only; rw [w3, w4]; done)
          | (refine ⟨?_⟩; dsimp only; rw [w3]; done)
          | (refine ⟨?_⟩; dsimp only; rw [w4]; done)
          | (refine ⟨?_⟩; dsimp only; rw [IntWalk.i64_in _ (by omega)]; rfl)
      · have hge : ns.length ≤ k := by omega
        rw [List.drop_eq_nil_of_le hge, decRulesL_nil, List.append_nil] at hr
        · subst hr
          by_cases he : encodeRules (decRulesL 0 ns) = s
          · rw [if_pos he]
            rw [he] at hEnc
            repeat' (
              (conv => whnf)
              first
              | refine Or.inl ?_
              | refine And.intro (Obl.out (?_ : Obl _)) ?_
              | refine ifB_intro (fun h => ?_) (fun h => ?_)
              | refine call_intro (hEnc) (And.intro rfl trivial) ?_
              | refine Exists.intro _ (And.intro rfl ?_)
              | ((with_reducible show _ = _); rfl))
            all_goals try (
              (with_reducible refine Obl.mk ?_)
              first
              | ((with_reducible show regOk _ _ = true); kernel_rfl)
              | ((with_reducible show eqTyOk _ _ = true); kernel_rfl)
              | rfl
              | exact trivial
              | ((repeat' (first | exact trivial | refine And.intro ?_ ?_)); done)
              | decide
              | (intro r hr; simp only [List.mem_cons, List.not_mem_nil, or_false] at hr; first | (subst hr; rfl) | (rcases hr with rfl | rfl <;> rfl) | (rcases hr with rfl | rfl | rfl <;> rfl) | (rcases hr with rfl | rfl | rfl | rfl <;> rfl))
              | (refine And.intro ?_ ?_ <;> simp only [List.length_map, List.length_append, List.length_cons, List.length_nil] <;> omega))
            all_goals try (exfalso; simp only [decide_eq_false_iff_not, decide_eq_true_eq] at *; omega)
            all_goals (exfalso; simp at h; done)
          · rw [if_neg he]
            repeat' (
              (conv => whnf)
              first
              | refine Or.inl ?_
              | refine And.intro (Obl.out (?_ : Obl _)) ?_
              | refine ifB_intro (fun h => ?_) (fun h => ?_)
              | refine call_intro (hEnc) (And.intro rfl trivial) ?_
              | refine Exists.intro _ (And.intro rfl ?_)
              | ((with_reducible show _ = _); rfl))
            all_goals try (
              (with_reducible refine Obl.mk ?_)
              first
              | ((with_reducible show regOk _ _ = true); kernel_rfl)
              | ((with_reducible show eqTyOk _ _ = true); kernel_rfl)
              | rfl
              | exact trivial
              | ((repeat' (first | exact trivial | refine And.intro ?_ ?_)); done)
              | decide
              | (intro r hr; simp only [List.mem_cons, List.not_mem_nil, or_false] at hr; first | (subst hr; rfl) | (rcases hr with rfl | rfl <;> rfl) | (rcases hr with rfl | rfl | rfl <;> rfl) | (rcases hr with rfl | rfl | rfl | rfl <;> rfl))
              | (refine And.intro ?_ ?_ <;> simp only [List.length_map, List.length_append, List.length_cons, List.length_nil] <;> omega))
            all_goals try (exfalso; simp only [decide_eq_false_iff_not, decide_eq_true_eq] at *; omega)
            all_goals (exfalso; simp at h; exact he h)
    · have hd : decodeRules s = none := by rw [decodeRules, hu]; exact if_neg fun h => h3 h.1
      rw [hd]
      have hm3 : ((ns.map intRow).length : Int).tmod 4 ≠ 0 := by rw [hlen, Int.tmod_eq_emod_of_nonneg (by omega)]; omega
      repeat' (
        (conv => whnf)
        first
        | refine Or.inl ?_
        | refine And.intro (Obl.out (?_ : Obl _)) ?_
        | refine ifB_intro (fun h => ?_) (fun h => ?_)
        | refine call_intro (hun) (And.intro rfl (And.intro rfl trivial)) ?_
        | refine Exists.intro _ (And.intro rfl ?_)
        | ((with_reducible show _ = _); rfl))
      all_goals try (
        (with_reducible refine Obl.mk ?_)
        first
        | ((with_reducible show regOk _ _ = true); kernel_rfl)
        | ((with_reducible show eqTyOk _ _ = true); kernel_rfl)
        | rfl
        | exact trivial
        | ((repeat' (first | exact trivial | refine And.intro ?_ ?_)); done)
        | decide
        | (intro r hr; simp only [List.mem_cons, List.not_mem_nil, or_false] at hr; first | (subst hr; rfl) | (rcases hr with rfl | rfl <;> rfl) | (rcases hr with rfl | rfl | rfl <;> rfl) | (rcases hr with rfl | rfl | rfl | rfl <;> rfl))
        | (refine And.intro ?_ ?_ <;> simp only [List.length_map, List.length_append, List.length_cons, List.length_nil] <;> omega))
      all_goals (exfalso; simp at h; exact hm3 (by rw [hlen]; exact h))
theorem decodeRows_len {s : List UInt8} (hs : s.length ≤ 1048576) : (oL (decodeRows s)).length ≤ 1048576 := by
  have hul := unpack_len (p := 0) hs
  unfold decodeRows
  match hu : unpackInts s 0 with
  | none => simp [oL]
  | some (ns, z) =>
    rw [hu] at hul
    have h1 := decRowsL_len row0 ns
    dsimp only [upL] at hul ⊢
    split <;> simp only [oL, List.length_nil] <;> omega
theorem decodeRules_len {s : List UInt8} (hs : s.length ≤ 1048576) : (oL (decodeRules s)).length ≤ 1048576 := by
  have hul := unpack_len (p := 0) hs
  unfold decodeRules
  match hu : unpackInts s 0 with
  | none => simp [oL]
  | some (ns, z) =>
    rw [hu] at hul
    have h1 := decRulesL_len 0 ns
    dsimp only [upL] at hul ⊢
    split <;> simp only [oL, List.length_nil] <;> omega
end Go.Proofs.Ytflolafbblohnaa
