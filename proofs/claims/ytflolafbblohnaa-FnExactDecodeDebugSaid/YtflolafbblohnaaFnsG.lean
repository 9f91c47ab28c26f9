/- UnpackInts in both texts; what is read back from what was packed; the law 'FnVarints'. -/
import Derived.Test.YtflolafbblohnaaFnsE
namespace Go.Proofs.Ytflolafbblohnaa
open Go.Sim
set_option maxRecDepth 100000
theorem wrap64_le (n : Int) : IntKind.i64.wrap n ≤ 9223372036854775807 := by rw [IntKind.wrap_i64]; omega
def unpackL (s : List UInt8) (p : Nat) : Nat → Nat → Option (List Int × Nat)
  | 0, z => some ([], z)
  | n + 1, z => match dec s ((p + z : Nat) : Int) with
    | none => none
    | some x => (unpackL s p n (z + x.2)).map fun y => (signed x.1 :: y.1, y.2)
def unpackInts (s : List UInt8) (p : Int) : Option (List Int × Nat) := match dec s p with
  | none => none
  | some x => unpackL s p.toNat x.1 x.2
def upL (o : Option (List Int × Nat)) : List Int := match o with | some x => x.1 | none => []
def upZ (o : Option (List Int × Nat)) : Int := match o with | some x => x.2 | none => 0
abbrev rUnp (o : Option (List Int × Nat)) : Res := .tup [.c (.arr 1 ((upL o).map intRow)), .c (.t (.int .i64 (upZ o))), .c (.t (.bool o.isSome))]
theorem unpackL_len {s : List UInt8} {p : Nat} : ∀ {n z : Nat} {y : List Int × Nat}, unpackL s p n z = some y → y.1.length = n ∧ z + n ≤ y.2 ∧ (p + z ≤ s.length → p + y.2 ≤ s.length)
  | 0, z, y, h => by
    rw [unpackL] at h
    injection h with h
    subst h
    exact ⟨rfl, Nat.le_refl _, id⟩
  | n + 1, z, y, h => by
    rw [unpackL] at h
    split at h
    · cases h
    · rename_i x hx
      obtain ⟨a, b⟩ := x
      have hd := dec_some hx
      rw [Int.toNat_natCast] at hd
      rw [Option.map_eq_some_iff] at h
      obtain ⟨y', h', rfl⟩ := h
      have := unpackL_len h'
      dsimp only at this ⊢
      refine ⟨by simp [this.1], by omega, fun _ => this.2.2 (by omega)⟩
def UpInv (s : List UInt8) (p : Int) (R : Option (List Int × Nat)) (N : Int) (k z : Nat) (ok : Bool) (acc : List Int) : Prop :=
  acc.length = k ∧ (k : Int) ≤ N ∧ acc.length ≤ s.length + 1 ∧ (match ok with
    | true => 0 ≤ p ∧ p.toNat + z ≤ s.length ∧ acc.length ≤ z ∧ R = (unpackL s p.toNat (N.toNat - k) z).map fun y => (acc ++ y.1, y.2)
    | false => R = none)
theorem dec_size {s : List UInt8} {p : Int} : decN (dec s p) ≤ 1099511627775 ∧ 0 ≤ decN (dec s p) ∧ 0 ≤ decK (dec s p) ∧ decK (dec s p) ≤ 6 := by
  match hd : dec s p with
  | none => simp [decN, decK]
  | some (a, b) => have := dec_some hd; simp only [decN, decK]; omega
theorem up_start {s : List UInt8} {p : Int} : UpInv s p (unpackInts s p) (decN (dec s p)) 0 (decK (dec s p)).toNat (dec s p).isSome [] := by
  have hz := dec_size (s := s) (p := p)
  refine ⟨rfl, by simpa using hz.2.1, by simp, ?_⟩
  match hd : dec s p with
  | none => simp [unpackInts, hd]
  | some (a, b) =>
    have := dec_some hd
    simp only [Option.isSome, decN, decK, unpackInts, hd]
    refine ⟨by omega, by simp; omega, by simp, ?_⟩
    simp
theorem up_step {s : List UInt8} {p : Int} {R : Option (List Int × Nat)} {N : Int} {k z : Nat} {acc : List Int} (h : UpInv s p R N k z true acc) (hk : (k : Int) < N) :
    UpInv s p R N (k + 1) (z + (decK (dec s ((p.toNat + z : Nat) : Int))).toNat) (dec s ((p.toNat + z : Nat) : Int)).isSome (acc ++ [signed (decN (dec s ((p.toNat + z : Nat) : Int)))]) := by
  obtain ⟨h1, h2, h3, h4, h5, h6, h7⟩ := h
  refine ⟨by simp [h1], by omega, by simp; omega, ?_⟩
  rw [show N.toNat - k = (N.toNat - (k + 1)) + 1 by omega, unpackL] at h7
  match hd : dec s ((p.toNat + z : Nat) : Int) with
  | none => rw [hd] at h7; simpa using h7
  | some (a, b) =>
    have := dec_some hd
    rw [Int.toNat_natCast] at this
    rw [hd] at h7
    simp only [Option.isSome, decN, decK]
    refine ⟨h4, by simp; omega, by simp; omega, ?_⟩
    rw [h7]
    simp only [Option.map_map, Int.toNat_natCast]
    congr 1
    funext y
    simp
theorem up_end {s : List UInt8} {p : Int} {R : Option (List Int × Nat)} {N : Int} {k z : Nat} {acc : List Int} (h : UpInv s p R N k z true acc) (hk : N ≤ k) : R = some (acc, z) := by
  obtain ⟨h1, h2, h3, h4, h5, h6, h7⟩ := h
  rw [show N.toNat - k = 0 by omega, unpackL] at h7
  simpa using h7
abbrev UpIx (s : List UInt8) (p : Int) (R : Option (List Int × Nat)) := { q : Nat × Nat × Bool × List Int // UpInv s p R (decN (dec s p)) q.1 q.2.1 q.2.2.1 q.2.2.2 ∧ q.2.1 ≤ 2000000 }
theorem s_spec_UnpackInts (s : List UInt8) (p : Int) (hs : s.length ≤ 1048576) (hp : p ≤ 9223372036854775807) : Sim.Spec Try.prog 82 [tvS s, tvI p] (rUnp (unpackInts s p)) := by
  have hz := dec_size (s := s) (p := p)
  have hst := up_start (s := s) (p := p)
  obtain ⟨R, hR⟩ : ∃ R, unpackInts s p = R := ⟨_, rfl⟩
  rw [hR] at hst ⊢
  refine spec_of_W hΓ hmix Try.func82 rfl (by decide) rfl ?_
  repeat' (
    (conv => whnf)
    first
    | refine Or.inl ?_
    | refine And.intro (Obl.out (?_ : Obl _)) ?_
    | refine ifB_intro (fun h => ?_) (fun h => ?_)
    | refine call_intro ((s_spec_DecodeVarint s p hs hp)) (And.intro rfl (And.intro rfl trivial)) ?_
    | refine Exists.intro _ (And.intro rfl ?_)
    | ((with_reducible show _ = _); rfl))
  all_goals try (
    (with_reducible refine Obl.mk ?_)
    first
    | ((with_reducible show regOk _ _ = true); kernel_rfl)
    | ((with_reducible show eqTyOk _ _ = true); kernel_rfl)
    | rfl
    | exact trivial
    | ((repeat' (first | exact trivial | refine And.intro ?_ ?_)); done)
    | decide
    | (intro r hr; simp only [List.mem_cons, List.not_mem_nil, or_false] at hr; first | (subst hr; rfl) | (rcases hr with rfl | rfl <;> rfl) | (rcases hr with rfl | rfl | rfl <;> rfl) | (rcases hr with rfl | rfl | rfl | rfl <;> rfl))
    | (refine And.intro ?_ ?_ <;> simp only [List.length_map, List.length_append, List.length_cons, List.length_nil] <;> omega))
  conv => whnf
  refine ⟨UpIx s p R, fun q => ⟨[(0, tS s), (1, tI .i64 p), (7, tI .i64 (decN (dec s p))), (8, tI .i64 (q.1.2.1 : Int)), (9, tB q.1.2.2.1), (10, .r (.c (.own (10, 0, 0)))), (11, tI .i64 (q.1.1 : Int))], [((10, 0, 0), some (.arr true 1 (q.1.2.2.2.map intRow)))], [10]⟩, fun q => (decN (dec s p)).toNat - q.1.1, ⟨(0, (decK (dec s p)).toNat, (dec s p).isSome, []), hst, by dsimp only; omega⟩, ?_, ?_⟩
  · skip
    repeat' (
      (conv => whnf)
      first
      | refine Or.inl ?_
      | refine And.intro (Obl.out (?_ : Obl _)) ?_
      | refine ifB_intro (fun h => ?_) (fun h => ?_)
      | refine Exists.intro _ (And.intro rfl ?_)
      | ((with_reducible show _ = _); rfl))
    all_goals try (
      (with_reducible refine Obl.mk ?_)
      first
      | ((with_reducible show regOk _ _ = true); kernel_rfl)
      | ((with_reducible show eqTyOk _ _ = true); kernel_rfl)
      | rfl
      | exact trivial
      | ((repeat' (first | exact trivial | refine And.intro ?_ ?_)); done)
      | decide
      | (intro r hr; simp only [List.mem_cons, List.not_mem_nil, or_false] at hr; first | (subst hr; rfl) | (rcases hr with rfl | rfl <;> rfl) | (rcases hr with rfl | rfl | rfl <;> rfl) | (rcases hr with rfl | rfl | rfl | rfl <;> rfl))
      | (refine And.intro ?_ ?_ <;> simp only [List.length_map, List.length_append, List.length_cons, List.length_nil] <;> omega))
    exact ⟨by dsimp only; rw [Int.toNat_of_nonneg hz.2.2.1]⟩
  intro ⟨⟨k, z, ok, acc⟩, hinv, hz1⟩
  dsimp only at hinv hz1 ⊢
  cases ok with
  | false =>
    obtain ⟨g1, g2, g3, g4⟩ := hinv
    subst g4
    repeat' (
      (conv => whnf)
      first
      | refine Or.inl ?_
      | refine And.intro (Obl.out (?_ : Obl _)) ?_
      | refine ifB_intro (fun h => ?_) (fun h => ?_)
      | refine Exists.intro _ (And.intro rfl ?_)
      | ((with_reducible show _ = _); rfl))
    all_goals try (
      (with_reducible refine Obl.mk ?_)
      first
      | ((with_reducible show regOk _ _ = true); kernel_rfl)
      | ((with_reducible show eqTyOk _ _ = true); kernel_rfl)
      | rfl
      | exact trivial
      | ((repeat' (first | exact trivial | refine And.intro ?_ ?_)); done)
      | decide
      | (intro r hr; simp only [List.mem_cons, List.not_mem_nil, or_false] at hr; first | (subst hr; rfl) | (rcases hr with rfl | rfl <;> rfl) | (rcases hr with rfl | rfl | rfl <;> rfl) | (rcases hr with rfl | rfl | rfl | rfl <;> rfl))
      | (refine And.intro ?_ ?_ <;> simp only [List.length_map, List.length_append, List.length_cons, List.length_nil] <;> omega))
    all_goals simp at *
  | true =>
    by_cases hk : (k : Int) < decN (dec s p)
    · have hnext := up_step hinv hk
      have hz2 := dec_size (s := s) (p := ((p.toNat + z : Nat) : Int))
      obtain ⟨g1, g2, g3, g4, g5, g6, g7⟩ := hinv
      have e : IntKind.i64.wrap (p + z) = ((p.toNat + z : Nat) : Int) := by rw [IntWalk.i64_in _ (by omega)]; omega
      have hD := s_spec_DecodeVarint s _ hs (wrap64_le (p + z))
      repeat' (
        (conv => whnf)
        first
        | refine Or.inl ?_
        | refine And.intro (Obl.out (?_ : Obl _)) ?_
        | refine ifB_intro (fun h => ?_) (fun h => ?_)
        | refine call_intro (hD) (And.intro rfl (And.intro rfl trivial)) ?_
        | refine call_intro (s_spec_Signed _) (And.intro rfl trivial) ?_
        | refine Exists.intro _ (And.intro rfl ?_)
        | ((with_reducible show _ = _); rfl))
      all_goals try (
        (with_reducible refine Obl.mk ?_)
        first
        | ((with_reducible show regOk _ _ = true); kernel_rfl)
        | ((with_reducible show eqTyOk _ _ = true); kernel_rfl)
        | rfl
        | exact trivial
        | ((repeat' (first | exact trivial | refine And.intro ?_ ?_)); done)
        | decide
        | (intro r hr; simp only [List.mem_cons, List.not_mem_nil, or_false] at hr; first | (subst hr; rfl) | (rcases hr with rfl | rfl <;> rfl) | (rcases hr with rfl | rfl | rfl <;> rfl) | (rcases hr with rfl | rfl | rfl | rfl <;> rfl))
        | (refine And.intro ?_ ?_ <;> simp only [List.length_map, List.length_append, List.length_cons, List.length_nil] <;> omega))
      all_goals try exact absurd hk (of_decide_eq_false h)
      conv => whnf
      rw [e]
      refine ⟨⟨(k + 1, z + (decK (dec s ((p.toNat + z : Nat) : Int))).toNat, (dec s ((p.toNat + z : Nat) : Int)).isSome, acc ++ [signed (decN (dec s ((p.toNat + z : Nat) : Int)))]), hnext, by dsimp only; omega⟩, ?_, by dsimp only; omega⟩
      repeat' (
        (conv => whnf)
        first
        | refine Or.inl ?_
        | refine And.intro (Obl.out (?_ : Obl _)) ?_
        | refine ifB_intro (fun h => ?_) (fun h => ?_)
        | refine Exists.intro _ (And.intro rfl ?_)
        | ((with_reducible show _ = _); rfl))
      all_goals try (
        (with_reducible refine Obl.mk ?_)
        first
        | ((with_reducible show regOk _ _ = true); kernel_rfl)
        | ((with_reducible show eqTyOk _ _ = true); kernel_rfl)
        | rfl
        | exact trivial
        | ((repeat' (first | exact trivial | refine And.intro ?_ ?_)); done)
        | decide
        | (intro r hr; simp only [List.mem_cons, List.not_mem_nil, or_false] at hr; first | (subst hr; rfl) | (rcases hr with rfl | rfl <;> rfl) | (rcases hr with rfl | rfl | rfl <;> rfl) | (rcases hr with rfl | rfl | rfl | rfl <;> rfl))
        | (refine And.intro ?_ ?_ <;> simp only [List.length_map, List.length_append, List.length_cons, List.length_nil] <;> omega))
      · exact ⟨congrArg (Tr.int _) (by dsimp only; rw [IntWalk.i64_in _ (by omega)]; omega)⟩
      · exact ⟨congrArg (Tr.int _) (by dsimp only; rw [IntWalk.i64_in _ (by omega)]; omega)⟩
      · exact ⟨by simp [intRow]⟩
    · have hend := up_end hinv (by omega)
      subst hend
      repeat' (
        (conv => whnf)
        first
        | refine Or.inl ?_
        | refine And.intro (Obl.out (?_ : Obl _)) ?_
        | refine ifB_intro (fun h => ?_) (fun h => ?_)
        | refine Exists.intro _ (And.intro rfl ?_)
        | ((with_reducible show _ = _); rfl))
      all_goals try (
        (with_reducible refine Obl.mk ?_)
        first
        | ((with_reducible show regOk _ _ = true); kernel_rfl)
        | ((with_reducible show eqTyOk _ _ = true); kernel_rfl)
        | rfl
        | exact trivial
        | ((repeat' (first | exact trivial | refine And.intro ?_ ?_)); done)
        | decide
        | (intro r hr; simp only [List.mem_cons, List.not_mem_nil, or_false] at hr; first | (subst hr; rfl) | (rcases hr with rfl | rfl <;> rfl) | (rcases hr with rfl | rfl | rfl <;> rfl) | (rcases hr with rfl | rfl | rfl | rfl <;> rfl))
        | (refine And.intro ?_ ?_ <;> simp only [List.length_map, List.length_append, List.length_cons, List.length_nil] <;> omega))
      all_goals (exfalso; simp only [decide_eq_true_eq] at *; omega)
theorem up_big {s : List UInt8} {p : Int} (h : (s.length : Int) < decN (dec s p)) : unpackInts s p = none := by
  match hu : unpackInts s p with
  | none => rfl
  | some y =>
    exfalso
    match hd : dec s p with
    | none => rw [hd] at h; simp [decN] at h; omega
    | some (a, b) =>
      have := dec_some hd
      rw [unpackInts, hd] at hu
      have := unpackL_len hu
      rw [hd] at h
      simp only [decN] at h
      dsimp only at *
      omega
abbrev UpIy (s : List UInt8) (p : Int) (R : Option (List Int × Nat)) := { q : Nat × Nat × List Int // UpInv s p R (decN (dec s p)) q.1 q.2.1 true q.2.2 ∧ q.2.1 ≤ 2000000 }
theorem s_impl_UnpackInts (s : List UInt8) (p : Int) (hs : s.length ≤ 1048576) (hp : p ≤ 9223372036854775807) : Sim.Spec Try.prog 171 [tvS s, tvI p] (rUnp (unpackInts s p)) := by
  have hz := dec_size (s := s) (p := p)
  have hst := up_start (s := s) (p := p)
  have hbig := up_big (s := s) (p := p)
  obtain ⟨R, hR⟩ : ∃ R, unpackInts s p = R := ⟨_, rfl⟩
  rw [hR] at hst hbig ⊢
  refine spec_of_W hΓ hmix Try.func171 rfl (by decide) rfl ?_
  repeat' (
    (conv => whnf)
    first
    | refine Or.inl ?_
    | refine And.intro (Obl.out (?_ : Obl _)) ?_
    | refine ifB_intro (fun h => ?_) (fun h => ?_)
    | refine call_intro ((s_impl_DecodeVarint s p hs)) (And.intro rfl (And.intro rfl trivial)) ?_
    | refine Exists.intro _ (And.intro rfl ?_)
    | ((with_reducible show _ = _); rfl))
  all_goals try (
    (with_reducible refine Obl.mk ?_)
    first
    | ((with_reducible show regOk _ _ = true); kernel_rfl)
    | ((with_reducible show eqTyOk _ _ = true); kernel_rfl)
    | rfl
    | exact trivial
    | ((repeat' (first | exact trivial | refine And.intro ?_ ?_)); done)
    | decide
    | (intro r hr; simp only [List.mem_cons, List.not_mem_nil, or_false] at hr; first | (subst hr; rfl) | (rcases hr with rfl | rfl <;> rfl) | (rcases hr with rfl | rfl | rfl <;> rfl) | (rcases hr with rfl | rfl | rfl | rfl <;> rfl))
    | (refine And.intro ?_ ?_ <;> simp only [List.length_map, List.length_append, List.length_cons, List.length_nil] <;> omega))
  all_goals try (
    have hn := hbig (of_decide_eq_true h)
    subst hn
    exact ⟨rfl⟩)
  all_goals try (
    have hn : (dec s p).isSome = false := by simpa using h
    rw [hn] at hst
    have hn := hst.2.2.2
    subst hn
    exact ⟨rfl⟩)
  have hok : (dec s p).isSome = true := by simp at *; assumption
  rw [hok] at hst
  conv => whnf
  refine ⟨UpIy s p R, fun q => ⟨[(0, tS s), (1, tI .i64 p), (7, tI .i64 (decN (dec s p))), (8, tI .i64 (q.1.2.1 : Int)), (10, .r (.c (.own (10, 0, 0)))), (11, tI .i64 (q.1.1 : Int))], [((10, 0, 0), some (.arr true 1 (q.1.2.2.map intRow)))], [10]⟩, fun q => (decN (dec s p)).toNat - q.1.1, ⟨(0, (decK (dec s p)).toNat, []), hst, by dsimp only; omega⟩, ?_, ?_⟩
  · skip
    repeat' (
      (conv => whnf)
      first
      | refine Or.inl ?_
      | refine And.intro (Obl.out (?_ : Obl _)) ?_
      | refine ifB_intro (fun h => ?_) (fun h => ?_)
      | refine Exists.intro _ (And.intro rfl ?_)
      | ((with_reducible show _ = _); rfl))
    all_goals try (
      (with_reducible refine Obl.mk ?_)
      first
      | ((with_reducible show regOk _ _ = true); kernel_rfl)
      | ((with_reducible show eqTyOk _ _ = true); kernel_rfl)
      | rfl
      | exact trivial
      | ((repeat' (first | exact trivial | refine And.intro ?_ ?_)); done)
      | decide
      | (intro r hr; simp only [List.mem_cons, List.not_mem_nil, or_false] at hr; first | (subst hr; rfl) | (rcases hr with rfl | rfl <;> rfl) | (rcases hr with rfl | rfl | rfl <;> rfl) | (rcases hr with rfl | rfl | rfl | rfl <;> rfl))
      | (refine And.intro ?_ ?_ <;> simp only [List.length_map, List.length_append, List.length_cons, List.length_nil] <;> omega))
    exact ⟨by dsimp only; rw [Int.toNat_of_nonneg hz.2.2.1]⟩
  intro ⟨⟨k, z, acc⟩, hinv, hz1⟩
  dsimp only at hinv hz1 ⊢
  by_cases hk : (k : Int) < decN (dec s p)
  · have hnext := up_step hinv hk
    have hz2 := dec_size (s := s) (p := ((p.toNat + z : Nat) : Int))
    obtain ⟨g1, g2, g3, g4, g5, g6, g7⟩ := hinv
    have e : IntKind.i64.wrap (p + z) = ((p.toNat + z : Nat) : Int) := by rw [IntWalk.i64_in _ (by omega)]; omega
    have hD := s_impl_DecodeVarint s (IntKind.i64.wrap (p + z)) hs
    repeat' (
      (conv => whnf)
      first
      | refine Or.inl ?_
      | refine And.intro (Obl.out (?_ : Obl _)) ?_
      | refine ifB_intro (fun h => ?_) (fun h => ?_)
      | refine call_intro (hD) (And.intro rfl (And.intro rfl trivial)) ?_
      | refine call_intro (s_impl_Signed _) (And.intro rfl trivial) ?_
      | refine Exists.intro _ (And.intro rfl ?_)
      | ((with_reducible show _ = _); rfl))
    all_goals try (
      (with_reducible refine Obl.mk ?_)
      first
      | ((with_reducible show regOk _ _ = true); kernel_rfl)
      | ((with_reducible show eqTyOk _ _ = true); kernel_rfl)
      | rfl
      | exact trivial
      | ((repeat' (first | exact trivial | refine And.intro ?_ ?_)); done)
      | decide
      | (intro r hr; simp only [List.mem_cons, List.not_mem_nil, or_false] at hr; first | (subst hr; rfl) | (rcases hr with rfl | rfl <;> rfl) | (rcases hr with rfl | rfl | rfl <;> rfl) | (rcases hr with rfl | rfl | rfl | rfl <;> rfl))
      | (refine And.intro ?_ ?_ <;> simp only [List.length_map, List.length_append, List.length_cons, List.length_nil] <;> omega))
    all_goals try exact absurd hk (of_decide_eq_false (by assumption))
    all_goals try (
      rw [e] at h
      have hn : (dec s ((p.toNat + z : Nat) : Int)).isSome = false := by simpa using h
      rw [hn] at hnext
      have hn := hnext.2.2.2
      subst hn
      exact ⟨rfl⟩)
    conv => whnf
    rw [e] at h ⊢
    have hn : (dec s ((p.toNat + z : Nat) : Int)).isSome = true := by simpa using h
    rw [hn] at hnext
    refine ⟨⟨(k + 1, z + (decK (dec s ((p.toNat + z : Nat) : Int))).toNat, acc ++ [signed (decN (dec s ((p.toNat + z : Nat) : Int)))]), hnext, by dsimp only; obtain ⟨_, _, _, _, h5, _⟩ := hnext; omega⟩, ?_, by dsimp only; omega⟩
    repeat' (
      (conv => whnf)
      first
      | refine Or.inl ?_
      | refine And.intro (Obl.out (?_ : Obl _)) ?_
      | refine ifB_intro (fun h => ?_) (fun h => ?_)
      | refine Exists.intro _ (And.intro rfl ?_)
      | ((with_reducible show _ = _); rfl))
    all_goals try (
      (with_reducible refine Obl.mk ?_)
      first
      | ((with_reducible show regOk _ _ = true); kernel_rfl)
      | ((with_reducible show eqTyOk _ _ = true); kernel_rfl)
      | rfl
      | exact trivial
      | ((repeat' (first | exact trivial | refine And.intro ?_ ?_)); done)
      | decide
      | (intro r hr; simp only [List.mem_cons, List.not_mem_nil, or_false] at hr; first | (subst hr; rfl) | (rcases hr with rfl | rfl <;> rfl) | (rcases hr with rfl | rfl | rfl <;> rfl) | (rcases hr with rfl | rfl | rfl | rfl <;> rfl))
      | (refine And.intro ?_ ?_ <;> simp only [List.length_map, List.length_append, List.length_cons, List.length_nil] <;> omega))
    · exact ⟨congrArg (Tr.int _) (by dsimp only; rw [IntWalk.i64_in _ (by omega)]; omega)⟩
    · exact ⟨congrArg (Tr.int _) (by dsimp only; rw [IntWalk.i64_in _ (by omega)]; omega)⟩
    · exact ⟨by simp [intRow]⟩
  · have hend := up_end hinv (by omega)
    subst hend
    repeat' (
      (conv => whnf)
      first
      | refine Or.inl ?_
      | refine And.intro (Obl.out (?_ : Obl _)) ?_
      | refine ifB_intro (fun h => ?_) (fun h => ?_)
      | refine Exists.intro _ (And.intro rfl ?_)
      | ((with_reducible show _ = _); rfl))
    all_goals try (
      (with_reducible refine Obl.mk ?_)
      first
      | ((with_reducible show regOk _ _ = true); kernel_rfl)
      | ((with_reducible show eqTyOk _ _ = true); kernel_rfl)
      | rfl
      | exact trivial
      | ((repeat' (first | exact trivial | refine And.intro ?_ ?_)); done)
      | decide
      | (intro r hr; simp only [List.mem_cons, List.not_mem_nil, or_false] at hr; first | (subst hr; rfl) | (rcases hr with rfl | rfl <;> rfl) | (rcases hr with rfl | rfl | rfl <;> rfl) | (rcases hr with rfl | rfl | rfl | rfl <;> rfl))
      | (refine And.intro ?_ ?_ <;> simp only [List.length_map, List.length_append, List.length_cons, List.length_nil] <;> omega))
    all_goals (exfalso; simp only [decide_eq_true_eq] at *; omega)
theorem byte_ofNat {m : Nat} (h : m < 256) : (UInt8.ofNat m).toNat = m := by simp; omega
theorem decL_enc {s rest : List UInt8} {p n : Nat} (hn : n ≤ 1099511627775) (hs : s.drop p = encN n ++ rest) :
    ∀ (f k m acc : Nat), f + k = 6 → k + (encN m).length ≤ 6 → s.drop (p + k) = encN m ++ rest → acc + m * 128 ^ k = n → (encN n).length = k + (encN m).length → decL s p f k acc = some (n, (encN n).length)
  | 0, k, m, acc, hf, hk, hd, hacc, hlen => by have := encN_pos m; omega
  | f + 1, k, m, acc, hf, hk, hd, hacc, hlen => by
    rw [encN.eq_def m] at hd hk hlen
    have henc : enc (n : Int) = encN n := by rw [enc, if_pos (within_iff.2 ⟨by omega, by omega⟩), Int.toNat_natCast]
    by_cases hm : m ≤ 127
    · rw [if_pos hm] at hd hk hlen
      have hb : s[p + k]? = some (UInt8.ofNat m) := by
        have := congrArg (fun l => l[0]?) hd
        simpa [List.getElem?_drop] using this
      have h1 : (UInt8.ofNat m).toNat = m := byte_ofNat (by omega)
      rw [decL, hb]
      dsimp only
      rw [h1, if_neg (by omega), show acc + m % 128 * 128 ^ k = n by rw [Nat.mod_eq_of_lt (by omega)]; exact hacc, henc, hs]
      simp only [List.length_cons, List.length_nil] at hlen
      rw [List.take_append_of_le_length (by omega), List.take_of_length_le (by omega), if_pos rfl, hlen]
    · rw [if_neg hm] at hd hk hlen
      have hb : s[p + k]? = some (UInt8.ofNat (m % 128 + 128)) := by
        have := congrArg (fun l => l[0]?) hd
        simpa [List.getElem?_drop] using this
      have h1 : (UInt8.ofNat (m % 128 + 128)).toNat = m % 128 + 128 := byte_ofNat (by omega)
      rw [decL, hb]
      dsimp only
      rw [h1, if_pos (by omega)]
      simp only [List.length_cons] at hk hlen
      refine decL_enc hn hs f (k + 1) (m / 128) _ (by omega) (by omega) ?_ ?_ (by omega)
      · have := congrArg (List.drop 1) hd
        rw [List.drop_drop] at this
        simpa [Nat.add_assoc] using this
      · rw [show (m % 128 + 128) % 128 = m % 128 by omega, ← hacc, Nat.pow_succ, Nat.add_assoc]
        congr 1
        have h3 : m / 128 * (128 ^ k * 128) = 128 * (m / 128) * 128 ^ k := by rw [Nat.mul_comm (128 ^ k), ← Nat.mul_assoc, Nat.mul_comm (m / 128)]
        rw [h3, ← Nat.add_mul]
        congr 1
        omega
theorem dec_at {s rest : List UInt8} {p : Nat} {n : Int} (h0 : 0 ≤ n) (h1 : n ≤ 1099511627775) (hs : s.drop p = enc n ++ rest) : dec s (p : Int) = some (n.toNat, (enc n).length) := by
  obtain ⟨m, rfl⟩ := Int.eq_ofNat_of_zero_le h0
  have henc : enc (m : Int) = encN m := by rw [enc, if_pos (within_iff.2 ⟨by omega, by omega⟩), Int.toNat_natCast]
  have hl := enc_len (m : Int)
  rw [henc] at hs hl ⊢
  rw [dec, if_neg (by omega), Int.toNat_natCast, Int.toNat_natCast]
  exact decL_enc (by omega) hs 6 0 m 0 rfl (by omega) (by simpa using hs) (by omega) (by omega)
def inSign (n : Int) : Prop := -549755813888 ≤ n ∧ n ≤ 549755813887
theorem signless_range {n : Int} (h : inSign n) : 0 ≤ signless n ∧ signless n ≤ 1099511627775 ∧ signed (signless n) = n := by
  obtain ⟨h1, h2⟩ := h
  rw [signless, if_pos (within_iff.2 ⟨h1, h2⟩)]
  split
  · refine ⟨by omega, by omega, ?_⟩
    rw [signed, if_pos (within_iff.2 ⟨by omega, by omega⟩), if_pos (by omega)]
    omega
  · refine ⟨by omega, by omega, ?_⟩
    rw [signed, if_pos (within_iff.2 ⟨by omega, by omega⟩), if_neg (by omega)]
    omega
theorem packL_some : ∀ {l : List Int}, (∀ n ∈ l, inSign n) → ∃ bs, packL l = some bs
  | [], _ => ⟨[], rfl⟩
  | n :: l, h => by
    obtain ⟨bs, hb⟩ := packL_some (l := l) fun x hx => h x (by simp [hx])
    have := signless_range (h n (by simp))
    exact ⟨enc (signless n) ++ bs, by rw [packL, if_neg (by omega), hb]; rfl⟩
theorem unpackL_at {s rest : List UInt8} {p : Nat} : ∀ {l : List Int} {bs : List UInt8} {z : Nat}, (∀ n ∈ l, inSign n) → packL l = some bs → s.drop (p + z) = bs ++ rest → unpackL s p l.length z = some (l, z + bs.length)
  | [], bs, z, _, hp, hs => by
    rw [packL] at hp
    injection hp with hp
    subst hp
    rfl
  | n :: l, bs, z, h, hp, hs => by
    have hr := signless_range (h n (by simp))
    rw [packL, if_neg (by omega)] at hp
    rw [Option.map_eq_some_iff] at hp
    obtain ⟨bs', hp', rfl⟩ := hp
    rw [List.append_assoc] at hs
    rw [List.length_cons, unpackL, dec_at hr.1 hr.2.1 hs]
    dsimp only
    have hrec := unpackL_at (l := l) (z := z + (enc (signless n)).length) (p := p) (s := s) (rest := rest) (fun x hx => h x (by simp [hx])) hp' (by
      have := congrArg (List.drop (enc (signless n)).length) hs
      rw [List.drop_drop, List.drop_left] at this
      rw [← this, Nat.add_assoc])
    rw [hrec]
    simp only [Option.map_some, List.length_append]
    rw [Int.toNat_of_nonneg hr.1, hr.2.2, Nat.add_assoc]
theorem unpack_at {s rest : List UInt8} {p : Nat} {l : List Int} (h : ∀ n ∈ l, inSign n) (hl : l.length ≤ 1099511627775) (hs : s.drop p = packInts l ++ rest) : unpackInts s (p : Int) = some (l, (packInts l).length) := by
  obtain ⟨bs, hb⟩ := packL_some h
  rw [packInts, hb] at hs ⊢
  dsimp only at hs ⊢
  rw [List.append_assoc] at hs
  rw [unpackInts, dec_at (n := l.length) (by omega) (by omega) hs]
  dsimp only
  rw [Int.toNat_natCast, Int.toNat_natCast, unpackL_at (rest := rest) h hb (by
    have := congrArg (List.drop (enc (l.length : Int)).length) hs
    rw [List.drop_drop, List.drop_left] at this
    exact this), List.length_append]
theorem packL_len : ∀ {l : List Int} {bs : List UInt8}, packL l = some bs → bs.length ≤ 6 * l.length
  | [], bs, h => by rw [packL] at h; injection h with h; subst h; simp
  | n :: l, bs, h => by
    rw [packL] at h
    split at h
    · cases h
    · rw [Option.map_eq_some_iff] at h
      obtain ⟨b', hb', rfl⟩ := h
      have := packL_len hb'
      have := enc_len (signless n)
      simp only [List.length_append, List.length_cons]
      omega
end Go.Proofs.Ytflolafbblohnaa
