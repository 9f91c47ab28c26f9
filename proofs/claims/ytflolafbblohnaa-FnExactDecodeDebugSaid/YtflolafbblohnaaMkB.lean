/- The laws' helpers that mark what they are handed, and look for the marks; copies that are owned to the bottom. -/
import Derived.Test.YtflolafbblohnaaMkA
import Derived.Test.YtflolafbblohnaaTyB
namespace Go.Proofs.Ytflolafbblohnaa
open Go.Sim Go.RowKit
set_option maxRecDepth 100000
set_option maxHeartbeats 4000000
theorem dig_byte (m : Nat) : IntKind.u8.wrap (IntKind.i64.wrap (48 + (m : Int).tmod 10)) = ((UInt8.ofNat (48 + m % 10)).toNat : Int) := by
  rw [Int.tmod_eq_emod_of_nonneg (by omega), IntWalk.i64_in _ (by omega), IntWalk.u8_in _ (by omega)]
  simp
  omega
theorem dig_div (m : Nat) (h : m ≤ 9223372036854775807) : IntKind.i64.wrap ((m : Int).tdiv 10) = ((m / 10 : Nat) : Int) := by
  rw [Int.tdiv_eq_ediv_of_nonneg (by omega), IntWalk.i64_in _ (by omega)]
  omega
theorem s_laws_markText (k : Int) (hk : k ≤ 9223372036854775807) : Sim.Spec Try.prog 121 [tvI k] (rS (mText k)) := by
  refine spec_of_W hΓ hmix Try.func121 rfl (by decide) rfl ?_
  repeat' (
    (conv => whnf)
    first
    | refine Or.inl ?_
    | refine And.intro (Obl.out (?_ : Obl _)) ?_
    | refine ifB_intro (fun h => ?_) (fun h => ?_)
    | refine Exists.intro _ (And.intro rfl ?_)
    | ((with_reducible show _ = _); rfl))
  all_goals try (
    (with_reducible refine Obl.mk ?_)
    first
    | ((with_reducible show regOk _ _ = true); kernel_rfl)
    | ((with_reducible show eqTyOk _ _ = true); kernel_rfl)
    | rfl
    | exact trivial
    | ((repeat' (first | exact trivial | refine And.intro ?_ ?_)); done)
    | decide
    | (intro r hr; simp only [List.mem_cons, List.not_mem_nil, or_false] at hr; first | (subst hr; rfl) | (rcases hr with rfl | rfl <;> rfl) | (rcases hr with rfl | rfl | rfl <;> rfl) | (rcases hr with rfl | rfl | rfl | rfl <;> rfl))
    | (refine And.intro ?_ ?_ <;> simp only [List.length_map, List.length_append, List.length_cons, List.length_nil] <;> omega))
  · exact ⟨by rw [mText, if_pos (of_decide_eq_true h)]⟩
  have h0 : ¬ k ≤ 0 := of_decide_eq_false h
  clear h
  rw [mText, if_neg h0]
  obtain ⟨n, rfl⟩ := Int.eq_ofNat_of_zero_le (show 0 ≤ k by omega)
  conv => whnf
  refine ⟨{ q : Nat × List UInt8 // digs q.1 q.2 = digs n [] ∧ q.1 * 10 ^ q.2.length ≤ 9223372036854775807 ∧ q.2.length ≤ 20 }, fun q => ⟨[(0, tI .i64 (q.1.1 : Nat)), (3, tS q.1.2)], [], []⟩, fun q => q.1.1, ⟨(n, []), by simp, by simp; omega, by simp⟩, ?_, ?_⟩
  · skip
    repeat' (
      (conv => whnf)
      first
      | refine Or.inl ?_
      | refine And.intro (Obl.out (?_ : Obl _)) ?_
      | refine ifB_intro (fun h => ?_) (fun h => ?_)
      | refine Exists.intro _ (And.intro rfl ?_)
      | ((with_reducible show _ = _); rfl))
    all_goals try (
      (with_reducible refine Obl.mk ?_)
      first
      | ((with_reducible show regOk _ _ = true); kernel_rfl)
      | ((with_reducible show eqTyOk _ _ = true); kernel_rfl)
      | rfl
      | exact trivial
      | ((repeat' (first | exact trivial | refine And.intro ?_ ?_)); done)
      | decide
      | (intro r hr; simp only [List.mem_cons, List.not_mem_nil, or_false] at hr; first | (subst hr; rfl) | (rcases hr with rfl | rfl <;> rfl) | (rcases hr with rfl | rfl | rfl <;> rfl) | (rcases hr with rfl | rfl | rfl | rfl <;> rfl))
      | (refine And.intro ?_ ?_ <;> simp only [List.length_map, List.length_append, List.length_cons, List.length_nil] <;> omega))
  intro ⟨⟨m, o⟩, hd, hb, hl⟩
  dsimp only at hd hb hl ⊢
  have hm : m ≤ 9223372036854775807 := Nat.le_trans (Nat.le_mul_of_pos_right m (Nat.pow_pos (by omega))) hb
  repeat' (
    (conv => whnf)
    first
    | refine Or.inl ?_
    | refine And.intro (Obl.out (?_ : Obl _)) ?_
    | refine ifB_intro (fun h => ?_) (fun h => ?_)
    | refine Exists.intro _ (And.intro rfl ?_)
    | ((with_reducible show _ = _); rfl))
  all_goals try (
    (with_reducible refine Obl.mk ?_)
    first
    | ((with_reducible show regOk _ _ = true); kernel_rfl)
    | ((with_reducible show eqTyOk _ _ = true); kernel_rfl)
    | rfl
    | exact trivial
    | ((repeat' (first | exact trivial | refine And.intro ?_ ?_)); done)
    | decide
    | (intro r hr; simp only [List.mem_cons, List.not_mem_nil, or_false] at hr; first | (subst hr; rfl) | (rcases hr with rfl | rfl <;> rfl) | (rcases hr with rfl | rfl | rfl <;> rfl) | (rcases hr with rfl | rfl | rfl | rfl <;> rfl))
    | (refine And.intro ?_ ?_ <;> simp only [List.length_map, List.length_append, List.length_cons, List.length_nil] <;> omega))
  all_goals try exact ⟨fun r hr => by simp at hr; subst hr; rfl⟩
  all_goals try exact ⟨by simp; omega⟩
  · have hmp : 0 < m := by have := of_decide_eq_true h; omega
    have hl18 : o.length ≤ 18 := by
      rcases Nat.lt_or_ge 18 o.length with h' | h'
      · have h1 : 10 ^ 19 ≤ 10 ^ o.length := Nat.pow_le_pow_right (by omega) h'
        have h2 : 10 ^ o.length ≤ m * 10 ^ o.length := Nat.le_mul_of_pos_left _ hmp
        omega
      · exact h'
    conv => whnf
    refine ⟨[UInt8.ofNat (48 + m % 10)], by rw [dig_byte]; rfl, ?_⟩
    repeat' (
      (conv => whnf)
      first
      | refine Or.inl ?_
      | refine And.intro (Obl.out (?_ : Obl _)) ?_
      | refine ifB_intro (fun h => ?_) (fun h => ?_)
      | refine Exists.intro _ (And.intro rfl ?_)
      | ((with_reducible show _ = _); rfl))
    all_goals try (
      (with_reducible refine Obl.mk ?_)
      first
      | ((with_reducible show regOk _ _ = true); kernel_rfl)
      | ((with_reducible show eqTyOk _ _ = true); kernel_rfl)
      | rfl
      | exact trivial
      | ((repeat' (first | exact trivial | refine And.intro ?_ ?_)); done)
      | decide
      | (intro r hr; simp only [List.mem_cons, List.not_mem_nil, or_false] at hr; first | (subst hr; rfl) | (rcases hr with rfl | rfl <;> rfl) | (rcases hr with rfl | rfl | rfl <;> rfl) | (rcases hr with rfl | rfl | rfl | rfl <;> rfl))
      | (refine And.intro ?_ ?_ <;> simp only [List.length_map, List.length_append, List.length_cons, List.length_nil] <;> omega))
    all_goals try exact ⟨by simp; omega⟩
    conv => whnf
    refine ⟨⟨(m / 10, UInt8.ofNat (48 + m % 10) :: o), by rw [← hd, digs.eq_def m, if_neg (by omega)], ?_, by simp; omega⟩, ?_, by dsimp only; omega⟩
    · dsimp only
      rw [List.length_cons, Nat.pow_succ]
      have h1 : m / 10 * 10 ≤ m := Nat.div_mul_le_self m 10
      have h2 := Nat.mul_le_mul_right (10 ^ o.length) h1
      rw [Nat.mul_comm (10 ^ o.length) 10, ← Nat.mul_assoc]
      omega
    repeat' (
      (conv => whnf)
      first
      | refine Or.inl ?_
      | refine And.intro (Obl.out (?_ : Obl _)) ?_
      | refine ifB_intro (fun h => ?_) (fun h => ?_)
      | refine Exists.intro _ (And.intro rfl ?_)
      | ((with_reducible show _ = _); rfl))
    all_goals try (
      (with_reducible refine Obl.mk ?_)
      first
      | ((with_reducible show regOk _ _ = true); kernel_rfl)
      | ((with_reducible show eqTyOk _ _ = true); kernel_rfl)
      | rfl
      | exact trivial
      | ((repeat' (first | exact trivial | refine And.intro ?_ ?_)); done)
      | decide
      | (intro r hr; simp only [List.mem_cons, List.not_mem_nil, or_false] at hr; first | (subst hr; rfl) | (rcases hr with rfl | rfl <;> rfl) | (rcases hr with rfl | rfl | rfl <;> rfl) | (rcases hr with rfl | rfl | rfl | rfl <;> rfl))
      | (refine And.intro ?_ ?_ <;> simp only [List.length_map, List.length_append, List.length_cons, List.length_nil] <;> omega))
    exact ⟨by dsimp only; rw [dig_div m hm]⟩
  · have hm0 : m = 0 := by have := of_decide_eq_false h; omega
    subst hm0
    rw [digs, if_pos rfl] at hd
    exact ⟨by rw [hd]; rfl⟩
theorem g_laws_markSymbolS (xs : List (TSymbol)) (k : Int) (hk0 : 0 ≤ k) (hl : xs.length ≤ 1099511627776) (hk : k + (cnRs (xs.map TSymbol.tr) : Nat) ≤ 4611686018427387904) : SpecG Try.prog 96 [.r (.c (.own (0, 0, 0))), tI .i64 k] [((0, 0, 0), .arr false 3 (xs.map TSymbol.tr))] (tI .i64 (k + (cnRs (xs.map TSymbol.tr) : Nat))) [((0, 0, 0), .arr false 3 (mkRs (xs.map TSymbol.tr) k))] := by
  refine specG_of_W hΓ hmix Try.func96 rfl (by decide) rfl rfl ?_
  repeat' (
    (conv => whnf)
    first
    | refine Or.inl ?_
    | refine And.intro (Obl.out (?_ : Obl _)) ?_
    | refine ifB_intro (fun h => ?_) (fun h => ?_)
    | refine Exists.intro _ (And.intro rfl ?_)
    | ((with_reducible show _ = _); rfl))
  all_goals try (
    (with_reducible refine Obl.mk ?_)
    first
    | ((with_reducible show regOk _ _ = true); kernel_rfl)
    | ((with_reducible show eqTyOk _ _ = true); kernel_rfl)
    | rfl
    | exact trivial
    | ((repeat' (first | exact trivial | refine And.intro ?_ ?_)); done)
    | decide
    | (intro r hr; simp only [List.mem_cons, List.not_mem_nil, or_false] at hr; first | (subst hr; rfl) | (rcases hr with rfl | rfl <;> rfl) | (rcases hr with rfl | rfl | rfl <;> rfl) | (rcases hr with rfl | rfl | rfl | rfl <;> rfl))
    | (refine And.intro ?_ ?_ <;> simp only [List.length_map, List.length_append, List.length_cons, List.length_nil] <;> omega))
  conv => whnf
  refine ⟨{ q : List (TSymbol) × List (TSymbol) // q.1 ++ q.2 = xs }, fun q => ⟨[(0, .r (.c (.own (0, 0, 0)))), (1, tI .i64 (k + (cnRs (q.1.1.map TSymbol.tr) : Nat))), (5, tI .i64 (q.1.1.length : Nat))], [((0, 0, 0), some (.arr false 3 (mkRs (q.1.1.map TSymbol.tr) k ++ q.1.2.map TSymbol.tr)))], [0]⟩, fun q => q.1.2.length, ⟨([], xs), rfl⟩, ?_, ?_⟩
  · skip
    repeat' (
      (conv => whnf)
      first
      | refine Or.inl ?_
      | refine And.intro (Obl.out (?_ : Obl _)) ?_
      | refine ifB_intro (fun h => ?_) (fun h => ?_)
      | refine Exists.intro _ (And.intro rfl ?_)
      | ((with_reducible show _ = _); rfl))
    all_goals try (
      (with_reducible refine Obl.mk ?_)
      first
      | ((with_reducible show regOk _ _ = true); kernel_rfl)
      | ((with_reducible show eqTyOk _ _ = true); kernel_rfl)
      | rfl
      | exact trivial
      | ((repeat' (first | exact trivial | refine And.intro ?_ ?_)); done)
      | decide
      | (intro r hr; simp only [List.mem_cons, List.not_mem_nil, or_false] at hr; first | (subst hr; rfl) | (rcases hr with rfl | rfl <;> rfl) | (rcases hr with rfl | rfl | rfl <;> rfl) | (rcases hr with rfl | rfl | rfl | rfl <;> rfl))
      | (refine And.intro ?_ ?_ <;> simp only [List.length_map, List.length_append, List.length_cons, List.length_nil] <;> omega))
    all_goals exact ⟨by first | rfl | simp [cnRs, mkRs]⟩
  intro ⟨⟨a, b⟩, hab⟩
  dsimp only at hab ⊢
  have hal : a.length + b.length ≤ 1099511627776 := by rw [← List.length_append, hab]; exact hl
  have hsum : k + (cnRs (a.map TSymbol.tr) : Nat) + (cnRs (b.map TSymbol.tr) : Nat) = k + (cnRs (xs.map TSymbol.tr) : Nat) := by rw [← hab, List.map_append, cnRs_append]; omega
  have hall : mkRs (xs.map TSymbol.tr) k = mkRs (a.map TSymbol.tr) k ++ mkRs (b.map TSymbol.tr) (k + (cnRs (a.map TSymbol.tr) : Nat)) := by rw [← hab, List.map_append, mkRs_append]
  have hDl : (mkRs (a.map TSymbol.tr) k).length = a.length := by rw [mkRs_length, List.length_map]
  generalize hR : mkRs (a.map TSymbol.tr) k ++ b.map TSymbol.tr = R
  have hRl : R.length = a.length + b.length := by rw [← hR]; simp [hDl]
  generalize hK : k + (cnRs (a.map TSymbol.tr) : Nat) = K at hsum hall ⊢
  generalize hD : mkRs (a.map TSymbol.tr) k = D at hR hall hDl
  generalize hT : mkRs (xs.map TSymbol.tr) k = T at hall ⊢
  generalize hC : k + (cnRs (xs.map TSymbol.tr) : Nat) = C at hk hsum ⊢
  have hK0 : 0 ≤ K := by omega
  rcases hb : b with _ | ⟨x, b2⟩
  all_goals rw [hb] at hR hall hsum hRl hal
  · have hKC : K = C := by simpa [cnRs] using hsum
    have hRT : R = T := by rw [hall, ← hR]; simp [mkRs]
    repeat' (
      (conv => whnf)
      first
      | refine Or.inl ?_
      | refine And.intro (Obl.out (?_ : Obl _)) ?_
      | refine ifB_intro (fun h => ?_) (fun h => ?_)
      | refine Exists.intro _ (And.intro rfl ?_)
      | ((with_reducible show _ = _); rfl))
    all_goals try (
      (with_reducible refine Obl.mk ?_)
      first
      | ((with_reducible show regOk _ _ = true); kernel_rfl)
      | ((with_reducible show eqTyOk _ _ = true); kernel_rfl)
      | rfl
      | exact trivial
      | ((repeat' (first | exact trivial | refine And.intro ?_ ?_)); done)
      | decide
      | (intro r hr; simp only [List.mem_cons, List.not_mem_nil, or_false] at hr; first | (subst hr; rfl) | (rcases hr with rfl | rfl <;> rfl) | (rcases hr with rfl | rfl | rfl <;> rfl) | (rcases hr with rfl | rfl | rfl | rfl <;> rfl))
      | (refine And.intro ?_ ?_ <;> simp only [List.length_map, List.length_append, List.length_cons, List.length_nil] <;> omega))
    all_goals try (exfalso; have h' := of_decide_eq_true h; rw [hRl] at h'; simp at h'; done)
    all_goals first | exact ⟨by rw [hKC]⟩ | exact ⟨hRT⟩
  · have hal2 : a.length + (b2.length + 1) ≤ 1099511627776 := hal
    have hcx : cnR (TSymbol.tr x) = 3 := by simp only [TSymbol.tr, cnR, cnT]
    have hsm : K + ((3 : Nat) : Int) + (cnRs (b2.map TSymbol.tr) : Nat) = C := by rw [← hsum, List.map_cons, cnRs, hcx]; omega
    have hRl2 : R.length = a.length + (b2.length + 1) := hRl
    have hget : R[a.length]? = some (TSymbol.tr x) := by rw [← hR]; exact mid_get hDl
    repeat' (
      (conv => whnf)
      first
      | refine Or.inl ?_
      | refine And.intro (Obl.out (?_ : Obl _)) ?_
      | refine ifB_intro (fun h => ?_) (fun h => ?_)
      | refine ⟨_, hget, ?_⟩
      | refine ⟨_, set_get (by (try simp only [List.length_set]); omega), ?_⟩
      | refine call_intro ((s_laws_markText _ (by (try simp (disch := omega) only [IntWalk.i64_in]); omega))) (And.intro rfl trivial) ?_
      | refine Exists.intro _ (And.intro rfl ?_)
      | ((with_reducible show _ = _); rfl))
    all_goals try (
      (with_reducible refine Obl.mk ?_)
      first
      | ((with_reducible show regOk _ _ = true); kernel_rfl)
      | ((with_reducible show eqTyOk _ _ = true); kernel_rfl)
      | rfl
      | exact trivial
      | ((repeat' (first | exact trivial | refine And.intro ?_ ?_)); done)
      | decide
      | (intro r hr; simp only [List.mem_cons, List.not_mem_nil, or_false] at hr; first | (subst hr; rfl) | (rcases hr with rfl | rfl <;> rfl) | (rcases hr with rfl | rfl | rfl <;> rfl) | (rcases hr with rfl | rfl | rfl | rfl <;> rfl))
      | (refine And.intro ?_ ?_ <;> simp only [List.length_map, List.length_append, List.length_cons, List.length_nil] <;> omega))
    all_goals try (exfalso; have h' := of_decide_eq_false h; omega; done)
    all_goals try exact ⟨by (try simp only [List.length_set]); omega⟩
    conv => whnf
    refine ⟨⟨(a ++ [x], b2), by rw [← hab, hb]; simp⟩, ?_, Nat.lt_succ_self _⟩
    repeat' (
      (conv => whnf)
      first
      | refine Or.inl ?_
      | refine And.intro (Obl.out (?_ : Obl _)) ?_
      | refine ifB_intro (fun h => ?_) (fun h => ?_)
      | refine Exists.intro _ (And.intro rfl ?_)
      | ((with_reducible show _ = _); rfl))
    all_goals try (
      (with_reducible refine Obl.mk ?_)
      first
      | ((with_reducible show regOk _ _ = true); kernel_rfl)
      | ((with_reducible show eqTyOk _ _ = true); kernel_rfl)
      | rfl
      | exact trivial
      | ((repeat' (first | exact trivial | refine And.intro ?_ ?_)); done)
      | decide
      | (intro r hr; simp only [List.mem_cons, List.not_mem_nil, or_false] at hr; first | (subst hr; rfl) | (rcases hr with rfl | rfl <;> rfl) | (rcases hr with rfl | rfl | rfl <;> rfl) | (rcases hr with rfl | rfl | rfl | rfl <;> rfl))
      | (refine And.intro ?_ ?_ <;> simp only [List.length_map, List.length_append, List.length_cons, List.length_nil] <;> omega))
    · refine ⟨congrArg (Tr.int _) ?_⟩
      dsimp only
      rw [cnRs_snoc, hcx]
      try simp (disch := omega) only [IntWalk.i64_in]
      try omega
    · refine ⟨congrArg (Tr.int _) ?_⟩
      dsimp only
      rw [List.length_append]
      try simp (disch := omega) only [IntWalk.i64_in]
      try rfl
    · refine ⟨?_⟩
      dsimp only
      rw [mkRs_snoc, snoc_cons, hD, hK, ← hR]
      try simp (disch := omega) only [set_set, mid_set hDl, List.map_cons, IntWalk.i64_in]
      try rfl
theorem s_laws_heldSymbolS (xs : List (TSymbol)) (k : Int) (hk0 : 0 ≤ k) (hl : xs.length ≤ 1099511627776) (hk : k + (cnRs (xs.map TSymbol.tr) : Nat) ≤ 4611686018427387904) : Sim.Spec Try.prog 98 [tvL 3 (mkRs (xs.map TSymbol.tr) k), tvI k] (rI (k + (cnRs (xs.map TSymbol.tr) : Nat))) := by
  refine spec_of_W hΓ hmix Try.func98 rfl (by decide) rfl ?_
  have hTl : (mkRs (xs.map TSymbol.tr) k).length = xs.length := by rw [mkRs_length, List.length_map]
  have hal0 := fun (a b : List (TSymbol)) => mkRs_append (a.map TSymbol.tr) (b.map TSymbol.tr) k
  generalize hT : mkRs (xs.map TSymbol.tr) k = T at hTl ⊢
  repeat' (
    (conv => whnf)
    first
    | refine Or.inl ?_
    | refine And.intro (Obl.out (?_ : Obl _)) ?_
    | refine ifB_intro (fun h => ?_) (fun h => ?_)
    | refine Exists.intro _ (And.intro rfl ?_)
    | ((with_reducible show _ = _); rfl))
  all_goals try (
    (with_reducible refine Obl.mk ?_)
    first
    | ((with_reducible show regOk _ _ = true); kernel_rfl)
    | ((with_reducible show eqTyOk _ _ = true); kernel_rfl)
    | rfl
    | exact trivial
    | ((repeat' (first | exact trivial | refine And.intro ?_ ?_)); done)
    | decide
    | (intro r hr; simp only [List.mem_cons, List.not_mem_nil, or_false] at hr; first | (subst hr; rfl) | (rcases hr with rfl | rfl <;> rfl) | (rcases hr with rfl | rfl | rfl <;> rfl) | (rcases hr with rfl | rfl | rfl | rfl <;> rfl))
    | (refine And.intro ?_ ?_ <;> simp only [List.length_map, List.length_append, List.length_cons, List.length_nil] <;> omega))
  conv => whnf
  refine ⟨{ q : List (TSymbol) × List (TSymbol) // q.1 ++ q.2 = xs }, fun q => ⟨[(0, .r (.c (.t (.lst 3 T)))), (1, tI .i64 (k + (cnRs (q.1.1.map TSymbol.tr) : Nat))), (5, tI .i64 (q.1.1.length : Nat))], [], []⟩, fun q => q.1.2.length, ⟨([], xs), rfl⟩, ?_, ?_⟩
  · skip
    repeat' (
      (conv => whnf)
      first
      | refine Or.inl ?_
      | refine And.intro (Obl.out (?_ : Obl _)) ?_
      | refine ifB_intro (fun h => ?_) (fun h => ?_)
      | refine Exists.intro _ (And.intro rfl ?_)
      | ((with_reducible show _ = _); rfl))
    all_goals try (
      (with_reducible refine Obl.mk ?_)
      first
      | ((with_reducible show regOk _ _ = true); kernel_rfl)
      | ((with_reducible show eqTyOk _ _ = true); kernel_rfl)
      | rfl
      | exact trivial
      | ((repeat' (first | exact trivial | refine And.intro ?_ ?_)); done)
      | decide
      | (intro r hr; simp only [List.mem_cons, List.not_mem_nil, or_false] at hr; first | (subst hr; rfl) | (rcases hr with rfl | rfl <;> rfl) | (rcases hr with rfl | rfl | rfl <;> rfl) | (rcases hr with rfl | rfl | rfl | rfl <;> rfl))
      | (refine And.intro ?_ ?_ <;> simp only [List.length_map, List.length_append, List.length_cons, List.length_nil] <;> omega))
    all_goals exact ⟨by first | rfl | simp [cnRs]⟩
  intro ⟨⟨a, b⟩, hab⟩
  dsimp only at hab ⊢
  have hal : a.length + b.length ≤ 1099511627776 := by rw [← List.length_append, hab]; exact hl
  have hsum : k + (cnRs (a.map TSymbol.tr) : Nat) + (cnRs (b.map TSymbol.tr) : Nat) = k + (cnRs (xs.map TSymbol.tr) : Nat) := by rw [← hab, List.map_append, cnRs_append]; omega
  have hall : T = mkRs (a.map TSymbol.tr) k ++ mkRs (b.map TSymbol.tr) (k + (cnRs (a.map TSymbol.tr) : Nat)) := by rw [← hT, ← hab, List.map_append, mkRs_append]
  have hDl : (mkRs (a.map TSymbol.tr) k).length = a.length := by rw [mkRs_length, List.length_map]
  have hTl2 : T.length = a.length + b.length := by rw [hTl, ← hab, List.length_append]
  generalize hK : k + (cnRs (a.map TSymbol.tr) : Nat) = K at hsum hall ⊢
  generalize hD : mkRs (a.map TSymbol.tr) k = D at hall hDl
  generalize hC : k + (cnRs (xs.map TSymbol.tr) : Nat) = C at hk hsum ⊢
  have hK0 : 0 ≤ K := by omega
  rcases hb : b with _ | ⟨x, b2⟩
  all_goals rw [hb] at hall hsum hTl2 hal
  · have hKC : K = C := by simpa [cnRs] using hsum
    repeat' (
      (conv => whnf)
      first
      | refine Or.inl ?_
      | refine And.intro (Obl.out (?_ : Obl _)) ?_
      | refine ifB_intro (fun h => ?_) (fun h => ?_)
      | refine Exists.intro _ (And.intro rfl ?_)
      | ((with_reducible show _ = _); rfl))
    all_goals try (
      (with_reducible refine Obl.mk ?_)
      first
      | ((with_reducible show regOk _ _ = true); kernel_rfl)
      | ((with_reducible show eqTyOk _ _ = true); kernel_rfl)
      | rfl
      | exact trivial
      | ((repeat' (first | exact trivial | refine And.intro ?_ ?_)); done)
      | decide
      | (intro r hr; simp only [List.mem_cons, List.not_mem_nil, or_false] at hr; first | (subst hr; rfl) | (rcases hr with rfl | rfl <;> rfl) | (rcases hr with rfl | rfl | rfl <;> rfl) | (rcases hr with rfl | rfl | rfl | rfl <;> rfl))
      | (refine And.intro ?_ ?_ <;> simp only [List.length_map, List.length_append, List.length_cons, List.length_nil] <;> omega))
    all_goals try (exfalso; have h' := of_decide_eq_true h; rw [hTl2] at h'; simp at h'; done)
    all_goals exact ⟨by rw [hKC]⟩
  · have hal2 : a.length + (b2.length + 1) ≤ 1099511627776 := hal
    have hcx : cnR (TSymbol.tr x) = 3 := by simp only [TSymbol.tr, cnR, cnT]
    have hsm : K + ((3 : Nat) : Int) + (cnRs (b2.map TSymbol.tr) : Nat) = C := by rw [← hsum, List.map_cons, cnRs, hcx]; omega
    have hTl3 : T.length = a.length + (b2.length + 1) := hTl2
    have hget : T[a.length]? = some [.str (mText (K)), .int .i64 (K + 1), .int .i64 (K + 1 + 1)] := by rw [hall, List.map_cons, mkRs]; exact mid_get hDl
    repeat' (
      (conv => whnf)
      first
      | refine Or.inl ?_
      | refine And.intro (Obl.out (?_ : Obl _)) ?_
      | refine ifB_intro (fun h => ?_) (fun h => ?_)
      | refine ⟨a.length, _, rfl, hget, ?_⟩
      | refine call_intro ((s_laws_markText _ (by (try simp (disch := omega) only [IntWalk.i64_in]); omega))) (And.intro rfl trivial) ?_
      | refine Exists.intro _ (And.intro rfl ?_)
      | ((with_reducible show _ = _); rfl))
    all_goals try (
      (with_reducible refine Obl.mk ?_)
      first
      | ((with_reducible show regOk _ _ = true); kernel_rfl)
      | ((with_reducible show eqTyOk _ _ = true); kernel_rfl)
      | rfl
      | exact trivial
      | ((repeat' (first | exact trivial | refine And.intro ?_ ?_)); done)
      | decide
      | (intro r hr; simp only [List.mem_cons, List.not_mem_nil, or_false] at hr; first | (subst hr; rfl) | (rcases hr with rfl | rfl <;> rfl) | (rcases hr with rfl | rfl | rfl <;> rfl) | (rcases hr with rfl | rfl | rfl | rfl <;> rfl))
      | (refine And.intro ?_ ?_ <;> simp only [List.length_map, List.length_append, List.length_cons, List.length_nil] <;> omega))
    all_goals try (exfalso; have h' := of_decide_eq_false h; omega; done)
    all_goals try (exfalso; (try have h' := of_decide_eq_true h); (try simp (disch := omega) [IntWalk.i64_in] at h'); (try simp (disch := omega) [IntWalk.i64_in] at h); (try omega); done)
    conv => whnf
    refine ⟨⟨(a ++ [x], b2), by rw [← hab, hb]; simp⟩, ?_, Nat.lt_succ_self _⟩
    repeat' (
      (conv => whnf)
      first
      | refine Or.inl ?_
      | refine And.intro (Obl.out (?_ : Obl _)) ?_
      | refine ifB_intro (fun h => ?_) (fun h => ?_)
      | refine Exists.intro _ (And.intro rfl ?_)
      | ((with_reducible show _ = _); rfl))
    all_goals try (
      (with_reducible refine Obl.mk ?_)
      first
      | ((with_reducible show regOk _ _ = true); kernel_rfl)
      | ((with_reducible show eqTyOk _ _ = true); kernel_rfl)
      | rfl
      | exact trivial
      | ((repeat' (first | exact trivial | refine And.intro ?_ ?_)); done)
      | decide
      | (intro r hr; simp only [List.mem_cons, List.not_mem_nil, or_false] at hr; first | (subst hr; rfl) | (rcases hr with rfl | rfl <;> rfl) | (rcases hr with rfl | rfl | rfl <;> rfl) | (rcases hr with rfl | rfl | rfl | rfl <;> rfl))
      | (refine And.intro ?_ ?_ <;> simp only [List.length_map, List.length_append, List.length_cons, List.length_nil] <;> omega))
    · refine ⟨congrArg (Tr.int _) ?_⟩
      dsimp only
      rw [cnRs_snoc, hcx]
      try simp (disch := omega) only [IntWalk.i64_in]
      try omega
    · refine ⟨congrArg (Tr.int _) ?_⟩
      dsimp only
      rw [List.length_append]
      try simp (disch := omega) only [IntWalk.i64_in]
      try rfl
theorem cn_SymbolS (xs : List (TSymbol)) (hs : smallT 1048576 (.lst 3 (xs.map TSymbol.tr))) : cnRs (xs.map TSymbol.tr) ≤ 1048576 * 3 := by
  have h1 := small_nat hs
  refine Nat.le_trans (cnRs_map_le (g := TSymbol.tr) (M := 3) fun x hx => ?_) (Nat.mul_le_mul_right _ h1)
  have hcx : cnR (TSymbol.tr x) = 3 := by simp only [TSymbol.tr, cnR, cnT]
  rw [hcx]
  omega
theorem g_laws_markRuleS (xs : List (TRule)) (k : Int) (hk0 : 0 ≤ k) (hl : xs.length ≤ 1099511627776) (hk : k + (cnRs (xs.map TRule.tr) : Nat) ≤ 4611686018427387904) : SpecG Try.prog 79 [.r (.c (.own (0, 0, 0))), tI .i64 k] [((0, 0, 0), .arr false 4 (xs.map TRule.tr))] (tI .i64 (k + (cnRs (xs.map TRule.tr) : Nat))) [((0, 0, 0), .arr false 4 (mkRs (xs.map TRule.tr) k))] := by
  refine specG_of_W hΓ hmix Try.func79 rfl (by decide) rfl rfl ?_
  repeat' (
    (conv => whnf)
    first
    | refine Or.inl ?_
    | refine And.intro (Obl.out (?_ : Obl _)) ?_
    | refine ifB_intro (fun h => ?_) (fun h => ?_)
    | refine Exists.intro _ (And.intro rfl ?_)
    | ((with_reducible show _ = _); rfl))
  all_goals try (
    (with_reducible refine Obl.mk ?_)
    first
    | ((with_reducible show regOk _ _ = true); kernel_rfl)
    | ((with_reducible show eqTyOk _ _ = true); kernel_rfl)
    | rfl
    | exact trivial
    | ((repeat' (first | exact trivial | refine And.intro ?_ ?_)); done)
    | decide
    | (intro r hr; simp only [List.mem_cons, List.not_mem_nil, or_false] at hr; first | (subst hr; rfl) | (rcases hr with rfl | rfl <;> rfl) | (rcases hr with rfl | rfl | rfl <;> rfl) | (rcases hr with rfl | rfl | rfl | rfl <;> rfl))
    | (refine And.intro ?_ ?_ <;> simp only [List.length_map, List.length_append, List.length_cons, List.length_nil] <;> omega))
  conv => whnf
  refine ⟨{ q : List (TRule) × List (TRule) // q.1 ++ q.2 = xs }, fun q => ⟨[(0, .r (.c (.own (0, 0, 0)))), (1, tI .i64 (k + (cnRs (q.1.1.map TRule.tr) : Nat))), (5, tI .i64 (q.1.1.length : Nat))], [((0, 0, 0), some (.arr false 4 (mkRs (q.1.1.map TRule.tr) k ++ q.1.2.map TRule.tr)))], [0]⟩, fun q => q.1.2.length, ⟨([], xs), rfl⟩, ?_, ?_⟩
  · skip
    repeat' (
      (conv => whnf)
      first
      | refine Or.inl ?_
      | refine And.intro (Obl.out (?_ : Obl _)) ?_
      | refine ifB_intro (fun h => ?_) (fun h => ?_)
      | refine Exists.intro _ (And.intro rfl ?_)
      | ((with_reducible show _ = _); rfl))
    all_goals try (
      (with_reducible refine Obl.mk ?_)
      first
      | ((with_reducible show regOk _ _ = true); kernel_rfl)
      | ((with_reducible show eqTyOk _ _ = true); kernel_rfl)
      | rfl
      | exact trivial
      | ((repeat' (first | exact trivial | refine And.intro ?_ ?_)); done)
      | decide
      | (intro r hr; simp only [List.mem_cons, List.not_mem_nil, or_false] at hr; first | (subst hr; rfl) | (rcases hr with rfl | rfl <;> rfl) | (rcases hr with rfl | rfl | rfl <;> rfl) | (rcases hr with rfl | rfl | rfl | rfl <;> rfl))
      | (refine And.intro ?_ ?_ <;> simp only [List.length_map, List.length_append, List.length_cons, List.length_nil] <;> omega))
    all_goals exact ⟨by first | rfl | simp [cnRs, mkRs]⟩
  intro ⟨⟨a, b⟩, hab⟩
  dsimp only at hab ⊢
  have hal : a.length + b.length ≤ 1099511627776 := by rw [← List.length_append, hab]; exact hl
  have hsum : k + (cnRs (a.map TRule.tr) : Nat) + (cnRs (b.map TRule.tr) : Nat) = k + (cnRs (xs.map TRule.tr) : Nat) := by rw [← hab, List.map_append, cnRs_append]; omega
  have hall : mkRs (xs.map TRule.tr) k = mkRs (a.map TRule.tr) k ++ mkRs (b.map TRule.tr) (k + (cnRs (a.map TRule.tr) : Nat)) := by rw [← hab, List.map_append, mkRs_append]
  have hDl : (mkRs (a.map TRule.tr) k).length = a.length := by rw [mkRs_length, List.length_map]
  generalize hR : mkRs (a.map TRule.tr) k ++ b.map TRule.tr = R
  have hRl : R.length = a.length + b.length := by rw [← hR]; simp [hDl]
  generalize hK : k + (cnRs (a.map TRule.tr) : Nat) = K at hsum hall ⊢
  generalize hD : mkRs (a.map TRule.tr) k = D at hR hall hDl
  generalize hT : mkRs (xs.map TRule.tr) k = T at hall ⊢
  generalize hC : k + (cnRs (xs.map TRule.tr) : Nat) = C at hk hsum ⊢
  have hK0 : 0 ≤ K := by omega
  rcases hb : b with _ | ⟨x, b2⟩
  all_goals rw [hb] at hR hall hsum hRl hal
  · have hKC : K = C := by simpa [cnRs] using hsum
    have hRT : R = T := by rw [hall, ← hR]; simp [mkRs]
    repeat' (
      (conv => whnf)
      first
      | refine Or.inl ?_
      | refine And.intro (Obl.out (?_ : Obl _)) ?_
      | refine ifB_intro (fun h => ?_) (fun h => ?_)
      | refine Exists.intro _ (And.intro rfl ?_)
      | ((with_reducible show _ = _); rfl))
    all_goals try (
      (with_reducible refine Obl.mk ?_)
      first
      | ((with_reducible show regOk _ _ = true); kernel_rfl)
      | ((with_reducible show eqTyOk _ _ = true); kernel_rfl)
      | rfl
      | exact trivial
      | ((repeat' (first | exact trivial | refine And.intro ?_ ?_)); done)
      | decide
      | (intro r hr; simp only [List.mem_cons, List.not_mem_nil, or_false] at hr; first | (subst hr; rfl) | (rcases hr with rfl | rfl <;> rfl) | (rcases hr with rfl | rfl | rfl <;> rfl) | (rcases hr with rfl | rfl | rfl | rfl <;> rfl))
      | (refine And.intro ?_ ?_ <;> simp only [List.length_map, List.length_append, List.length_cons, List.length_nil] <;> omega))
    all_goals try (exfalso; have h' := of_decide_eq_true h; rw [hRl] at h'; simp at h'; done)
    all_goals first | exact ⟨by rw [hKC]⟩ | exact ⟨hRT⟩
  · have hal2 : a.length + (b2.length + 1) ≤ 1099511627776 := hal
    have hcx : cnR (TRule.tr x) = 4 := by simp only [TRule.tr, cnR, cnT]
    have hsm : K + ((4 : Nat) : Int) + (cnRs (b2.map TRule.tr) : Nat) = C := by rw [← hsum, List.map_cons, cnRs, hcx]; omega
    have hRl2 : R.length = a.length + (b2.length + 1) := hRl
    have hget : R[a.length]? = some (TRule.tr x) := by rw [← hR]; exact mid_get hDl
    repeat' (
      (conv => whnf)
      first
      | refine Or.inl ?_
      | refine And.intro (Obl.out (?_ : Obl _)) ?_
      | refine ifB_intro (fun h => ?_) (fun h => ?_)
      | refine ⟨_, hget, ?_⟩
      | refine ⟨_, set_get (by (try simp only [List.length_set]); omega), ?_⟩
      | refine call_intro ((s_laws_markText _ (by (try simp (disch := omega) only [IntWalk.i64_in]); omega))) (And.intro rfl trivial) ?_
      | refine Exists.intro _ (And.intro rfl ?_)
      | ((with_reducible show _ = _); rfl))
    all_goals try (
      (with_reducible refine Obl.mk ?_)
      first
      | ((with_reducible show regOk _ _ = true); kernel_rfl)
      | ((with_reducible show eqTyOk _ _ = true); kernel_rfl)
      | rfl
      | exact trivial
      | ((repeat' (first | exact trivial | refine And.intro ?_ ?_)); done)
      | decide
      | (intro r hr; simp only [List.mem_cons, List.not_mem_nil, or_false] at hr; first | (subst hr; rfl) | (rcases hr with rfl | rfl <;> rfl) | (rcases hr with rfl | rfl | rfl <;> rfl) | (rcases hr with rfl | rfl | rfl | rfl <;> rfl))
      | (refine And.intro ?_ ?_ <;> simp only [List.length_map, List.length_append, List.length_cons, List.length_nil] <;> omega))
    all_goals try (exfalso; have h' := of_decide_eq_false h; omega; done)
    all_goals try exact ⟨by (try simp only [List.length_set]); omega⟩
    conv => whnf
    refine ⟨⟨(a ++ [x], b2), by rw [← hab, hb]; simp⟩, ?_, Nat.lt_succ_self _⟩
    repeat' (
      (conv => whnf)
      first
      | refine Or.inl ?_
      | refine And.intro (Obl.out (?_ : Obl _)) ?_
      | refine ifB_intro (fun h => ?_) (fun h => ?_)
      | refine Exists.intro _ (And.intro rfl ?_)
      | ((with_reducible show _ = _); rfl))
    all_goals try (
      (with_reducible refine Obl.mk ?_)
      first
      | ((with_reducible show regOk _ _ = true); kernel_rfl)
      | ((with_reducible show eqTyOk _ _ = true); kernel_rfl)
      | rfl
      | exact trivial
      | ((repeat' (first | exact trivial | refine And.intro ?_ ?_)); done)
      | decide
      | (intro r hr; simp only [List.mem_cons, List.not_mem_nil, or_false] at hr; first | (subst hr; rfl) | (rcases hr with rfl | rfl <;> rfl) | (rcases hr with rfl | rfl | rfl <;> rfl) | (rcases hr with rfl | rfl | rfl | rfl <;> rfl))
      | (refine And.intro ?_ ?_ <;> simp only [List.length_map, List.length_append, List.length_cons, List.length_nil] <;> omega))
    · refine ⟨congrArg (Tr.int _) ?_⟩
      dsimp only
      rw [cnRs_snoc, hcx]
      try simp (disch := omega) only [IntWalk.i64_in]
      try omega
    · refine ⟨congrArg (Tr.int _) ?_⟩
      dsimp only
      rw [List.length_append]
      try simp (disch := omega) only [IntWalk.i64_in]
      try rfl
    · refine ⟨?_⟩
      dsimp only
      rw [mkRs_snoc, snoc_cons, hD, hK, ← hR]
      try simp (disch := omega) only [set_set, mid_set hDl, List.map_cons, IntWalk.i64_in]
      try rfl
theorem s_laws_heldRuleS (xs : List (TRule)) (k : Int) (hk0 : 0 ≤ k) (hl : xs.length ≤ 1099511627776) (hk : k + (cnRs (xs.map TRule.tr) : Nat) ≤ 4611686018427387904) : Sim.Spec Try.prog 99 [tvL 4 (mkRs (xs.map TRule.tr) k), tvI k] (rI (k + (cnRs (xs.map TRule.tr) : Nat))) := by
  refine spec_of_W hΓ hmix Try.func99 rfl (by decide) rfl ?_
  have hTl : (mkRs (xs.map TRule.tr) k).length = xs.length := by rw [mkRs_length, List.length_map]
  have hal0 := fun (a b : List (TRule)) => mkRs_append (a.map TRule.tr) (b.map TRule.tr) k
  generalize hT : mkRs (xs.map TRule.tr) k = T at hTl ⊢
  repeat' (
    (conv => whnf)
    first
    | refine Or.inl ?_
    | refine And.intro (Obl.out (?_ : Obl _)) ?_
    | refine ifB_intro (fun h => ?_) (fun h => ?_)
    | refine Exists.intro _ (And.intro rfl ?_)
    | ((with_reducible show _ = _); rfl))
  all_goals try (
    (with_reducible refine Obl.mk ?_)
    first
    | ((with_reducible show regOk _ _ = true); kernel_rfl)
    | ((with_reducible show eqTyOk _ _ = true); kernel_rfl)
    | rfl
    | exact trivial
    | ((repeat' (first | exact trivial | refine And.intro ?_ ?_)); done)
    | decide
    | (intro r hr; simp only [List.mem_cons, List.not_mem_nil, or_false] at hr; first | (subst hr; rfl) | (rcases hr with rfl | rfl <;> rfl) | (rcases hr with rfl | rfl | rfl <;> rfl) | (rcases hr with rfl | rfl | rfl | rfl <;> rfl))
    | (refine And.intro ?_ ?_ <;> simp only [List.length_map, List.length_append, List.length_cons, List.length_nil] <;> omega))
  conv => whnf
  refine ⟨{ q : List (TRule) × List (TRule) // q.1 ++ q.2 = xs }, fun q => ⟨[(0, .r (.c (.t (.lst 4 T)))), (1, tI .i64 (k + (cnRs (q.1.1.map TRule.tr) : Nat))), (5, tI .i64 (q.1.1.length : Nat))], [], []⟩, fun q => q.1.2.length, ⟨([], xs), rfl⟩, ?_, ?_⟩
  · skip
    repeat' (
      (conv => whnf)
      first
      | refine Or.inl ?_
      | refine And.intro (Obl.out (?_ : Obl _)) ?_
      | refine ifB_intro (fun h => ?_) (fun h => ?_)
      | refine Exists.intro _ (And.intro rfl ?_)
      | ((with_reducible show _ = _); rfl))
    all_goals try (
      (with_reducible refine Obl.mk ?_)
      first
      | ((with_reducible show regOk _ _ = true); kernel_rfl)
      | ((with_reducible show eqTyOk _ _ = true); kernel_rfl)
      | rfl
      | exact trivial
      | ((repeat' (first | exact trivial | refine And.intro ?_ ?_)); done)
      | decide
      | (intro r hr; simp only [List.mem_cons, List.not_mem_nil, or_false] at hr; first | (subst hr; rfl) | (rcases hr with rfl | rfl <;> rfl) | (rcases hr with rfl | rfl | rfl <;> rfl) | (rcases hr with rfl | rfl | rfl | rfl <;> rfl))
      | (refine And.intro ?_ ?_ <;> simp only [List.length_map, List.length_append, List.length_cons, List.length_nil] <;> omega))
    all_goals exact ⟨by first | rfl | simp [cnRs]⟩
  intro ⟨⟨a, b⟩, hab⟩
  dsimp only at hab ⊢
  have hal : a.length + b.length ≤ 1099511627776 := by rw [← List.length_append, hab]; exact hl
  have hsum : k + (cnRs (a.map TRule.tr) : Nat) + (cnRs (b.map TRule.tr) : Nat) = k + (cnRs (xs.map TRule.tr) : Nat) := by rw [← hab, List.map_append, cnRs_append]; omega
  have hall : T = mkRs (a.map TRule.tr) k ++ mkRs (b.map TRule.tr) (k + (cnRs (a.map TRule.tr) : Nat)) := by rw [← hT, ← hab, List.map_append, mkRs_append]
  have hDl : (mkRs (a.map TRule.tr) k).length = a.length := by rw [mkRs_length, List.length_map]
  have hTl2 : T.length = a.length + b.length := by rw [hTl, ← hab, List.length_append]
  generalize hK : k + (cnRs (a.map TRule.tr) : Nat) = K at hsum hall ⊢
  generalize hD : mkRs (a.map TRule.tr) k = D at hall hDl
  generalize hC : k + (cnRs (xs.map TRule.tr) : Nat) = C at hk hsum ⊢
  have hK0 : 0 ≤ K := by omega
  rcases hb : b with _ | ⟨x, b2⟩
  all_goals rw [hb] at hall hsum hTl2 hal
  · have hKC : K = C := by simpa [cnRs] using hsum
    repeat' (
      (conv => whnf)
      first
      | refine Or.inl ?_
      | refine And.intro (Obl.out (?_ : Obl _)) ?_
      | refine ifB_intro (fun h => ?_) (fun h => ?_)
      | refine Exists.intro _ (And.intro rfl ?_)
      | ((with_reducible show _ = _); rfl))
    all_goals try (
      (with_reducible refine Obl.mk ?_)
      first
      | ((with_reducible show regOk _ _ = true); kernel_rfl)
      | ((with_reducible show eqTyOk _ _ = true); kernel_rfl)
      | rfl
      | exact trivial
      | ((repeat' (first | exact trivial | refine And.intro ?_ ?_)); done)
      | decide
      | (intro r hr; simp only [List.mem_cons, List.not_mem_nil, or_false] at hr; first | (subst hr; rfl) | (rcases hr with rfl | rfl <;> rfl) | (rcases hr with rfl | rfl | rfl <;> rfl) | (rcases hr with rfl | rfl | rfl | rfl <;> rfl))
      | (refine And.intro ?_ ?_ <;> simp only [List.length_map, List.length_append, List.length_cons, List.length_nil] <;> omega))
    all_goals try (exfalso; have h' := of_decide_eq_true h; rw [hTl2] at h'; simp at h'; done)
    all_goals exact ⟨by rw [hKC]⟩
  · have hal2 : a.length + (b2.length + 1) ≤ 1099511627776 := hal
    have hcx : cnR (TRule.tr x) = 4 := by simp only [TRule.tr, cnR, cnT]
    have hsm : K + ((4 : Nat) : Int) + (cnRs (b2.map TRule.tr) : Nat) = C := by rw [← hsum, List.map_cons, cnRs, hcx]; omega
    have hTl3 : T.length = a.length + (b2.length + 1) := hTl2
    have hget : T[a.length]? = some [.int .i64 (K), .int .i64 (K + 1), .bool ((K + 1 + 1).tmod 3 == 0), .int .i64 (K + 1 + 1 + 1)] := by rw [hall, List.map_cons, mkRs]; exact mid_get hDl
    repeat' (
      (conv => whnf)
      first
      | refine Or.inl ?_
      | refine And.intro (Obl.out (?_ : Obl _)) ?_
      | refine ifB_intro (fun h => ?_) (fun h => ?_)
      | refine ⟨a.length, _, rfl, hget, ?_⟩
      | refine Exists.intro _ (And.intro rfl ?_)
      | ((with_reducible show _ = _); rfl))
    all_goals try (
      (with_reducible refine Obl.mk ?_)
      first
      | ((with_reducible show regOk _ _ = true); kernel_rfl)
      | ((with_reducible show eqTyOk _ _ = true); kernel_rfl)
      | rfl
      | exact trivial
      | ((repeat' (first | exact trivial | refine And.intro ?_ ?_)); done)
      | decide
      | (intro r hr; simp only [List.mem_cons, List.not_mem_nil, or_false] at hr; first | (subst hr; rfl) | (rcases hr with rfl | rfl <;> rfl) | (rcases hr with rfl | rfl | rfl <;> rfl) | (rcases hr with rfl | rfl | rfl | rfl <;> rfl))
      | (refine And.intro ?_ ?_ <;> simp only [List.length_map, List.length_append, List.length_cons, List.length_nil] <;> omega))
    all_goals try (exfalso; have h' := of_decide_eq_false h; omega; done)
    all_goals try (exfalso; (try have h' := of_decide_eq_true h); (try simp (disch := omega) [IntWalk.i64_in] at h'); (try simp (disch := omega) [IntWalk.i64_in] at h); (try omega); done)
    conv => whnf
    refine ⟨⟨(a ++ [x], b2), by rw [← hab, hb]; simp⟩, ?_, Nat.lt_succ_self _⟩
    repeat' (
      (conv => whnf)
      first
      | refine Or.inl ?_
      | refine And.intro (Obl.out (?_ : Obl _)) ?_
      | refine ifB_intro (fun h => ?_) (fun h => ?_)
      | refine Exists.intro _ (And.intro rfl ?_)
      | ((with_reducible show _ = _); rfl))
    all_goals try (
      (with_reducible refine Obl.mk ?_)
      first
      | ((with_reducible show regOk _ _ = true); kernel_rfl)
      | ((with_reducible show eqTyOk _ _ = true); kernel_rfl)
      | rfl
      | exact trivial
      | ((repeat' (first | exact trivial | refine And.intro ?_ ?_)); done)
      | decide
      | (intro r hr; simp only [List.mem_cons, List.not_mem_nil, or_false] at hr; first | (subst hr; rfl) | (rcases hr with rfl | rfl <;> rfl) | (rcases hr with rfl | rfl | rfl <;> rfl) | (rcases hr with rfl | rfl | rfl | rfl <;> rfl))
      | (refine And.intro ?_ ?_ <;> simp only [List.length_map, List.length_append, List.length_cons, List.length_nil] <;> omega))
    · refine ⟨congrArg (Tr.int _) ?_⟩
      dsimp only
      rw [cnRs_snoc, hcx]
      try simp (disch := omega) only [IntWalk.i64_in]
      try omega
    · refine ⟨congrArg (Tr.int _) ?_⟩
      dsimp only
      rw [List.length_append]
      try simp (disch := omega) only [IntWalk.i64_in]
      try rfl
theorem cn_RuleS (xs : List (TRule)) (hs : smallT 1048576 (.lst 4 (xs.map TRule.tr))) : cnRs (xs.map TRule.tr) ≤ 1048576 * 4 := by
  have h1 := small_nat hs
  refine Nat.le_trans (cnRs_map_le (g := TRule.tr) (M := 4) fun x hx => ?_) (Nat.mul_le_mul_right _ h1)
  have hcx : cnR (TRule.tr x) = 4 := by simp only [TRule.tr, cnR, cnT]
  rw [hcx]
  omega
theorem g_laws_markRowS (xs : List (TRow)) (k : Int) (hk0 : 0 ≤ k) (hl : xs.length ≤ 1099511627776) (hk : k + (cnRs (xs.map TRow.tr) : Nat) ≤ 4611686018427387904) : SpecG Try.prog 97 [.r (.c (.own (0, 0, 0))), tI .i64 k] [((0, 0, 0), .arr false 3 (xs.map TRow.tr))] (tI .i64 (k + (cnRs (xs.map TRow.tr) : Nat))) [((0, 0, 0), .arr false 3 (mkRs (xs.map TRow.tr) k))] := by
  refine specG_of_W hΓ hmix Try.func97 rfl (by decide) rfl rfl ?_
  repeat' (
    (conv => whnf)
    first
    | refine Or.inl ?_
    | refine And.intro (Obl.out (?_ : Obl _)) ?_
    | refine ifB_intro (fun h => ?_) (fun h => ?_)
    | refine Exists.intro _ (And.intro rfl ?_)
    | ((with_reducible show _ = _); rfl))
  all_goals try (
    (with_reducible refine Obl.mk ?_)
    first
    | ((with_reducible show regOk _ _ = true); kernel_rfl)
    | ((with_reducible show eqTyOk _ _ = true); kernel_rfl)
    | rfl
    | exact trivial
    | ((repeat' (first | exact trivial | refine And.intro ?_ ?_)); done)
    | decide
    | (intro r hr; simp only [List.mem_cons, List.not_mem_nil, or_false] at hr; first | (subst hr; rfl) | (rcases hr with rfl | rfl <;> rfl) | (rcases hr with rfl | rfl | rfl <;> rfl) | (rcases hr with rfl | rfl | rfl | rfl <;> rfl))
    | (refine And.intro ?_ ?_ <;> simp only [List.length_map, List.length_append, List.length_cons, List.length_nil] <;> omega))
  conv => whnf
  refine ⟨{ q : List (TRow) × List (TRow) // q.1 ++ q.2 = xs }, fun q => ⟨[(0, .r (.c (.own (0, 0, 0)))), (1, tI .i64 (k + (cnRs (q.1.1.map TRow.tr) : Nat))), (5, tI .i64 (q.1.1.length : Nat))], [((0, 0, 0), some (.arr false 3 (mkRs (q.1.1.map TRow.tr) k ++ q.1.2.map TRow.tr)))], [0]⟩, fun q => q.1.2.length, ⟨([], xs), rfl⟩, ?_, ?_⟩
  · skip
    repeat' (
      (conv => whnf)
      first
      | refine Or.inl ?_
      | refine And.intro (Obl.out (?_ : Obl _)) ?_
      | refine ifB_intro (fun h => ?_) (fun h => ?_)
      | refine Exists.intro _ (And.intro rfl ?_)
      | ((with_reducible show _ = _); rfl))
    all_goals try (
      (with_reducible refine Obl.mk ?_)
      first
      | ((with_reducible show regOk _ _ = true); kernel_rfl)
      | ((with_reducible show eqTyOk _ _ = true); kernel_rfl)
      | rfl
      | exact trivial
      | ((repeat' (first | exact trivial | refine And.intro ?_ ?_)); done)
      | decide
      | (intro r hr; simp only [List.mem_cons, List.not_mem_nil, or_false] at hr; first | (subst hr; rfl) | (rcases hr with rfl | rfl <;> rfl) | (rcases hr with rfl | rfl | rfl <;> rfl) | (rcases hr with rfl | rfl | rfl | rfl <;> rfl))
      | (refine And.intro ?_ ?_ <;> simp only [List.length_map, List.length_append, List.length_cons, List.length_nil] <;> omega))
    all_goals exact ⟨by first | rfl | simp [cnRs, mkRs]⟩
  intro ⟨⟨a, b⟩, hab⟩
  dsimp only at hab ⊢
  have hal : a.length + b.length ≤ 1099511627776 := by rw [← List.length_append, hab]; exact hl
  have hsum : k + (cnRs (a.map TRow.tr) : Nat) + (cnRs (b.map TRow.tr) : Nat) = k + (cnRs (xs.map TRow.tr) : Nat) := by rw [← hab, List.map_append, cnRs_append]; omega
  have hall : mkRs (xs.map TRow.tr) k = mkRs (a.map TRow.tr) k ++ mkRs (b.map TRow.tr) (k + (cnRs (a.map TRow.tr) : Nat)) := by rw [← hab, List.map_append, mkRs_append]
  have hDl : (mkRs (a.map TRow.tr) k).length = a.length := by rw [mkRs_length, List.length_map]
  generalize hR : mkRs (a.map TRow.tr) k ++ b.map TRow.tr = R
  have hRl : R.length = a.length + b.length := by rw [← hR]; simp [hDl]
  generalize hK : k + (cnRs (a.map TRow.tr) : Nat) = K at hsum hall ⊢
  generalize hD : mkRs (a.map TRow.tr) k = D at hR hall hDl
  generalize hT : mkRs (xs.map TRow.tr) k = T at hall ⊢
  generalize hC : k + (cnRs (xs.map TRow.tr) : Nat) = C at hk hsum ⊢
  have hK0 : 0 ≤ K := by omega
  rcases hb : b with _ | ⟨x, b2⟩
  all_goals rw [hb] at hR hall hsum hRl hal
  · have hKC : K = C := by simpa [cnRs] using hsum
    have hRT : R = T := by rw [hall, ← hR]; simp [mkRs]
    repeat' (
      (conv => whnf)
      first
      | refine Or.inl ?_
      | refine And.intro (Obl.out (?_ : Obl _)) ?_
      | refine ifB_intro (fun h => ?_) (fun h => ?_)
      | refine Exists.intro _ (And.intro rfl ?_)
      | ((with_reducible show _ = _); rfl))
    all_goals try (
      (with_reducible refine Obl.mk ?_)
      first
      | ((with_reducible show regOk _ _ = true); kernel_rfl)
      | ((with_reducible show eqTyOk _ _ = true); kernel_rfl)
      | rfl
      | exact trivial
      | ((repeat' (first | exact trivial | refine And.intro ?_ ?_)); done)
      | decide
      | (intro r hr; simp only [List.mem_cons, List.not_mem_nil, or_false] at hr; first | (subst hr; rfl) | (rcases hr with rfl | rfl <;> rfl) | (rcases hr with rfl | rfl | rfl <;> rfl) | (rcases hr with rfl | rfl | rfl | rfl <;> rfl))
      | (refine And.intro ?_ ?_ <;> simp only [List.length_map, List.length_append, List.length_cons, List.length_nil] <;> omega))
    all_goals try (exfalso; have h' := of_decide_eq_true h; rw [hRl] at h'; simp at h'; done)
    all_goals first | exact ⟨by rw [hKC]⟩ | exact ⟨hRT⟩
  · have hal2 : a.length + (b2.length + 1) ≤ 1099511627776 := hal
    have hcx : cnR (TRow.tr x) = 3 := by simp only [TRow.tr, cnR, cnT]
    have hsm : K + ((3 : Nat) : Int) + (cnRs (b2.map TRow.tr) : Nat) = C := by rw [← hsum, List.map_cons, cnRs, hcx]; omega
    have hRl2 : R.length = a.length + (b2.length + 1) := hRl
    have hget : R[a.length]? = some (TRow.tr x) := by rw [← hR]; exact mid_get hDl
    repeat' (
      (conv => whnf)
      first
      | refine Or.inl ?_
      | refine And.intro (Obl.out (?_ : Obl _)) ?_
      | refine ifB_intro (fun h => ?_) (fun h => ?_)
      | refine ⟨_, hget, ?_⟩
      | refine ⟨_, set_get (by (try simp only [List.length_set]); omega), ?_⟩
      | refine call_intro ((s_laws_markText _ (by (try simp (disch := omega) only [IntWalk.i64_in]); omega))) (And.intro rfl trivial) ?_
      | refine Exists.intro _ (And.intro rfl ?_)
      | ((with_reducible show _ = _); rfl))
    all_goals try (
      (with_reducible refine Obl.mk ?_)
      first
      | ((with_reducible show regOk _ _ = true); kernel_rfl)
      | ((with_reducible show eqTyOk _ _ = true); kernel_rfl)
      | rfl
      | exact trivial
      | ((repeat' (first | exact trivial | refine And.intro ?_ ?_)); done)
      | decide
      | (intro r hr; simp only [List.mem_cons, List.not_mem_nil, or_false] at hr; first | (subst hr; rfl) | (rcases hr with rfl | rfl <;> rfl) | (rcases hr with rfl | rfl | rfl <;> rfl) | (rcases hr with rfl | rfl | rfl | rfl <;> rfl))
      | (refine And.intro ?_ ?_ <;> simp only [List.length_map, List.length_append, List.length_cons, List.length_nil] <;> omega))
    all_goals try (exfalso; have h' := of_decide_eq_false h; omega; done)
    all_goals try exact ⟨by (try simp only [List.length_set]); omega⟩
    conv => whnf
    refine ⟨⟨(a ++ [x], b2), by rw [← hab, hb]; simp⟩, ?_, Nat.lt_succ_self _⟩
    repeat' (
      (conv => whnf)
      first
      | refine Or.inl ?_
      | refine And.intro (Obl.out (?_ : Obl _)) ?_
      | refine ifB_intro (fun h => ?_) (fun h => ?_)
      | refine Exists.intro _ (And.intro rfl ?_)
      | ((with_reducible show _ = _); rfl))
    all_goals try (
      (with_reducible refine Obl.mk ?_)
      first
      | ((with_reducible show regOk _ _ = true); kernel_rfl)
      | ((with_reducible show eqTyOk _ _ = true); kernel_rfl)
      | rfl
      | exact trivial
      | ((repeat' (first | exact trivial | refine And.intro ?_ ?_)); done)
      | decide
      | (intro r hr; simp only [List.mem_cons, List.not_mem_nil, or_false] at hr; first | (subst hr; rfl) | (rcases hr with rfl | rfl <;> rfl) | (rcases hr with rfl | rfl | rfl <;> rfl) | (rcases hr with rfl | rfl | rfl | rfl <;> rfl))
      | (refine And.intro ?_ ?_ <;> simp only [List.length_map, List.length_append, List.length_cons, List.length_nil] <;> omega))
    · refine ⟨congrArg (Tr.int _) ?_⟩
      dsimp only
      rw [cnRs_snoc, hcx]
      try simp (disch := omega) only [IntWalk.i64_in]
      try omega
    · refine ⟨congrArg (Tr.int _) ?_⟩
      dsimp only
      rw [List.length_append]
      try simp (disch := omega) only [IntWalk.i64_in]
      try rfl
    · refine ⟨?_⟩
      dsimp only
      rw [mkRs_snoc, snoc_cons, hD, hK, ← hR]
      try simp (disch := omega) only [set_set, mid_set hDl, List.map_cons, IntWalk.i64_in]
      try rfl
theorem s_laws_heldRowS (xs : List (TRow)) (k : Int) (hk0 : 0 ≤ k) (hl : xs.length ≤ 1099511627776) (hk : k + (cnRs (xs.map TRow.tr) : Nat) ≤ 4611686018427387904) : Sim.Spec Try.prog 100 [tvL 3 (mkRs (xs.map TRow.tr) k), tvI k] (rI (k + (cnRs (xs.map TRow.tr) : Nat))) := by
  refine spec_of_W hΓ hmix Try.func100 rfl (by decide) rfl ?_
  have hTl : (mkRs (xs.map TRow.tr) k).length = xs.length := by rw [mkRs_length, List.length_map]
  have hal0 := fun (a b : List (TRow)) => mkRs_append (a.map TRow.tr) (b.map TRow.tr) k
  generalize hT : mkRs (xs.map TRow.tr) k = T at hTl ⊢
  repeat' (
    (conv => whnf)
    first
    | refine Or.inl ?_
    | refine And.intro (Obl.out (?_ : Obl _)) ?_
    | refine ifB_intro (fun h => ?_) (fun h => ?_)
    | refine Exists.intro _ (And.intro rfl ?_)
    | ((with_reducible show _ = _); rfl))
  all_goals try (
    (with_reducible refine Obl.mk ?_)
    first
    | ((with_reducible show regOk _ _ = true); kernel_rfl)
    | ((with_reducible show eqTyOk _ _ = true); kernel_rfl)
    | rfl
    | exact trivial
    | ((repeat' (first | exact trivial | refine And.intro ?_ ?_)); done)
    | decide
    | (intro r hr; simp only [List.mem_cons, List.not_mem_nil, or_false] at hr; first | (subst hr; rfl) | (rcases hr with rfl | rfl <;> rfl) | (rcases hr with rfl | rfl | rfl <;> rfl) | (rcases hr with rfl | rfl | rfl | rfl <;> rfl))
    | (refine And.intro ?_ ?_ <;> simp only [List.length_map, List.length_append, List.length_cons, List.length_nil] <;> omega))
  conv => whnf
  refine ⟨{ q : List (TRow) × List (TRow) // q.1 ++ q.2 = xs }, fun q => ⟨[(0, .r (.c (.t (.lst 3 T)))), (1, tI .i64 (k + (cnRs (q.1.1.map TRow.tr) : Nat))), (5, tI .i64 (q.1.1.length : Nat))], [], []⟩, fun q => q.1.2.length, ⟨([], xs), rfl⟩, ?_, ?_⟩
  · skip
    repeat' (
      (conv => whnf)
      first
      | refine Or.inl ?_
      | refine And.intro (Obl.out (?_ : Obl _)) ?_
      | refine ifB_intro (fun h => ?_) (fun h => ?_)
      | refine Exists.intro _ (And.intro rfl ?_)
      | ((with_reducible show _ = _); rfl))
    all_goals try (
      (with_reducible refine Obl.mk ?_)
      first
      | ((with_reducible show regOk _ _ = true); kernel_rfl)
      | ((with_reducible show eqTyOk _ _ = true); kernel_rfl)
      | rfl
      | exact trivial
      | ((repeat' (first | exact trivial | refine And.intro ?_ ?_)); done)
      | decide
      | (intro r hr; simp only [List.mem_cons, List.not_mem_nil, or_false] at hr; first | (subst hr; rfl) | (rcases hr with rfl | rfl <;> rfl) | (rcases hr with rfl | rfl | rfl <;> rfl) | (rcases hr with rfl | rfl | rfl | rfl <;> rfl))
      | (refine And.intro ?_ ?_ <;> simp only [List.length_map, List.length_append, List.length_cons, List.length_nil] <;> omega))
    all_goals exact ⟨by first | rfl | simp [cnRs]⟩
  intro ⟨⟨a, b⟩, hab⟩
  dsimp only at hab ⊢
  have hal : a.length + b.length ≤ 1099511627776 := by rw [← List.length_append, hab]; exact hl
  have hsum : k + (cnRs (a.map TRow.tr) : Nat) + (cnRs (b.map TRow.tr) : Nat) = k + (cnRs (xs.map TRow.tr) : Nat) := by rw [← hab, List.map_append, cnRs_append]; omega
  have hall : T = mkRs (a.map TRow.tr) k ++ mkRs (b.map TRow.tr) (k + (cnRs (a.map TRow.tr) : Nat)) := by rw [← hT, ← hab, List.map_append, mkRs_append]
  have hDl : (mkRs (a.map TRow.tr) k).length = a.length := by rw [mkRs_length, List.length_map]
  have hTl2 : T.length = a.length + b.length := by rw [hTl, ← hab, List.length_append]
  generalize hK : k + (cnRs (a.map TRow.tr) : Nat) = K at hsum hall ⊢
  generalize hD : mkRs (a.map TRow.tr) k = D at hall hDl
  generalize hC : k + (cnRs (xs.map TRow.tr) : Nat) = C at hk hsum ⊢
  have hK0 : 0 ≤ K := by omega
  rcases hb : b with _ | ⟨x, b2⟩
  all_goals rw [hb] at hall hsum hTl2 hal
  · have hKC : K = C := by simpa [cnRs] using hsum
    repeat' (
      (conv => whnf)
      first
      | refine Or.inl ?_
      | refine And.intro (Obl.out (?_ : Obl _)) ?_
      | refine ifB_intro (fun h => ?_) (fun h => ?_)
      | refine Exists.intro _ (And.intro rfl ?_)
      | ((with_reducible show _ = _); rfl))
    all_goals try (
      (with_reducible refine Obl.mk ?_)
      first
      | ((with_reducible show regOk _ _ = true); kernel_rfl)
      | ((with_reducible show eqTyOk _ _ = true); kernel_rfl)
      | rfl
      | exact trivial
      | ((repeat' (first | exact trivial | refine And.intro ?_ ?_)); done)
      | decide
      | (intro r hr; simp only [List.mem_cons, List.not_mem_nil, or_false] at hr; first | (subst hr; rfl) | (rcases hr with rfl | rfl <;> rfl) | (rcases hr with rfl | rfl | rfl <;> rfl) | (rcases hr with rfl | rfl | rfl | rfl <;> rfl))
      | (refine And.intro ?_ ?_ <;> simp only [List.length_map, List.length_append, List.length_cons, List.length_nil] <;> omega))
    all_goals try (exfalso; have h' := of_decide_eq_true h; rw [hTl2] at h'; simp at h'; done)
    all_goals exact ⟨by rw [hKC]⟩
  · have hal2 : a.length + (b2.length + 1) ≤ 1099511627776 := hal
    have hcx : cnR (TRow.tr x) = 3 := by simp only [TRow.tr, cnR, cnT]
    have hsm : K + ((3 : Nat) : Int) + (cnRs (b2.map TRow.tr) : Nat) = C := by rw [← hsum, List.map_cons, cnRs, hcx]; omega
    have hTl3 : T.length = a.length + (b2.length + 1) := hTl2
    have hget : T[a.length]? = some [.int .i64 (K), .int .i64 (K + 1), .bool ((K + 1 + 1).tmod 3 == 0)] := by rw [hall, List.map_cons, mkRs]; exact mid_get hDl
    repeat' (
      (conv => whnf)
      first
      | refine Or.inl ?_
      | refine And.intro (Obl.out (?_ : Obl _)) ?_
      | refine ifB_intro (fun h => ?_) (fun h => ?_)
      | refine ⟨a.length, _, rfl, hget, ?_⟩
      | refine Exists.intro _ (And.intro rfl ?_)
      | ((with_reducible show _ = _); rfl))
    all_goals try (
      (with_reducible refine Obl.mk ?_)
      first
      | ((with_reducible show regOk _ _ = true); kernel_rfl)
      | ((with_reducible show eqTyOk _ _ = true); kernel_rfl)
      | rfl
      | exact trivial
      | ((repeat' (first | exact trivial | refine And.intro ?_ ?_)); done)
      | decide
      | (intro r hr; simp only [List.mem_cons, List.not_mem_nil, or_false] at hr; first | (subst hr; rfl) | (rcases hr with rfl | rfl <;> rfl) | (rcases hr with rfl | rfl | rfl <;> rfl) | (rcases hr with rfl | rfl | rfl | rfl <;> rfl))
      | (refine And.intro ?_ ?_ <;> simp only [List.length_map, List.length_append, List.length_cons, List.length_nil] <;> omega))
    all_goals try (exfalso; have h' := of_decide_eq_false h; omega; done)
    all_goals try (exfalso; (try have h' := of_decide_eq_true h); (try simp (disch := omega) [IntWalk.i64_in] at h'); (try simp (disch := omega) [IntWalk.i64_in] at h); (try omega); done)
    conv => whnf
    refine ⟨⟨(a ++ [x], b2), by rw [← hab, hb]; simp⟩, ?_, Nat.lt_succ_self _⟩
    repeat' (
      (conv => whnf)
      first
      | refine Or.inl ?_
      | refine And.intro (Obl.out (?_ : Obl _)) ?_
      | refine ifB_intro (fun h => ?_) (fun h => ?_)
      | refine Exists.intro _ (And.intro rfl ?_)
      | ((with_reducible show _ = _); rfl))
    all_goals try (
      (with_reducible refine Obl.mk ?_)
      first
      | ((with_reducible show regOk _ _ = true); kernel_rfl)
      | ((with_reducible show eqTyOk _ _ = true); kernel_rfl)
      | rfl
      | exact trivial
      | ((repeat' (first | exact trivial | refine And.intro ?_ ?_)); done)
      | decide
      | (intro r hr; simp only [List.mem_cons, List.not_mem_nil, or_false] at hr; first | (subst hr; rfl) | (rcases hr with rfl | rfl <;> rfl) | (rcases hr with rfl | rfl | rfl <;> rfl) | (rcases hr with rfl | rfl | rfl | rfl <;> rfl))
      | (refine And.intro ?_ ?_ <;> simp only [List.length_map, List.length_append, List.length_cons, List.length_nil] <;> omega))
    · refine ⟨congrArg (Tr.int _) ?_⟩
      dsimp only
      rw [cnRs_snoc, hcx]
      try simp (disch := omega) only [IntWalk.i64_in]
      try omega
    · refine ⟨congrArg (Tr.int _) ?_⟩
      dsimp only
      rw [List.length_append]
      try simp (disch := omega) only [IntWalk.i64_in]
      try rfl
theorem cn_RowS (xs : List (TRow)) (hs : smallT 1048576 (.lst 3 (xs.map TRow.tr))) : cnRs (xs.map TRow.tr) ≤ 1048576 * 3 := by
  have h1 := small_nat hs
  refine Nat.le_trans (cnRs_map_le (g := TRow.tr) (M := 3) fun x hx => ?_) (Nat.mul_le_mul_right _ h1)
  have hcx : cnR (TRow.tr x) = 3 := by simp only [TRow.tr, cnR, cnT]
  rw [hcx]
  omega
theorem g_laws_markInlineS (xs : List (TInline)) (k : Int) (hk0 : 0 ≤ k) (hl : xs.length ≤ 1099511627776) (hk : k + (cnRs (xs.map TInline.tr) : Nat) ≤ 4611686018427387904) : SpecG Try.prog 58 [.r (.c (.own (0, 0, 0))), tI .i64 k] [((0, 0, 0), .arr false 5 (xs.map TInline.tr))] (tI .i64 (k + (cnRs (xs.map TInline.tr) : Nat))) [((0, 0, 0), .arr false 5 (mkRs (xs.map TInline.tr) k))] := by
  refine specG_of_W hΓ hmix Try.func58 rfl (by decide) rfl rfl ?_
  repeat' (
    (conv => whnf)
    first
    | refine Or.inl ?_
    | refine And.intro (Obl.out (?_ : Obl _)) ?_
    | refine ifB_intro (fun h => ?_) (fun h => ?_)
    | refine Exists.intro _ (And.intro rfl ?_)
    | ((with_reducible show _ = _); rfl))
  all_goals try (
    (with_reducible refine Obl.mk ?_)
    first
    | ((with_reducible show regOk _ _ = true); kernel_rfl)
    | ((with_reducible show eqTyOk _ _ = true); kernel_rfl)
    | rfl
    | exact trivial
    | ((repeat' (first | exact trivial | refine And.intro ?_ ?_)); done)
    | decide
    | (intro r hr; simp only [List.mem_cons, List.not_mem_nil, or_false] at hr; first | (subst hr; rfl) | (rcases hr with rfl | rfl <;> rfl) | (rcases hr with rfl | rfl | rfl <;> rfl) | (rcases hr with rfl | rfl | rfl | rfl <;> rfl))
    | (refine And.intro ?_ ?_ <;> simp only [List.length_map, List.length_append, List.length_cons, List.length_nil] <;> omega))
  conv => whnf
  refine ⟨{ q : List (TInline) × List (TInline) // q.1 ++ q.2 = xs }, fun q => ⟨[(0, .r (.c (.own (0, 0, 0)))), (1, tI .i64 (k + (cnRs (q.1.1.map TInline.tr) : Nat))), (5, tI .i64 (q.1.1.length : Nat))], [((0, 0, 0), some (.arr false 5 (mkRs (q.1.1.map TInline.tr) k ++ q.1.2.map TInline.tr)))], [0]⟩, fun q => q.1.2.length, ⟨([], xs), rfl⟩, ?_, ?_⟩
  · skip
    repeat' (
      (conv => whnf)
      first
      | refine Or.inl ?_
      | refine And.intro (Obl.out (?_ : Obl _)) ?_
      | refine ifB_intro (fun h => ?_) (fun h => ?_)
      | refine Exists.intro _ (And.intro rfl ?_)
      | ((with_reducible show _ = _); rfl))
    all_goals try (
      (with_reducible refine Obl.mk ?_)
      first
      | ((with_reducible show regOk _ _ = true); kernel_rfl)
      | ((with_reducible show eqTyOk _ _ = true); kernel_rfl)
      | rfl
      | exact trivial
      | ((repeat' (first | exact trivial | refine And.intro ?_ ?_)); done)
      | decide
      | (intro r hr; simp only [List.mem_cons, List.not_mem_nil, or_false] at hr; first | (subst hr; rfl) | (rcases hr with rfl | rfl <;> rfl) | (rcases hr with rfl | rfl | rfl <;> rfl) | (rcases hr with rfl | rfl | rfl | rfl <;> rfl))
      | (refine And.intro ?_ ?_ <;> simp only [List.length_map, List.length_append, List.length_cons, List.length_nil] <;> omega))
    all_goals exact ⟨by first | rfl | simp [cnRs, mkRs]⟩
  intro ⟨⟨a, b⟩, hab⟩
  dsimp only at hab ⊢
  have hal : a.length + b.length ≤ 1099511627776 := by rw [← List.length_append, hab]; exact hl
  have hsum : k + (cnRs (a.map TInline.tr) : Nat) + (cnRs (b.map TInline.tr) : Nat) = k + (cnRs (xs.map TInline.tr) : Nat) := by rw [← hab, List.map_append, cnRs_append]; omega
  have hall : mkRs (xs.map TInline.tr) k = mkRs (a.map TInline.tr) k ++ mkRs (b.map TInline.tr) (k + (cnRs (a.map TInline.tr) : Nat)) := by rw [← hab, List.map_append, mkRs_append]
  have hDl : (mkRs (a.map TInline.tr) k).length = a.length := by rw [mkRs_length, List.length_map]
  generalize hR : mkRs (a.map TInline.tr) k ++ b.map TInline.tr = R
  have hRl : R.length = a.length + b.length := by rw [← hR]; simp [hDl]
  generalize hK : k + (cnRs (a.map TInline.tr) : Nat) = K at hsum hall ⊢
  generalize hD : mkRs (a.map TInline.tr) k = D at hR hall hDl
  generalize hT : mkRs (xs.map TInline.tr) k = T at hall ⊢
  generalize hC : k + (cnRs (xs.map TInline.tr) : Nat) = C at hk hsum ⊢
  have hK0 : 0 ≤ K := by omega
  rcases hb : b with _ | ⟨x, b2⟩
  all_goals rw [hb] at hR hall hsum hRl hal
  · have hKC : K = C := by simpa [cnRs] using hsum
    have hRT : R = T := by rw [hall, ← hR]; simp [mkRs]
    repeat' (
      (conv => whnf)
      first
      | refine Or.inl ?_
      | refine And.intro (Obl.out (?_ : Obl _)) ?_
      | refine ifB_intro (fun h => ?_) (fun h => ?_)
      | refine Exists.intro _ (And.intro rfl ?_)
      | ((with_reducible show _ = _); rfl))
    all_goals try (
      (with_reducible refine Obl.mk ?_)
      first
      | ((with_reducible show regOk _ _ = true); kernel_rfl)
      | ((with_reducible show eqTyOk _ _ = true); kernel_rfl)
      | rfl
      | exact trivial
      | ((repeat' (first | exact trivial | refine And.intro ?_ ?_)); done)
      | decide
      | (intro r hr; simp only [List.mem_cons, List.not_mem_nil, or_false] at hr; first | (subst hr; rfl) | (rcases hr with rfl | rfl <;> rfl) | (rcases hr with rfl | rfl | rfl <;> rfl) | (rcases hr with rfl | rfl | rfl | rfl <;> rfl))
      | (refine And.intro ?_ ?_ <;> simp only [List.length_map, List.length_append, List.length_cons, List.length_nil] <;> omega))
    all_goals try (exfalso; have h' := of_decide_eq_true h; rw [hRl] at h'; simp at h'; done)
    all_goals first | exact ⟨by rw [hKC]⟩ | exact ⟨hRT⟩
  · have hal2 : a.length + (b2.length + 1) ≤ 1099511627776 := hal
    have hcx : cnR (TInline.tr x) = 5 := by simp only [TInline.tr, cnR, cnT]
    have hsm : K + ((5 : Nat) : Int) + (cnRs (b2.map TInline.tr) : Nat) = C := by rw [← hsum, List.map_cons, cnRs, hcx]; omega
    have hRl2 : R.length = a.length + (b2.length + 1) := hRl
    have hget : R[a.length]? = some (TInline.tr x) := by rw [← hR]; exact mid_get hDl
    repeat' (
      (conv => whnf)
      first
      | refine Or.inl ?_
      | refine And.intro (Obl.out (?_ : Obl _)) ?_
      | refine ifB_intro (fun h => ?_) (fun h => ?_)
      | refine ⟨_, hget, ?_⟩
      | refine ⟨_, set_get (by (try simp only [List.length_set]); omega), ?_⟩
      | refine call_intro ((s_laws_markText _ (by (try simp (disch := omega) only [IntWalk.i64_in]); omega))) (And.intro rfl trivial) ?_
      | refine Exists.intro _ (And.intro rfl ?_)
      | ((with_reducible show _ = _); rfl))
    all_goals try (
      (with_reducible refine Obl.mk ?_)
      first
      | ((with_reducible show regOk _ _ = true); kernel_rfl)
      | ((with_reducible show eqTyOk _ _ = true); kernel_rfl)
      | rfl
      | exact trivial
      | ((repeat' (first | exact trivial | refine And.intro ?_ ?_)); done)
      | decide
      | (intro r hr; simp only [List.mem_cons, List.not_mem_nil, or_false] at hr; first | (subst hr; rfl) | (rcases hr with rfl | rfl <;> rfl) | (rcases hr with rfl | rfl | rfl <;> rfl) | (rcases hr with rfl | rfl | rfl | rfl <;> rfl))
      | (refine And.intro ?_ ?_ <;> simp only [List.length_map, List.length_append, List.length_cons, List.length_nil] <;> omega))
    all_goals try (exfalso; have h' := of_decide_eq_false h; omega; done)
    all_goals try exact ⟨by (try simp only [List.length_set]); omega⟩
    conv => whnf
    refine ⟨⟨(a ++ [x], b2), by rw [← hab, hb]; simp⟩, ?_, Nat.lt_succ_self _⟩
    repeat' (
      (conv => whnf)
      first
      | refine Or.inl ?_
      | refine And.intro (Obl.out (?_ : Obl _)) ?_
      | refine ifB_intro (fun h => ?_) (fun h => ?_)
      | refine Exists.intro _ (And.intro rfl ?_)
      | ((with_reducible show _ = _); rfl))
    all_goals try (
      (with_reducible refine Obl.mk ?_)
      first
      | ((with_reducible show regOk _ _ = true); kernel_rfl)
      | ((with_reducible show eqTyOk _ _ = true); kernel_rfl)
      | rfl
      | exact trivial
      | ((repeat' (first | exact trivial | refine And.intro ?_ ?_)); done)
      | decide
      | (intro r hr; simp only [List.mem_cons, List.not_mem_nil, or_false] at hr; first | (subst hr; rfl) | (rcases hr with rfl | rfl <;> rfl) | (rcases hr with rfl | rfl | rfl <;> rfl) | (rcases hr with rfl | rfl | rfl | rfl <;> rfl))
      | (refine And.intro ?_ ?_ <;> simp only [List.length_map, List.length_append, List.length_cons, List.length_nil] <;> omega))
    · refine ⟨congrArg (Tr.int _) ?_⟩
      dsimp only
      rw [cnRs_snoc, hcx]
      try simp (disch := omega) only [IntWalk.i64_in]
      try omega
    · refine ⟨congrArg (Tr.int _) ?_⟩
      dsimp only
      rw [List.length_append]
      try simp (disch := omega) only [IntWalk.i64_in]
      try rfl
    · refine ⟨?_⟩
      dsimp only
      rw [mkRs_snoc, snoc_cons, hD, hK, ← hR]
      try simp (disch := omega) only [set_set, mid_set hDl, List.map_cons, IntWalk.i64_in]
      try rfl
theorem s_laws_heldInlineS (xs : List (TInline)) (k : Int) (hk0 : 0 ≤ k) (hl : xs.length ≤ 1099511627776) (hk : k + (cnRs (xs.map TInline.tr) : Nat) ≤ 4611686018427387904) : Sim.Spec Try.prog 59 [tvL 5 (mkRs (xs.map TInline.tr) k), tvI k] (rI (k + (cnRs (xs.map TInline.tr) : Nat))) := by
  refine spec_of_W hΓ hmix Try.func59 rfl (by decide) rfl ?_
  have hTl : (mkRs (xs.map TInline.tr) k).length = xs.length := by rw [mkRs_length, List.length_map]
  have hal0 := fun (a b : List (TInline)) => mkRs_append (a.map TInline.tr) (b.map TInline.tr) k
  generalize hT : mkRs (xs.map TInline.tr) k = T at hTl ⊢
  repeat' (
    (conv => whnf)
    first
    | refine Or.inl ?_
    | refine And.intro (Obl.out (?_ : Obl _)) ?_
    | refine ifB_intro (fun h => ?_) (fun h => ?_)
    | refine Exists.intro _ (And.intro rfl ?_)
    | ((with_reducible show _ = _); rfl))
  all_goals try (
    (with_reducible refine Obl.mk ?_)
    first
    | ((with_reducible show regOk _ _ = true); kernel_rfl)
    | ((with_reducible show eqTyOk _ _ = true); kernel_rfl)
    | rfl
    | exact trivial
    | ((repeat' (first | exact trivial | refine And.intro ?_ ?_)); done)
    | decide
    | (intro r hr; simp only [List.mem_cons, List.not_mem_nil, or_false] at hr; first | (subst hr; rfl) | (rcases hr with rfl | rfl <;> rfl) | (rcases hr with rfl | rfl | rfl <;> rfl) | (rcases hr with rfl | rfl | rfl | rfl <;> rfl))
    | (refine And.intro ?_ ?_ <;> simp only [List.length_map, List.length_append, List.length_cons, List.length_nil] <;> omega))
  conv => whnf
  refine ⟨{ q : List (TInline) × List (TInline) // q.1 ++ q.2 = xs }, fun q => ⟨[(0, .r (.c (.t (.lst 5 T)))), (1, tI .i64 (k + (cnRs (q.1.1.map TInline.tr) : Nat))), (5, tI .i64 (q.1.1.length : Nat))], [], []⟩, fun q => q.1.2.length, ⟨([], xs), rfl⟩, ?_, ?_⟩
  · skip
    repeat' (
      (conv => whnf)
      first
      | refine Or.inl ?_
      | refine And.intro (Obl.out (?_ : Obl _)) ?_
      | refine ifB_intro (fun h => ?_) (fun h => ?_)
      | refine Exists.intro _ (And.intro rfl ?_)
      | ((with_reducible show _ = _); rfl))
    all_goals try (
      (with_reducible refine Obl.mk ?_)
      first
      | ((with_reducible show regOk _ _ = true); kernel_rfl)
      | ((with_reducible show eqTyOk _ _ = true); kernel_rfl)
      | rfl
      | exact trivial
      | ((repeat' (first | exact trivial | refine And.intro ?_ ?_)); done)
      | decide
      | (intro r hr; simp only [List.mem_cons, List.not_mem_nil, or_false] at hr; first | (subst hr; rfl) | (rcases hr with rfl | rfl <;> rfl) | (rcases hr with rfl | rfl | rfl <;> rfl) | (rcases hr with rfl | rfl | rfl | rfl <;> rfl))
      | (refine And.intro ?_ ?_ <;> simp only [List.length_map, List.length_append, List.length_cons, List.length_nil] <;> omega))
    all_goals exact ⟨by first | rfl | simp [cnRs]⟩
  intro ⟨⟨a, b⟩, hab⟩
  dsimp only at hab ⊢
  have hal : a.length + b.length ≤ 1099511627776 := by rw [← List.length_append, hab]; exact hl
  have hsum : k + (cnRs (a.map TInline.tr) : Nat) + (cnRs (b.map TInline.tr) : Nat) = k + (cnRs (xs.map TInline.tr) : Nat) := by rw [← hab, List.map_append, cnRs_append]; omega
  have hall : T = mkRs (a.map TInline.tr) k ++ mkRs (b.map TInline.tr) (k + (cnRs (a.map TInline.tr) : Nat)) := by rw [← hT, ← hab, List.map_append, mkRs_append]
  have hDl : (mkRs (a.map TInline.tr) k).length = a.length := by rw [mkRs_length, List.length_map]
  have hTl2 : T.length = a.length + b.length := by rw [hTl, ← hab, List.length_append]
  generalize hK : k + (cnRs (a.map TInline.tr) : Nat) = K at hsum hall ⊢
  generalize hD : mkRs (a.map TInline.tr) k = D at hall hDl
  generalize hC : k + (cnRs (xs.map TInline.tr) : Nat) = C at hk hsum ⊢
  have hK0 : 0 ≤ K := by omega
  rcases hb : b with _ | ⟨x, b2⟩
  all_goals rw [hb] at hall hsum hTl2 hal
  · have hKC : K = C := by simpa [cnRs] using hsum
    repeat' (
      (conv => whnf)
      first
      | refine Or.inl ?_
      | refine And.intro (Obl.out (?_ : Obl _)) ?_
      | refine ifB_intro (fun h => ?_) (fun h => ?_)
      | refine Exists.intro _ (And.intro rfl ?_)
      | ((with_reducible show _ = _); rfl))
    all_goals try (
      (with_reducible refine Obl.mk ?_)
      first
      | ((with_reducible show regOk _ _ = true); kernel_rfl)
      | ((with_reducible show eqTyOk _ _ = true); kernel_rfl)
      | rfl
      | exact trivial
      | ((repeat' (first | exact trivial | refine And.intro ?_ ?_)); done)
      | decide
      | (intro r hr; simp only [List.mem_cons, List.not_mem_nil, or_false] at hr; first | (subst hr; rfl) | (rcases hr with rfl | rfl <;> rfl) | (rcases hr with rfl | rfl | rfl <;> rfl) | (rcases hr with rfl | rfl | rfl | rfl <;> rfl))
      | (refine And.intro ?_ ?_ <;> simp only [List.length_map, List.length_append, List.length_cons, List.length_nil] <;> omega))
    all_goals try (exfalso; have h' := of_decide_eq_true h; rw [hTl2] at h'; simp at h'; done)
    all_goals exact ⟨by rw [hKC]⟩
  · have hal2 : a.length + (b2.length + 1) ≤ 1099511627776 := hal
    have hcx : cnR (TInline.tr x) = 5 := by simp only [TInline.tr, cnR, cnT]
    have hsm : K + ((5 : Nat) : Int) + (cnRs (b2.map TInline.tr) : Nat) = C := by rw [← hsum, List.map_cons, cnRs, hcx]; omega
    have hTl3 : T.length = a.length + (b2.length + 1) := hTl2
    have hget : T[a.length]? = some [.int .i64 (K), .int .i64 (K + 1), .int .i64 (K + 1 + 1), .int .i64 (K + 1 + 1 + 1), .str (mText (K + 1 + 1 + 1 + 1))] := by rw [hall, List.map_cons, mkRs]; exact mid_get hDl
    repeat' (
      (conv => whnf)
      first
      | refine Or.inl ?_
      | refine And.intro (Obl.out (?_ : Obl _)) ?_
      | refine ifB_intro (fun h => ?_) (fun h => ?_)
      | refine ⟨a.length, _, rfl, hget, ?_⟩
      | refine call_intro ((s_laws_markText _ (by (try simp (disch := omega) only [IntWalk.i64_in]); omega))) (And.intro rfl trivial) ?_
      | refine Exists.intro _ (And.intro rfl ?_)
      | ((with_reducible show _ = _); rfl))
    all_goals try (
      (with_reducible refine Obl.mk ?_)
      first
      | ((with_reducible show regOk _ _ = true); kernel_rfl)
      | ((with_reducible show eqTyOk _ _ = true); kernel_rfl)
      | rfl
      | exact trivial
      | ((repeat' (first | exact trivial | refine And.intro ?_ ?_)); done)
      | decide
      | (intro r hr; simp only [List.mem_cons, List.not_mem_nil, or_false] at hr; first | (subst hr; rfl) | (rcases hr with rfl | rfl <;> rfl) | (rcases hr with rfl | rfl | rfl <;> rfl) | (rcases hr with rfl | rfl | rfl | rfl <;> rfl))
      | (refine And.intro ?_ ?_ <;> simp only [List.length_map, List.length_append, List.length_cons, List.length_nil] <;> omega))
    all_goals try (exfalso; have h' := of_decide_eq_false h; omega; done)
    all_goals try (exfalso; (try have h' := of_decide_eq_true h); (try simp (disch := omega) [IntWalk.i64_in] at h'); (try simp (disch := omega) [IntWalk.i64_in] at h); (try omega); done)
    conv => whnf
    refine ⟨⟨(a ++ [x], b2), by rw [← hab, hb]; simp⟩, ?_, Nat.lt_succ_self _⟩
    repeat' (
      (conv => whnf)
      first
      | refine Or.inl ?_
      | refine And.intro (Obl.out (?_ : Obl _)) ?_
      | refine ifB_intro (fun h => ?_) (fun h => ?_)
      | refine Exists.intro _ (And.intro rfl ?_)
      | ((with_reducible show _ = _); rfl))
    all_goals try (
      (with_reducible refine Obl.mk ?_)
      first
      | ((with_reducible show regOk _ _ = true); kernel_rfl)
      | ((with_reducible show eqTyOk _ _ = true); kernel_rfl)
      | rfl
      | exact trivial
      | ((repeat' (first | exact trivial | refine And.intro ?_ ?_)); done)
      | decide
      | (intro r hr; simp only [List.mem_cons, List.not_mem_nil, or_false] at hr; first | (subst hr; rfl) | (rcases hr with rfl | rfl <;> rfl) | (rcases hr with rfl | rfl | rfl <;> rfl) | (rcases hr with rfl | rfl | rfl | rfl <;> rfl))
      | (refine And.intro ?_ ?_ <;> simp only [List.length_map, List.length_append, List.length_cons, List.length_nil] <;> omega))
    · refine ⟨congrArg (Tr.int _) ?_⟩
      dsimp only
      rw [cnRs_snoc, hcx]
      try simp (disch := omega) only [IntWalk.i64_in]
      try omega
    · refine ⟨congrArg (Tr.int _) ?_⟩
      dsimp only
      rw [List.length_append]
      try simp (disch := omega) only [IntWalk.i64_in]
      try rfl
theorem cn_InlineS (xs : List (TInline)) (hs : smallT 1048576 (.lst 5 (xs.map TInline.tr))) : cnRs (xs.map TInline.tr) ≤ 1048576 * 5 := by
  have h1 := small_nat hs
  refine Nat.le_trans (cnRs_map_le (g := TInline.tr) (M := 5) fun x hx => ?_) (Nat.mul_le_mul_right _ h1)
  have hcx : cnR (TInline.tr x) = 5 := by simp only [TInline.tr, cnR, cnT]
  rw [hcx]
  omega
theorem g_laws_markDebug (x : TDebug) (k : Int) (hk0 : 0 ≤ k) (hl1 : x.fSymbols.length ≤ 1099511627776) (hl2 : x.fRules.length ≤ 1099511627776) (hl3 : x.fRows.length ≤ 1099511627776) (hl4 : x.fInlines.length ≤ 1099511627776) (hk : k + (cnRs (x.fSymbols.map TSymbol.tr) : Nat) + (cnRs (x.fRules.map TRule.tr) : Nat) + (cnRs (x.fRows.map TRow.tr) : Nat) + (cnRs (x.fInlines.map TInline.tr) : Nat) ≤ 4611686018427387904) : SpecG Try.prog 31 [.r (.agg [.t (.int .i64 x.fId), .own (0, 0, 1), .own (0, 0, 2), .own (0, 0, 3), .own (0, 0, 4)]), tI .i64 k] [((0, 0, 1), .arr false 3 (x.fSymbols.map TSymbol.tr)), ((0, 0, 2), .arr false 4 (x.fRules.map TRule.tr)), ((0, 0, 3), .arr false 3 (x.fRows.map TRow.tr)), ((0, 0, 4), .arr false 5 (x.fInlines.map TInline.tr))] (tI .i64 (k + (cnRs (x.fSymbols.map TSymbol.tr) : Nat) + (cnRs (x.fRules.map TRule.tr) : Nat) + (cnRs (x.fRows.map TRow.tr) : Nat) + (cnRs (x.fInlines.map TInline.tr) : Nat))) [((0, 0, 1), .arr false 3 (mkRs (x.fSymbols.map TSymbol.tr) (k))), ((0, 0, 2), .arr false 4 (mkRs (x.fRules.map TRule.tr) (k + (cnRs (x.fSymbols.map TSymbol.tr) : Nat)))), ((0, 0, 3), .arr false 3 (mkRs (x.fRows.map TRow.tr) (k + (cnRs (x.fSymbols.map TSymbol.tr) : Nat) + (cnRs (x.fRules.map TRule.tr) : Nat)))), ((0, 0, 4), .arr false 5 (mkRs (x.fInlines.map TInline.tr) (k + (cnRs (x.fSymbols.map TSymbol.tr) : Nat) + (cnRs (x.fRules.map TRule.tr) : Nat) + (cnRs (x.fRows.map TRow.tr) : Nat))))] := by
  refine specG_of_W hΓ hmix Try.func31 rfl (by decide) rfl rfl ?_
  repeat' (
    (conv => whnf)
    first
    | refine seq_inl ?_
    | refine And.intro (Obl.out (?_ : Obl _)) ?_
    | refine ifB_intro (fun h => ?_) (fun h => ?_)
    | refine Exists.intro _ (And.intro rfl ?_)
    | ((with_reducible show _ = _); rfl))
  all_goals try (
    (with_reducible refine Obl.mk ?_)
    first
    | ((with_reducible show regOk _ _ = true); kernel_rfl)
    | ((with_reducible show eqTyOk _ _ = true); kernel_rfl)
    | rfl
    | exact trivial
    | ((repeat' (first | exact trivial | refine And.intro ?_ ?_)); done)
    | decide
    | (intro r hr; simp only [List.mem_cons, List.not_mem_nil, or_false] at hr; first | (subst hr; rfl) | (rcases hr with rfl | rfl <;> rfl) | (rcases hr with rfl | rfl | rfl <;> rfl) | (rcases hr with rfl | rfl | rfl | rfl <;> rfl))
    | (refine And.intro ?_ ?_ <;> simp only [List.length_map, List.length_append, List.length_cons, List.length_nil] <;> omega))
  refine callG_intro (g_laws_markSymbolS x.fSymbols (k) (by omega) hl1 (by omega)) ?_
  repeat' (
    (conv => whnf)
    first
    | refine seq_inl ?_
    | refine And.intro (Obl.out (?_ : Obl _)) ?_
    | refine ifB_intro (fun h => ?_) (fun h => ?_)
    | refine Exists.intro _ (And.intro rfl ?_)
    | ((with_reducible show _ = _); rfl))
  all_goals try (
    (with_reducible refine Obl.mk ?_)
    first
    | ((with_reducible show regOk _ _ = true); kernel_rfl)
    | ((with_reducible show eqTyOk _ _ = true); kernel_rfl)
    | rfl
    | exact trivial
    | ((repeat' (first | exact trivial | refine And.intro ?_ ?_)); done)
    | decide
    | (intro r hr; simp only [List.mem_cons, List.not_mem_nil, or_false] at hr; first | (subst hr; rfl) | (rcases hr with rfl | rfl <;> rfl) | (rcases hr with rfl | rfl | rfl <;> rfl) | (rcases hr with rfl | rfl | rfl | rfl <;> rfl))
    | (refine And.intro ?_ ?_ <;> simp only [List.length_map, List.length_append, List.length_cons, List.length_nil] <;> omega))
  refine callG_intro (g_laws_markRuleS x.fRules (k + (cnRs (x.fSymbols.map TSymbol.tr) : Nat)) (by omega) hl2 (by omega)) ?_
  repeat' (
    (conv => whnf)
    first
    | refine seq_inl ?_
    | refine And.intro (Obl.out (?_ : Obl _)) ?_
    | refine ifB_intro (fun h => ?_) (fun h => ?_)
    | refine Exists.intro _ (And.intro rfl ?_)
    | ((with_reducible show _ = _); rfl))
  all_goals try (
    (with_reducible refine Obl.mk ?_)
    first
    | ((with_reducible show regOk _ _ = true); kernel_rfl)
    | ((with_reducible show eqTyOk _ _ = true); kernel_rfl)
    | rfl
    | exact trivial
    | ((repeat' (first | exact trivial | refine And.intro ?_ ?_)); done)
    | decide
    | (intro r hr; simp only [List.mem_cons, List.not_mem_nil, or_false] at hr; first | (subst hr; rfl) | (rcases hr with rfl | rfl <;> rfl) | (rcases hr with rfl | rfl | rfl <;> rfl) | (rcases hr with rfl | rfl | rfl | rfl <;> rfl))
    | (refine And.intro ?_ ?_ <;> simp only [List.length_map, List.length_append, List.length_cons, List.length_nil] <;> omega))
  refine callG_intro (g_laws_markRowS x.fRows (k + (cnRs (x.fSymbols.map TSymbol.tr) : Nat) + (cnRs (x.fRules.map TRule.tr) : Nat)) (by omega) hl3 (by omega)) ?_
  repeat' (
    (conv => whnf)
    first
    | refine seq_inl ?_
    | refine And.intro (Obl.out (?_ : Obl _)) ?_
    | refine ifB_intro (fun h => ?_) (fun h => ?_)
    | refine Exists.intro _ (And.intro rfl ?_)
    | ((with_reducible show _ = _); rfl))
  all_goals try (
    (with_reducible refine Obl.mk ?_)
    first
    | ((with_reducible show regOk _ _ = true); kernel_rfl)
    | ((with_reducible show eqTyOk _ _ = true); kernel_rfl)
    | rfl
    | exact trivial
    | ((repeat' (first | exact trivial | refine And.intro ?_ ?_)); done)
    | decide
    | (intro r hr; simp only [List.mem_cons, List.not_mem_nil, or_false] at hr; first | (subst hr; rfl) | (rcases hr with rfl | rfl <;> rfl) | (rcases hr with rfl | rfl | rfl <;> rfl) | (rcases hr with rfl | rfl | rfl | rfl <;> rfl))
    | (refine And.intro ?_ ?_ <;> simp only [List.length_map, List.length_append, List.length_cons, List.length_nil] <;> omega))
  refine callG_intro (g_laws_markInlineS x.fInlines (k + (cnRs (x.fSymbols.map TSymbol.tr) : Nat) + (cnRs (x.fRules.map TRule.tr) : Nat) + (cnRs (x.fRows.map TRow.tr) : Nat)) (by omega) hl4 (by omega)) ?_
  repeat' (
    (conv => whnf)
    first
    | refine seq_inl ?_
    | refine And.intro (Obl.out (?_ : Obl _)) ?_
    | refine ifB_intro (fun h => ?_) (fun h => ?_)
    | refine Exists.intro _ (And.intro rfl ?_)
    | ((with_reducible show _ = _); rfl))
  all_goals try (
    (with_reducible refine Obl.mk ?_)
    first
    | ((with_reducible show regOk _ _ = true); kernel_rfl)
    | ((with_reducible show eqTyOk _ _ = true); kernel_rfl)
    | rfl
    | exact trivial
    | ((repeat' (first | exact trivial | refine And.intro ?_ ?_)); done)
    | decide
    | (intro r hr; simp only [List.mem_cons, List.not_mem_nil, or_false] at hr; first | (subst hr; rfl) | (rcases hr with rfl | rfl <;> rfl) | (rcases hr with rfl | rfl | rfl <;> rfl) | (rcases hr with rfl | rfl | rfl | rfl <;> rfl))
    | (refine And.intro ?_ ?_ <;> simp only [List.length_map, List.length_append, List.length_cons, List.length_nil] <;> omega))
theorem s_laws_heldDebug (x : TDebug) (k : Int) (hk0 : 0 ≤ k) (hl1 : x.fSymbols.length ≤ 1099511627776) (hl2 : x.fRules.length ≤ 1099511627776) (hl3 : x.fRows.length ≤ 1099511627776) (hl4 : x.fInlines.length ≤ 1099511627776) (hk : k + (cnRs (x.fSymbols.map TSymbol.tr) : Nat) + (cnRs (x.fRules.map TRule.tr) : Nat) + (cnRs (x.fRows.map TRow.tr) : Nat) + (cnRs (x.fInlines.map TInline.tr) : Nat) ≤ 4611686018427387904) : Sim.Spec Try.prog 32 [.agg [.int .i64 x.fId, .lst 3 (mkRs (x.fSymbols.map TSymbol.tr) (k)), .lst 4 (mkRs (x.fRules.map TRule.tr) (k + (cnRs (x.fSymbols.map TSymbol.tr) : Nat))), .lst 3 (mkRs (x.fRows.map TRow.tr) (k + (cnRs (x.fSymbols.map TSymbol.tr) : Nat) + (cnRs (x.fRules.map TRule.tr) : Nat))), .lst 5 (mkRs (x.fInlines.map TInline.tr) (k + (cnRs (x.fSymbols.map TSymbol.tr) : Nat) + (cnRs (x.fRules.map TRule.tr) : Nat) + (cnRs (x.fRows.map TRow.tr) : Nat)))], tvI k] (rI (k + (cnRs (x.fSymbols.map TSymbol.tr) : Nat) + (cnRs (x.fRules.map TRule.tr) : Nat) + (cnRs (x.fRows.map TRow.tr) : Nat) + (cnRs (x.fInlines.map TInline.tr) : Nat))) := by
  refine spec_of_W hΓ hmix Try.func32 rfl (by decide) rfl ?_
  repeat' (
    (conv => whnf)
    first
    | refine Or.inl ?_
    | refine And.intro (Obl.out (?_ : Obl _)) ?_
    | refine ifB_intro (fun h => ?_) (fun h => ?_)
    | refine call_intro ((s_laws_heldSymbolS x.fSymbols (k) (by omega) hl1 (by omega))) (And.intro rfl (And.intro rfl trivial)) ?_
    | refine Exists.intro _ (And.intro rfl ?_)
    | ((with_reducible show _ = _); rfl))
  all_goals try (
    (with_reducible refine Obl.mk ?_)
    first
    | ((with_reducible show regOk _ _ = true); kernel_rfl)
    | ((with_reducible show eqTyOk _ _ = true); kernel_rfl)
    | rfl
    | exact trivial
    | ((repeat' (first | exact trivial | refine And.intro ?_ ?_)); done)
    | decide
    | (intro r hr; simp only [List.mem_cons, List.not_mem_nil, or_false] at hr; first | (subst hr; rfl) | (rcases hr with rfl | rfl <;> rfl) | (rcases hr with rfl | rfl | rfl <;> rfl) | (rcases hr with rfl | rfl | rfl | rfl <;> rfl))
    | (refine And.intro ?_ ?_ <;> simp only [List.length_map, List.length_append, List.length_cons, List.length_nil] <;> omega))
  all_goals try (exfalso; have h' := of_decide_eq_true h; omega; done)
  repeat' (
    (conv => whnf)
    first
    | refine Or.inl ?_
    | refine And.intro (Obl.out (?_ : Obl _)) ?_
    | refine ifB_intro (fun h => ?_) (fun h => ?_)
    | refine call_intro ((s_laws_heldRuleS x.fRules (k + (cnRs (x.fSymbols.map TSymbol.tr) : Nat)) (by omega) hl2 (by omega))) (And.intro rfl (And.intro rfl trivial)) ?_
    | refine Exists.intro _ (And.intro rfl ?_)
    | ((with_reducible show _ = _); rfl))
  all_goals try (
    (with_reducible refine Obl.mk ?_)
    first
    | ((with_reducible show regOk _ _ = true); kernel_rfl)
    | ((with_reducible show eqTyOk _ _ = true); kernel_rfl)
    | rfl
    | exact trivial
    | ((repeat' (first | exact trivial | refine And.intro ?_ ?_)); done)
    | decide
    | (intro r hr; simp only [List.mem_cons, List.not_mem_nil, or_false] at hr; first | (subst hr; rfl) | (rcases hr with rfl | rfl <;> rfl) | (rcases hr with rfl | rfl | rfl <;> rfl) | (rcases hr with rfl | rfl | rfl | rfl <;> rfl))
    | (refine And.intro ?_ ?_ <;> simp only [List.length_map, List.length_append, List.length_cons, List.length_nil] <;> omega))
  all_goals try (exfalso; have h' := of_decide_eq_true h; omega; done)
  repeat' (
    (conv => whnf)
    first
    | refine Or.inl ?_
    | refine And.intro (Obl.out (?_ : Obl _)) ?_
    | refine ifB_intro (fun h => ?_) (fun h => ?_)
    | refine call_intro ((s_laws_heldRowS x.fRows (k + (cnRs (x.fSymbols.map TSymbol.tr) : Nat) + (cnRs (x.fRules.map TRule.tr) : Nat)) (by omega) hl3 (by omega))) (And.intro rfl (And.intro rfl trivial)) ?_
    | refine Exists.intro _ (And.intro rfl ?_)
    | ((with_reducible show _ = _); rfl))
  all_goals try (
    (with_reducible refine Obl.mk ?_)
    first
    | ((with_reducible show regOk _ _ = true); kernel_rfl)
    | ((with_reducible show eqTyOk _ _ = true); kernel_rfl)
    | rfl
    | exact trivial
    | ((repeat' (first | exact trivial | refine And.intro ?_ ?_)); done)
    | decide
    | (intro r hr; simp only [List.mem_cons, List.not_mem_nil, or_false] at hr; first | (subst hr; rfl) | (rcases hr with rfl | rfl <;> rfl) | (rcases hr with rfl | rfl | rfl <;> rfl) | (rcases hr with rfl | rfl | rfl | rfl <;> rfl))
    | (refine And.intro ?_ ?_ <;> simp only [List.length_map, List.length_append, List.length_cons, List.length_nil] <;> omega))
  all_goals try (exfalso; have h' := of_decide_eq_true h; omega; done)
  repeat' (
    (conv => whnf)
    first
    | refine Or.inl ?_
    | refine And.intro (Obl.out (?_ : Obl _)) ?_
    | refine ifB_intro (fun h => ?_) (fun h => ?_)
    | refine call_intro ((s_laws_heldInlineS x.fInlines (k + (cnRs (x.fSymbols.map TSymbol.tr) : Nat) + (cnRs (x.fRules.map TRule.tr) : Nat) + (cnRs (x.fRows.map TRow.tr) : Nat)) (by omega) hl4 (by omega))) (And.intro rfl (And.intro rfl trivial)) ?_
    | refine Exists.intro _ (And.intro rfl ?_)
    | ((with_reducible show _ = _); rfl))
  all_goals try (
    (with_reducible refine Obl.mk ?_)
    first
    | ((with_reducible show regOk _ _ = true); kernel_rfl)
    | ((with_reducible show eqTyOk _ _ = true); kernel_rfl)
    | rfl
    | exact trivial
    | ((repeat' (first | exact trivial | refine And.intro ?_ ?_)); done)
    | decide
    | (intro r hr; simp only [List.mem_cons, List.not_mem_nil, or_false] at hr; first | (subst hr; rfl) | (rcases hr with rfl | rfl <;> rfl) | (rcases hr with rfl | rfl | rfl <;> rfl) | (rcases hr with rfl | rfl | rfl | rfl <;> rfl))
    | (refine And.intro ?_ ?_ <;> simp only [List.length_map, List.length_append, List.length_cons, List.length_nil] <;> omega))
  all_goals try (exfalso; have h' := of_decide_eq_true h; omega; done)
  all_goals exact ⟨rfl⟩
end Go.Proofs.Ytflolafbblohnaa
