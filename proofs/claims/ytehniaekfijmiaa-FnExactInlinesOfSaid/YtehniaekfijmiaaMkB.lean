/- The laws' helpers that mark what they are handed, and look for the marks; copies that are owned to the bottom. -/
import Derived.Test.YtehniaekfijmiaaMkA
import Derived.Test.YtehniaekfijmiaaTyB
namespace Go.Proofs.Ytehniaekfijmiaa
open Go.Sim Go.RowKit
set_option maxRecDepth 100000
set_option maxHeartbeats 4000000
theorem mkR_flat : ∀ (cs : List Tr) (k : Int), (∀ c ∈ cs, ∀ sz rs, c ≠ .lst sz rs) → ∀ c ∈ mkR cs k, ∀ sz rs, c ≠ .lst sz rs
  | [], _, _, c, hc, _, _ => by rw [mkR] at hc; cases hc
  | d :: cs, k, h, c, hc, sz, rs => by
    rw [mkR] at hc
    rcases List.mem_cons.1 hc with rfl | hc
    · have := h d (by simp)
      cases d with
      | lst sz rows => exact absurd rfl (this sz rows)
      | _ => intro e; simp [mkT] at e
    · exact mkR_flat cs _ (fun c hc => h c (by simp [hc])) c hc sz rs
theorem flat_mk : ∀ (rows : List (List Tr)) (k : Int), flat rows → flat (mkRs rows k)
  | [], _, _ => by rw [mkRs]; intro r hr; cases hr
  | r :: rows, k, h => by
    rw [mkRs]
    intro row hr
    rcases List.mem_cons.1 hr with rfl | hr
    · exact mkR_flat r k (h r (by simp))
    · exact flat_mk rows _ (fun r hr => h r (by simp [hr])) row hr
theorem dig_byte (m : Nat) : IntKind.u8.wrap (IntKind.i64.wrap (48 + (m : Int).tmod 10)) = ((UInt8.ofNat (48 + m % 10)).toNat : Int) := by
  rw [Int.tmod_eq_emod_of_nonneg (by omega), IntWalk.i64_in _ (by omega), IntWalk.u8_in _ (by omega)]
  simp
  omega
theorem dig_div (m : Nat) (h : m ≤ 9223372036854775807) : IntKind.i64.wrap ((m : Int).tdiv 10) = ((m / 10 : Nat) : Int) := by
  rw [Int.tdiv_eq_ediv_of_nonneg (by omega), IntWalk.i64_in _ (by omega)]
  omega
theorem s_laws_markText (k : Int) (hk : k ≤ 9223372036854775807) : Sim.Spec Try.prog 92 [tvI k] (rS (mText k)) := by
  refine spec_of_W hΓ hmix Try.func92 rfl (by decide) rfl ?_
  repeat' ((conv => whnf); first | refine Or.inl ?_ | refine And.intro (Obl.out (?_ : Obl _)) ?_ | refine ifB_intro (fun h => ?_) (fun h => ?_) | refine Exists.intro _ (And.intro rfl ?_) | ((with_reducible show _ = _); rfl))
  all_goals try ((with_reducible refine Obl.mk ?_); first | ((with_reducible show regOk _ _ = true); kernel_rfl) | ((with_reducible show eqTyOk _ _ = true); kernel_rfl) | rfl | exact trivial | ((repeat' (first | exact trivial | refine And.intro ?_ ?_)); done) | decide | ((repeat' (first | exact List.forall_mem_nil _ | refine List.forall_mem_cons.2 (And.intro rfl ?_))); done) | (refine And.intro ?_ ?_ <;> simp only [List.length_map, List.length_append, List.length_cons, List.length_nil] <;> omega))
  · exact ⟨by rw [mText, if_pos (of_decide_eq_true h)]⟩
  have h0 : ¬ k ≤ 0 := of_decide_eq_false h
  clear h
  rw [mText, if_neg h0]
  obtain ⟨n, rfl⟩ := Int.eq_ofNat_of_zero_le (show 0 ≤ k by omega)
  conv => whnf
  refine ⟨{ q : Nat × List UInt8 // digs q.1 q.2 = digs n [] ∧ q.1 * 10 ^ q.2.length ≤ 9223372036854775807 ∧ q.2.length ≤ 20 }, fun q => ⟨[(0, tI .i64 (q.1.1 : Nat)), (3, tS q.1.2)], [], []⟩, fun q => q.1.1, ⟨(n, []), by simp, by simp; omega, by simp⟩, ?_, ?_⟩
  · skip
    repeat' ((conv => whnf); first | refine Or.inl ?_ | refine And.intro (Obl.out (?_ : Obl _)) ?_ | refine ifB_intro (fun h => ?_) (fun h => ?_) | refine Exists.intro _ (And.intro rfl ?_) | ((with_reducible show _ = _); rfl))
    all_goals try ((with_reducible refine Obl.mk ?_); first | ((with_reducible show regOk _ _ = true); kernel_rfl) | ((with_reducible show eqTyOk _ _ = true); kernel_rfl) | rfl | exact trivial | ((repeat' (first | exact trivial | refine And.intro ?_ ?_)); done) | decide | ((repeat' (first | exact List.forall_mem_nil _ | refine List.forall_mem_cons.2 (And.intro rfl ?_))); done) | (refine And.intro ?_ ?_ <;> simp only [List.length_map, List.length_append, List.length_cons, List.length_nil] <;> omega))
  intro ⟨⟨m, o⟩, hd, hb, hl⟩
  dsimp only at hd hb hl ⊢
  have hm : m ≤ 9223372036854775807 := Nat.le_trans (Nat.le_mul_of_pos_right m (Nat.pow_pos (by omega))) hb
  repeat' ((conv => whnf); first | refine Or.inl ?_ | refine And.intro (Obl.out (?_ : Obl _)) ?_ | refine ifB_intro (fun h => ?_) (fun h => ?_) | refine Exists.intro _ (And.intro rfl ?_) | ((with_reducible show _ = _); rfl))
  all_goals try ((with_reducible refine Obl.mk ?_); first | ((with_reducible show regOk _ _ = true); kernel_rfl) | ((with_reducible show eqTyOk _ _ = true); kernel_rfl) | rfl | exact trivial | ((repeat' (first | exact trivial | refine And.intro ?_ ?_)); done) | decide | ((repeat' (first | exact List.forall_mem_nil _ | refine List.forall_mem_cons.2 (And.intro rfl ?_))); done) | (refine And.intro ?_ ?_ <;> simp only [List.length_map, List.length_append, List.length_cons, List.length_nil] <;> omega))
  all_goals try exact ⟨fun r hr => by simp at hr; subst hr; rfl⟩
  all_goals try exact ⟨by simp; omega⟩
  · have hmp : 0 < m := by have := of_decide_eq_true h; omega
    have hl18 : o.length ≤ 18 := by
      rcases Nat.lt_or_ge 18 o.length with h' | h'
      · have h1 : 10 ^ 19 ≤ 10 ^ o.length := Nat.pow_le_pow_right (by omega) h'
        have h2 : 10 ^ o.length ≤ m * 10 ^ o.length := Nat.le_mul_of_pos_left _ hmp
        omega
      · exact h'
    conv => whnf
    refine ⟨[UInt8.ofNat (48 + m % 10)], by rw [dig_byte]; rfl, ?_⟩
    repeat' ((conv => whnf); first | refine Or.inl ?_ | refine And.intro (Obl.out (?_ : Obl _)) ?_ | refine ifB_intro (fun h => ?_) (fun h => ?_) | refine Exists.intro _ (And.intro rfl ?_) | ((with_reducible show _ = _); rfl))
    all_goals try ((with_reducible refine Obl.mk ?_); first | ((with_reducible show regOk _ _ = true); kernel_rfl) | ((with_reducible show eqTyOk _ _ = true); kernel_rfl) | rfl | exact trivial | ((repeat' (first | exact trivial | refine And.intro ?_ ?_)); done) | decide | ((repeat' (first | exact List.forall_mem_nil _ | refine List.forall_mem_cons.2 (And.intro rfl ?_))); done) | (refine And.intro ?_ ?_ <;> simp only [List.length_map, List.length_append, List.length_cons, List.length_nil] <;> omega))
    all_goals try exact ⟨by simp; omega⟩
    conv => whnf
    refine ⟨⟨(m / 10, UInt8.ofNat (48 + m % 10) :: o), by rw [← hd, digs.eq_def m, if_neg (by omega)], ?_, by simp; omega⟩, ?_, by dsimp only; omega⟩
    · dsimp only
      rw [List.length_cons, Nat.pow_succ]
      have h1 : m / 10 * 10 ≤ m := Nat.div_mul_le_self m 10
      have h2 := Nat.mul_le_mul_right (10 ^ o.length) h1
      rw [Nat.mul_comm (10 ^ o.length) 10, ← Nat.mul_assoc]
      omega
    repeat' ((conv => whnf); first | refine Or.inl ?_ | refine And.intro (Obl.out (?_ : Obl _)) ?_ | refine ifB_intro (fun h => ?_) (fun h => ?_) | refine Exists.intro _ (And.intro rfl ?_) | ((with_reducible show _ = _); rfl))
    all_goals try ((with_reducible refine Obl.mk ?_); first | ((with_reducible show regOk _ _ = true); kernel_rfl) | ((with_reducible show eqTyOk _ _ = true); kernel_rfl) | rfl | exact trivial | ((repeat' (first | exact trivial | refine And.intro ?_ ?_)); done) | decide | ((repeat' (first | exact List.forall_mem_nil _ | refine List.forall_mem_cons.2 (And.intro rfl ?_))); done) | (refine And.intro ?_ ?_ <;> simp only [List.length_map, List.length_append, List.length_cons, List.length_nil] <;> omega))
    exact ⟨by dsimp only; rw [dig_div m hm]⟩
  · have hm0 : m = 0 := by have := of_decide_eq_false h; omega
    subst hm0
    rw [digs, if_pos rfl] at hd
    exact ⟨by rw [hd]; rfl⟩
theorem g_laws_markIntS (xs : List (Int)) (k : Int) (hk0 : 0 ≤ k) (hl : xs.length ≤ 1099511627776) (hk : k + (cnRs (xs.map intRow) : Nat) ≤ 4611686018427387904) : SpecG Try.prog 81 [.r (.c (.own (0, 0, 0))), tI .i64 k] [((0, 0, 0), .arr false 1 (xs.map intRow))] (tI .i64 (k + (cnRs (xs.map intRow) : Nat))) [((0, 0, 0), .arr false 1 (mkRs (xs.map intRow) k))] := by
  refine specG_of_W hΓ hmix Try.func81 rfl (by decide) rfl rfl ?_
  repeat' ((conv => whnf); first | refine Or.inl ?_ | refine And.intro (Obl.out (?_ : Obl _)) ?_ | refine ifB_intro (fun h => ?_) (fun h => ?_) | refine Exists.intro _ (And.intro rfl ?_) | ((with_reducible show _ = _); rfl))
  all_goals try ((with_reducible refine Obl.mk ?_); first | ((with_reducible show regOk _ _ = true); kernel_rfl) | ((with_reducible show eqTyOk _ _ = true); kernel_rfl) | rfl | exact trivial | ((repeat' (first | exact trivial | refine And.intro ?_ ?_)); done) | decide | ((repeat' (first | exact List.forall_mem_nil _ | refine List.forall_mem_cons.2 (And.intro rfl ?_))); done) | (refine And.intro ?_ ?_ <;> simp only [List.length_map, List.length_append, List.length_cons, List.length_nil] <;> omega))
  conv => whnf
  refine ⟨{ q : List (Int) × List (Int) // q.1 ++ q.2 = xs }, fun q => ⟨[(0, .r (.c (.own (0, 0, 0)))), (1, tI .i64 (k + (cnRs (q.1.1.map intRow) : Nat))), (5, tI .i64 (q.1.1.length : Nat))], [((0, 0, 0), some (.arr false 1 (mkRs (q.1.1.map intRow) k ++ q.1.2.map intRow)))], [0]⟩, fun q => q.1.2.length, ⟨([], xs), rfl⟩, ?_, ?_⟩
  · skip
    repeat' ((conv => whnf); first | refine Or.inl ?_ | refine And.intro (Obl.out (?_ : Obl _)) ?_ | refine ifB_intro (fun h => ?_) (fun h => ?_) | refine Exists.intro _ (And.intro rfl ?_) | ((with_reducible show _ = _); rfl))
    all_goals try ((with_reducible refine Obl.mk ?_); first | ((with_reducible show regOk _ _ = true); kernel_rfl) | ((with_reducible show eqTyOk _ _ = true); kernel_rfl) | rfl | exact trivial | ((repeat' (first | exact trivial | refine And.intro ?_ ?_)); done) | decide | ((repeat' (first | exact List.forall_mem_nil _ | refine List.forall_mem_cons.2 (And.intro rfl ?_))); done) | (refine And.intro ?_ ?_ <;> simp only [List.length_map, List.length_append, List.length_cons, List.length_nil] <;> omega))
    all_goals exact ⟨by first | rfl | simp [cnRs, mkRs]⟩
  intro ⟨⟨a, b⟩, hab⟩
  dsimp only at hab ⊢
  have hal : a.length + b.length ≤ 1099511627776 := by rw [← List.length_append, hab]; exact hl
  have hsum : k + (cnRs (a.map intRow) : Nat) + (cnRs (b.map intRow) : Nat) = k + (cnRs (xs.map intRow) : Nat) := by rw [← hab, List.map_append, cnRs_append]; omega
  have hall : mkRs (xs.map intRow) k = mkRs (a.map intRow) k ++ mkRs (b.map intRow) (k + (cnRs (a.map intRow) : Nat)) := by rw [← hab, List.map_append, mkRs_append]
  have hDl : (mkRs (a.map intRow) k).length = a.length := by rw [mkRs_length, List.length_map]
  generalize hR : mkRs (a.map intRow) k ++ b.map intRow = R
  have hRl : R.length = a.length + b.length := by rw [← hR]; simp [hDl]
  generalize hK : k + (cnRs (a.map intRow) : Nat) = K at hsum hall ⊢
  generalize hD : mkRs (a.map intRow) k = D at hR hall hDl
  generalize hT : mkRs (xs.map intRow) k = T at hall ⊢
  generalize hC : k + (cnRs (xs.map intRow) : Nat) = C at hk hsum ⊢
  have hK0 : 0 ≤ K := by omega
  rcases hb : b with _ | ⟨x, b2⟩
  all_goals rw [hb] at hR hall hsum hRl hal
  · have hKC : K = C := by simpa [cnRs] using hsum
    have hRT : R = T := by rw [hall, ← hR]; simp [mkRs]
    repeat' ((conv => whnf); first | refine Or.inl ?_ | refine And.intro (Obl.out (?_ : Obl _)) ?_ | refine ifB_intro (fun h => ?_) (fun h => ?_) | refine Exists.intro _ (And.intro rfl ?_) | ((with_reducible show _ = _); rfl))
    all_goals try ((with_reducible refine Obl.mk ?_); first | ((with_reducible show regOk _ _ = true); kernel_rfl) | ((with_reducible show eqTyOk _ _ = true); kernel_rfl) | rfl | exact trivial | ((repeat' (first | exact trivial | refine And.intro ?_ ?_)); done) | decide | ((repeat' (first | exact List.forall_mem_nil _ | refine List.forall_mem_cons.2 (And.intro rfl ?_))); done) | (refine And.intro ?_ ?_ <;> simp only [List.length_map, List.length_append, List.length_cons, List.length_nil] <;> omega))
    all_goals try (exfalso; have h' := of_decide_eq_true h; rw [hRl] at h'; simp at h'; done)
    all_goals first | exact ⟨by rw [hKC]⟩ | exact ⟨hRT⟩
  · have hal2 : a.length + (b2.length + 1) ≤ 1099511627776 := hal
    have hcx : cnR (intRow x) = 1 := by simp only [intRow, cnR, cnT]
    have hsm : K + ((1 : Nat) : Int) + (cnRs (b2.map intRow) : Nat) = C := by rw [← hsum, List.map_cons, cnRs, hcx]; omega
    have hRl2 : R.length = a.length + (b2.length + 1) := hRl
    have hget : R[a.length]? = some (intRow x) := by rw [← hR]; exact mid_get hDl
    repeat' ((conv => whnf); first | refine Or.inl ?_ | refine And.intro (Obl.out (?_ : Obl _)) ?_ | refine ifB_intro (fun h => ?_) (fun h => ?_) | refine ⟨_, hget, ?_⟩ | refine ⟨_, set_get (by (try simp only [List.length_set]); omega), ?_⟩ | refine call_intro ((s_laws_markText _ (by (try simp (disch := omega) only [IntWalk.i64_in]); omega))) (And.intro rfl trivial) ?_ | refine Exists.intro _ (And.intro rfl ?_) | ((with_reducible show _ = _); rfl))
    all_goals try ((with_reducible refine Obl.mk ?_); first | ((with_reducible show regOk _ _ = true); kernel_rfl) | ((with_reducible show eqTyOk _ _ = true); kernel_rfl) | rfl | exact trivial | ((repeat' (first | exact trivial | refine And.intro ?_ ?_)); done) | decide | ((repeat' (first | exact List.forall_mem_nil _ | refine List.forall_mem_cons.2 (And.intro rfl ?_))); done) | (refine And.intro ?_ ?_ <;> simp only [List.length_map, List.length_append, List.length_cons, List.length_nil] <;> omega))
    all_goals try (exfalso; have h' := of_decide_eq_false h; omega; done)
    all_goals try exact ⟨by (try simp only [List.length_set]); omega⟩
    conv => whnf
    refine ⟨⟨(a ++ [x], b2), by rw [← hab, hb]; simp⟩, ?_, Nat.lt_succ_self _⟩
    repeat' ((conv => whnf); first | refine Or.inl ?_ | refine And.intro (Obl.out (?_ : Obl _)) ?_ | refine ifB_intro (fun h => ?_) (fun h => ?_) | refine Exists.intro _ (And.intro rfl ?_) | ((with_reducible show _ = _); rfl))
    all_goals try ((with_reducible refine Obl.mk ?_); first | ((with_reducible show regOk _ _ = true); kernel_rfl) | ((with_reducible show eqTyOk _ _ = true); kernel_rfl) | rfl | exact trivial | ((repeat' (first | exact trivial | refine And.intro ?_ ?_)); done) | decide | ((repeat' (first | exact List.forall_mem_nil _ | refine List.forall_mem_cons.2 (And.intro rfl ?_))); done) | (refine And.intro ?_ ?_ <;> simp only [List.length_map, List.length_append, List.length_cons, List.length_nil] <;> omega))
    · refine ⟨congrArg (Tr.int _) ?_⟩
      dsimp only
      rw [cnRs_snoc, hcx]
      try simp (disch := omega) only [IntWalk.i64_in]
      try omega
    · refine ⟨congrArg (Tr.int _) ?_⟩
      dsimp only
      rw [List.length_append]
      try simp (disch := omega) only [IntWalk.i64_in]
      try rfl
    · refine ⟨?_⟩
      dsimp only
      rw [mkRs_snoc, snoc_cons, hD, hK, ← hR]
      try simp (disch := omega) only [set_set, mid_set hDl, List.map_cons, IntWalk.i64_in]
      try rfl
theorem cn_IntS (xs : List (Int)) (hs : smallT 1048576 (.lst 1 (xs.map intRow))) : cnRs (xs.map intRow) ≤ 1048576 * 1 := by
  have h1 := small_nat hs
  refine Nat.le_trans (cnRs_map_le (g := intRow) (M := 1) fun x hx => ?_) (Nat.mul_le_mul_right _ h1)
  have hcx : cnR (intRow x) = 1 := by simp only [intRow, cnR, cnT]
  rw [hcx]
  omega
theorem g_laws_markStringS (xs : List (List UInt8)) (k : Int) (hk0 : 0 ≤ k) (hl : xs.length ≤ 1099511627776) (hk : k + (cnRs (xs.map strRow) : Nat) ≤ 4611686018427387904) : SpecG Try.prog 93 [.r (.c (.own (0, 0, 0))), tI .i64 k] [((0, 0, 0), .arr false 1 (xs.map strRow))] (tI .i64 (k + (cnRs (xs.map strRow) : Nat))) [((0, 0, 0), .arr false 1 (mkRs (xs.map strRow) k))] := by
  refine specG_of_W hΓ hmix Try.func93 rfl (by decide) rfl rfl ?_
  repeat' ((conv => whnf); first | refine Or.inl ?_ | refine And.intro (Obl.out (?_ : Obl _)) ?_ | refine ifB_intro (fun h => ?_) (fun h => ?_) | refine Exists.intro _ (And.intro rfl ?_) | ((with_reducible show _ = _); rfl))
  all_goals try ((with_reducible refine Obl.mk ?_); first | ((with_reducible show regOk _ _ = true); kernel_rfl) | ((with_reducible show eqTyOk _ _ = true); kernel_rfl) | rfl | exact trivial | ((repeat' (first | exact trivial | refine And.intro ?_ ?_)); done) | decide | ((repeat' (first | exact List.forall_mem_nil _ | refine List.forall_mem_cons.2 (And.intro rfl ?_))); done) | (refine And.intro ?_ ?_ <;> simp only [List.length_map, List.length_append, List.length_cons, List.length_nil] <;> omega))
  conv => whnf
  refine ⟨{ q : List (List UInt8) × List (List UInt8) // q.1 ++ q.2 = xs }, fun q => ⟨[(0, .r (.c (.own (0, 0, 0)))), (1, tI .i64 (k + (cnRs (q.1.1.map strRow) : Nat))), (5, tI .i64 (q.1.1.length : Nat))], [((0, 0, 0), some (.arr false 1 (mkRs (q.1.1.map strRow) k ++ q.1.2.map strRow)))], [0]⟩, fun q => q.1.2.length, ⟨([], xs), rfl⟩, ?_, ?_⟩
  · skip
    repeat' ((conv => whnf); first | refine Or.inl ?_ | refine And.intro (Obl.out (?_ : Obl _)) ?_ | refine ifB_intro (fun h => ?_) (fun h => ?_) | refine Exists.intro _ (And.intro rfl ?_) | ((with_reducible show _ = _); rfl))
    all_goals try ((with_reducible refine Obl.mk ?_); first | ((with_reducible show regOk _ _ = true); kernel_rfl) | ((with_reducible show eqTyOk _ _ = true); kernel_rfl) | rfl | exact trivial | ((repeat' (first | exact trivial | refine And.intro ?_ ?_)); done) | decide | ((repeat' (first | exact List.forall_mem_nil _ | refine List.forall_mem_cons.2 (And.intro rfl ?_))); done) | (refine And.intro ?_ ?_ <;> simp only [List.length_map, List.length_append, List.length_cons, List.length_nil] <;> omega))
    all_goals exact ⟨by first | rfl | simp [cnRs, mkRs]⟩
  intro ⟨⟨a, b⟩, hab⟩
  dsimp only at hab ⊢
  have hal : a.length + b.length ≤ 1099511627776 := by rw [← List.length_append, hab]; exact hl
  have hsum : k + (cnRs (a.map strRow) : Nat) + (cnRs (b.map strRow) : Nat) = k + (cnRs (xs.map strRow) : Nat) := by rw [← hab, List.map_append, cnRs_append]; omega
  have hall : mkRs (xs.map strRow) k = mkRs (a.map strRow) k ++ mkRs (b.map strRow) (k + (cnRs (a.map strRow) : Nat)) := by rw [← hab, List.map_append, mkRs_append]
  have hDl : (mkRs (a.map strRow) k).length = a.length := by rw [mkRs_length, List.length_map]
  generalize hR : mkRs (a.map strRow) k ++ b.map strRow = R
  have hRl : R.length = a.length + b.length := by rw [← hR]; simp [hDl]
  generalize hK : k + (cnRs (a.map strRow) : Nat) = K at hsum hall ⊢
  generalize hD : mkRs (a.map strRow) k = D at hR hall hDl
  generalize hT : mkRs (xs.map strRow) k = T at hall ⊢
  generalize hC : k + (cnRs (xs.map strRow) : Nat) = C at hk hsum ⊢
  have hK0 : 0 ≤ K := by omega
  rcases hb : b with _ | ⟨x, b2⟩
  all_goals rw [hb] at hR hall hsum hRl hal
  · have hKC : K = C := by simpa [cnRs] using hsum
    have hRT : R = T := by rw [hall, ← hR]; simp [mkRs]
    repeat' ((conv => whnf); first | refine Or.inl ?_ | refine And.intro (Obl.out (?_ : Obl _)) ?_ | refine ifB_intro (fun h => ?_) (fun h => ?_) | refine Exists.intro _ (And.intro rfl ?_) | ((with_reducible show _ = _); rfl))
    all_goals try ((with_reducible refine Obl.mk ?_); first | ((with_reducible show regOk _ _ = true); kernel_rfl) | ((with_reducible show eqTyOk _ _ = true); kernel_rfl) | rfl | exact trivial | ((repeat' (first | exact trivial | refine And.intro ?_ ?_)); done) | decide | ((repeat' (first | exact List.forall_mem_nil _ | refine List.forall_mem_cons.2 (And.intro rfl ?_))); done) | (refine And.intro ?_ ?_ <;> simp only [List.length_map, List.length_append, List.length_cons, List.length_nil] <;> omega))
    all_goals try (exfalso; have h' := of_decide_eq_true h; rw [hRl] at h'; simp at h'; done)
    all_goals first | exact ⟨by rw [hKC]⟩ | exact ⟨hRT⟩
  · have hal2 : a.length + (b2.length + 1) ≤ 1099511627776 := hal
    have hcx : cnR (strRow x) = 1 := by simp only [strRow, cnR, cnT]
    have hsm : K + ((1 : Nat) : Int) + (cnRs (b2.map strRow) : Nat) = C := by rw [← hsum, List.map_cons, cnRs, hcx]; omega
    have hRl2 : R.length = a.length + (b2.length + 1) := hRl
    have hget : R[a.length]? = some (strRow x) := by rw [← hR]; exact mid_get hDl
    repeat' ((conv => whnf); first | refine Or.inl ?_ | refine And.intro (Obl.out (?_ : Obl _)) ?_ | refine ifB_intro (fun h => ?_) (fun h => ?_) | refine ⟨_, hget, ?_⟩ | refine ⟨_, set_get (by (try simp only [List.length_set]); omega), ?_⟩ | refine call_intro ((s_laws_markText _ (by (try simp (disch := omega) only [IntWalk.i64_in]); omega))) (And.intro rfl trivial) ?_ | refine Exists.intro _ (And.intro rfl ?_) | ((with_reducible show _ = _); rfl))
    all_goals try ((with_reducible refine Obl.mk ?_); first | ((with_reducible show regOk _ _ = true); kernel_rfl) | ((with_reducible show eqTyOk _ _ = true); kernel_rfl) | rfl | exact trivial | ((repeat' (first | exact trivial | refine And.intro ?_ ?_)); done) | decide | ((repeat' (first | exact List.forall_mem_nil _ | refine List.forall_mem_cons.2 (And.intro rfl ?_))); done) | (refine And.intro ?_ ?_ <;> simp only [List.length_map, List.length_append, List.length_cons, List.length_nil] <;> omega))
    all_goals try (exfalso; have h' := of_decide_eq_false h; omega; done)
    all_goals try exact ⟨by (try simp only [List.length_set]); omega⟩
    conv => whnf
    refine ⟨⟨(a ++ [x], b2), by rw [← hab, hb]; simp⟩, ?_, Nat.lt_succ_self _⟩
    repeat' ((conv => whnf); first | refine Or.inl ?_ | refine And.intro (Obl.out (?_ : Obl _)) ?_ | refine ifB_intro (fun h => ?_) (fun h => ?_) | refine Exists.intro _ (And.intro rfl ?_) | ((with_reducible show _ = _); rfl))
    all_goals try ((with_reducible refine Obl.mk ?_); first | ((with_reducible show regOk _ _ = true); kernel_rfl) | ((with_reducible show eqTyOk _ _ = true); kernel_rfl) | rfl | exact trivial | ((repeat' (first | exact trivial | refine And.intro ?_ ?_)); done) | decide | ((repeat' (first | exact List.forall_mem_nil _ | refine List.forall_mem_cons.2 (And.intro rfl ?_))); done) | (refine And.intro ?_ ?_ <;> simp only [List.length_map, List.length_append, List.length_cons, List.length_nil] <;> omega))
    · refine ⟨congrArg (Tr.int _) ?_⟩
      dsimp only
      rw [cnRs_snoc, hcx]
      try simp (disch := omega) only [IntWalk.i64_in]
      try omega
    · refine ⟨congrArg (Tr.int _) ?_⟩
      dsimp only
      rw [List.length_append]
      try simp (disch := omega) only [IntWalk.i64_in]
      try rfl
    · refine ⟨?_⟩
      dsimp only
      rw [mkRs_snoc, snoc_cons, hD, hK, ← hR]
      try simp (disch := omega) only [set_set, mid_set hDl, List.map_cons, IntWalk.i64_in]
      try rfl
theorem cn_StringS (xs : List (List UInt8)) (hs : smallT 1048576 (.lst 1 (xs.map strRow))) : cnRs (xs.map strRow) ≤ 1048576 * 1 := by
  have h1 := small_nat hs
  refine Nat.le_trans (cnRs_map_le (g := strRow) (M := 1) fun x hx => ?_) (Nat.mul_le_mul_right _ h1)
  have hcx : cnR (strRow x) = 1 := by simp only [strRow, cnR, cnT]
  rw [hcx]
  omega
theorem g_laws_markTokS (xs : List (TTok)) (k : Int) (hk0 : 0 ≤ k) (hl : xs.length ≤ 1099511627776) (hk : k + (cnRs (xs.map TTok.tr) : Nat) ≤ 4611686018427387904) : SpecG Try.prog 94 [.r (.c (.own (0, 0, 0))), tI .i64 k] [((0, 0, 0), .arr false 3 (xs.map TTok.tr))] (tI .i64 (k + (cnRs (xs.map TTok.tr) : Nat))) [((0, 0, 0), .arr false 3 (mkRs (xs.map TTok.tr) k))] := by
  refine specG_of_W hΓ hmix Try.func94 rfl (by decide) rfl rfl ?_
  repeat' ((conv => whnf); first | refine Or.inl ?_ | refine And.intro (Obl.out (?_ : Obl _)) ?_ | refine ifB_intro (fun h => ?_) (fun h => ?_) | refine Exists.intro _ (And.intro rfl ?_) | ((with_reducible show _ = _); rfl))
  all_goals try ((with_reducible refine Obl.mk ?_); first | ((with_reducible show regOk _ _ = true); kernel_rfl) | ((with_reducible show eqTyOk _ _ = true); kernel_rfl) | rfl | exact trivial | ((repeat' (first | exact trivial | refine And.intro ?_ ?_)); done) | decide | ((repeat' (first | exact List.forall_mem_nil _ | refine List.forall_mem_cons.2 (And.intro rfl ?_))); done) | (refine And.intro ?_ ?_ <;> simp only [List.length_map, List.length_append, List.length_cons, List.length_nil] <;> omega))
  conv => whnf
  refine ⟨{ q : List (TTok) × List (TTok) // q.1 ++ q.2 = xs }, fun q => ⟨[(0, .r (.c (.own (0, 0, 0)))), (1, tI .i64 (k + (cnRs (q.1.1.map TTok.tr) : Nat))), (5, tI .i64 (q.1.1.length : Nat))], [((0, 0, 0), some (.arr false 3 (mkRs (q.1.1.map TTok.tr) k ++ q.1.2.map TTok.tr)))], [0]⟩, fun q => q.1.2.length, ⟨([], xs), rfl⟩, ?_, ?_⟩
  · skip
    repeat' ((conv => whnf); first | refine Or.inl ?_ | refine And.intro (Obl.out (?_ : Obl _)) ?_ | refine ifB_intro (fun h => ?_) (fun h => ?_) | refine Exists.intro _ (And.intro rfl ?_) | ((with_reducible show _ = _); rfl))
    all_goals try ((with_reducible refine Obl.mk ?_); first | ((with_reducible show regOk _ _ = true); kernel_rfl) | ((with_reducible show eqTyOk _ _ = true); kernel_rfl) | rfl | exact trivial | ((repeat' (first | exact trivial | refine And.intro ?_ ?_)); done) | decide | ((repeat' (first | exact List.forall_mem_nil _ | refine List.forall_mem_cons.2 (And.intro rfl ?_))); done) | (refine And.intro ?_ ?_ <;> simp only [List.length_map, List.length_append, List.length_cons, List.length_nil] <;> omega))
    all_goals exact ⟨by first | rfl | simp [cnRs, mkRs]⟩
  intro ⟨⟨a, b⟩, hab⟩
  dsimp only at hab ⊢
  have hal : a.length + b.length ≤ 1099511627776 := by rw [← List.length_append, hab]; exact hl
  have hsum : k + (cnRs (a.map TTok.tr) : Nat) + (cnRs (b.map TTok.tr) : Nat) = k + (cnRs (xs.map TTok.tr) : Nat) := by rw [← hab, List.map_append, cnRs_append]; omega
  have hall : mkRs (xs.map TTok.tr) k = mkRs (a.map TTok.tr) k ++ mkRs (b.map TTok.tr) (k + (cnRs (a.map TTok.tr) : Nat)) := by rw [← hab, List.map_append, mkRs_append]
  have hDl : (mkRs (a.map TTok.tr) k).length = a.length := by rw [mkRs_length, List.length_map]
  generalize hR : mkRs (a.map TTok.tr) k ++ b.map TTok.tr = R
  have hRl : R.length = a.length + b.length := by rw [← hR]; simp [hDl]
  generalize hK : k + (cnRs (a.map TTok.tr) : Nat) = K at hsum hall ⊢
  generalize hD : mkRs (a.map TTok.tr) k = D at hR hall hDl
  generalize hT : mkRs (xs.map TTok.tr) k = T at hall ⊢
  generalize hC : k + (cnRs (xs.map TTok.tr) : Nat) = C at hk hsum ⊢
  have hK0 : 0 ≤ K := by omega
  rcases hb : b with _ | ⟨x, b2⟩
  all_goals rw [hb] at hR hall hsum hRl hal
  · have hKC : K = C := by simpa [cnRs] using hsum
    have hRT : R = T := by rw [hall, ← hR]; simp [mkRs]
    repeat' ((conv => whnf); first | refine Or.inl ?_ | refine And.intro (Obl.out (?_ : Obl _)) ?_ | refine ifB_intro (fun h => ?_) (fun h => ?_) | refine Exists.intro _ (And.intro rfl ?_) | ((with_reducible show _ = _); rfl))
    all_goals try ((with_reducible refine Obl.mk ?_); first | ((with_reducible show regOk _ _ = true); kernel_rfl) | ((with_reducible show eqTyOk _ _ = true); kernel_rfl) | rfl | exact trivial | ((repeat' (first | exact trivial | refine And.intro ?_ ?_)); done) | decide | ((repeat' (first | exact List.forall_mem_nil _ | refine List.forall_mem_cons.2 (And.intro rfl ?_))); done) | (refine And.intro ?_ ?_ <;> simp only [List.length_map, List.length_append, List.length_cons, List.length_nil] <;> omega))
    all_goals try (exfalso; have h' := of_decide_eq_true h; rw [hRl] at h'; simp at h'; done)
    all_goals first | exact ⟨by rw [hKC]⟩ | exact ⟨hRT⟩
  · have hal2 : a.length + (b2.length + 1) ≤ 1099511627776 := hal
    have hcx : cnR (TTok.tr x) = 3 := by simp only [TTok.tr, cnR, cnT]
    have hsm : K + ((3 : Nat) : Int) + (cnRs (b2.map TTok.tr) : Nat) = C := by rw [← hsum, List.map_cons, cnRs, hcx]; omega
    have hRl2 : R.length = a.length + (b2.length + 1) := hRl
    have hget : R[a.length]? = some (TTok.tr x) := by rw [← hR]; exact mid_get hDl
    repeat' ((conv => whnf); first | refine Or.inl ?_ | refine And.intro (Obl.out (?_ : Obl _)) ?_ | refine ifB_intro (fun h => ?_) (fun h => ?_) | refine ⟨_, hget, ?_⟩ | refine ⟨_, set_get (by (try simp only [List.length_set]); omega), ?_⟩ | refine call_intro ((s_laws_markText _ (by (try simp (disch := omega) only [IntWalk.i64_in]); omega))) (And.intro rfl trivial) ?_ | refine Exists.intro _ (And.intro rfl ?_) | ((with_reducible show _ = _); rfl))
    all_goals try ((with_reducible refine Obl.mk ?_); first | ((with_reducible show regOk _ _ = true); kernel_rfl) | ((with_reducible show eqTyOk _ _ = true); kernel_rfl) | rfl | exact trivial | ((repeat' (first | exact trivial | refine And.intro ?_ ?_)); done) | decide | ((repeat' (first | exact List.forall_mem_nil _ | refine List.forall_mem_cons.2 (And.intro rfl ?_))); done) | (refine And.intro ?_ ?_ <;> simp only [List.length_map, List.length_append, List.length_cons, List.length_nil] <;> omega))
    all_goals try (exfalso; have h' := of_decide_eq_false h; omega; done)
    all_goals try exact ⟨by (try simp only [List.length_set]); omega⟩
    conv => whnf
    refine ⟨⟨(a ++ [x], b2), by rw [← hab, hb]; simp⟩, ?_, Nat.lt_succ_self _⟩
    repeat' ((conv => whnf); first | refine Or.inl ?_ | refine And.intro (Obl.out (?_ : Obl _)) ?_ | refine ifB_intro (fun h => ?_) (fun h => ?_) | refine Exists.intro _ (And.intro rfl ?_) | ((with_reducible show _ = _); rfl))
    all_goals try ((with_reducible refine Obl.mk ?_); first | ((with_reducible show regOk _ _ = true); kernel_rfl) | ((with_reducible show eqTyOk _ _ = true); kernel_rfl) | rfl | exact trivial | ((repeat' (first | exact trivial | refine And.intro ?_ ?_)); done) | decide | ((repeat' (first | exact List.forall_mem_nil _ | refine List.forall_mem_cons.2 (And.intro rfl ?_))); done) | (refine And.intro ?_ ?_ <;> simp only [List.length_map, List.length_append, List.length_cons, List.length_nil] <;> omega))
    · refine ⟨congrArg (Tr.int _) ?_⟩
      dsimp only
      rw [cnRs_snoc, hcx]
      try simp (disch := omega) only [IntWalk.i64_in]
      try omega
    · refine ⟨congrArg (Tr.int _) ?_⟩
      dsimp only
      rw [List.length_append]
      try simp (disch := omega) only [IntWalk.i64_in]
      try rfl
    · refine ⟨?_⟩
      dsimp only
      rw [mkRs_snoc, snoc_cons, hD, hK, ← hR]
      try simp (disch := omega) only [set_set, mid_set hDl, List.map_cons, IntWalk.i64_in]
      try rfl
theorem cn_TokS (xs : List (TTok)) (hs : smallT 1048576 (.lst 3 (xs.map TTok.tr))) : cnRs (xs.map TTok.tr) ≤ 1048576 * 3 := by
  have h1 := small_nat hs
  refine Nat.le_trans (cnRs_map_le (g := TTok.tr) (M := 3) fun x hx => ?_) (Nat.mul_le_mul_right _ h1)
  have hcx : cnR (TTok.tr x) = 3 := by simp only [TTok.tr, cnR, cnT]
  rw [hcx]
  omega
theorem g_laws_markInlineS (xs : List (TInline)) (k : Int) (hk0 : 0 ≤ k) (hl : xs.length ≤ 1099511627776) (hk : k + (cnRs (xs.map TInline.tr) : Nat) ≤ 4611686018427387904) : SpecG Try.prog 38 [.r (.c (.own (0, 0, 0))), tI .i64 k] [((0, 0, 0), .arr false 5 (xs.map TInline.tr))] (tI .i64 (k + (cnRs (xs.map TInline.tr) : Nat))) [((0, 0, 0), .arr false 5 (mkRs (xs.map TInline.tr) k))] := by
  refine specG_of_W hΓ hmix Try.func38 rfl (by decide) rfl rfl ?_
  repeat' ((conv => whnf); first | refine Or.inl ?_ | refine And.intro (Obl.out (?_ : Obl _)) ?_ | refine ifB_intro (fun h => ?_) (fun h => ?_) | refine Exists.intro _ (And.intro rfl ?_) | ((with_reducible show _ = _); rfl))
  all_goals try ((with_reducible refine Obl.mk ?_); first | ((with_reducible show regOk _ _ = true); kernel_rfl) | ((with_reducible show eqTyOk _ _ = true); kernel_rfl) | rfl | exact trivial | ((repeat' (first | exact trivial | refine And.intro ?_ ?_)); done) | decide | ((repeat' (first | exact List.forall_mem_nil _ | refine List.forall_mem_cons.2 (And.intro rfl ?_))); done) | (refine And.intro ?_ ?_ <;> simp only [List.length_map, List.length_append, List.length_cons, List.length_nil] <;> omega))
  conv => whnf
  refine ⟨{ q : List (TInline) × List (TInline) // q.1 ++ q.2 = xs }, fun q => ⟨[(0, .r (.c (.own (0, 0, 0)))), (1, tI .i64 (k + (cnRs (q.1.1.map TInline.tr) : Nat))), (5, tI .i64 (q.1.1.length : Nat))], [((0, 0, 0), some (.arr false 5 (mkRs (q.1.1.map TInline.tr) k ++ q.1.2.map TInline.tr)))], [0]⟩, fun q => q.1.2.length, ⟨([], xs), rfl⟩, ?_, ?_⟩
  · skip
    repeat' ((conv => whnf); first | refine Or.inl ?_ | refine And.intro (Obl.out (?_ : Obl _)) ?_ | refine ifB_intro (fun h => ?_) (fun h => ?_) | refine Exists.intro _ (And.intro rfl ?_) | ((with_reducible show _ = _); rfl))
    all_goals try ((with_reducible refine Obl.mk ?_); first | ((with_reducible show regOk _ _ = true); kernel_rfl) | ((with_reducible show eqTyOk _ _ = true); kernel_rfl) | rfl | exact trivial | ((repeat' (first | exact trivial | refine And.intro ?_ ?_)); done) | decide | ((repeat' (first | exact List.forall_mem_nil _ | refine List.forall_mem_cons.2 (And.intro rfl ?_))); done) | (refine And.intro ?_ ?_ <;> simp only [List.length_map, List.length_append, List.length_cons, List.length_nil] <;> omega))
    all_goals exact ⟨by first | rfl | simp [cnRs, mkRs]⟩
  intro ⟨⟨a, b⟩, hab⟩
  dsimp only at hab ⊢
  have hal : a.length + b.length ≤ 1099511627776 := by rw [← List.length_append, hab]; exact hl
  have hsum : k + (cnRs (a.map TInline.tr) : Nat) + (cnRs (b.map TInline.tr) : Nat) = k + (cnRs (xs.map TInline.tr) : Nat) := by rw [← hab, List.map_append, cnRs_append]; omega
  have hall : mkRs (xs.map TInline.tr) k = mkRs (a.map TInline.tr) k ++ mkRs (b.map TInline.tr) (k + (cnRs (a.map TInline.tr) : Nat)) := by rw [← hab, List.map_append, mkRs_append]
  have hDl : (mkRs (a.map TInline.tr) k).length = a.length := by rw [mkRs_length, List.length_map]
  generalize hR : mkRs (a.map TInline.tr) k ++ b.map TInline.tr = R
  have hRl : R.length = a.length + b.length := by rw [← hR]; simp [hDl]
  generalize hK : k + (cnRs (a.map TInline.tr) : Nat) = K at hsum hall ⊢
  generalize hD : mkRs (a.map TInline.tr) k = D at hR hall hDl
  generalize hT : mkRs (xs.map TInline.tr) k = T at hall ⊢
  generalize hC : k + (cnRs (xs.map TInline.tr) : Nat) = C at hk hsum ⊢
  have hK0 : 0 ≤ K := by omega
  rcases hb : b with _ | ⟨x, b2⟩
  all_goals rw [hb] at hR hall hsum hRl hal
  · have hKC : K = C := by simpa [cnRs] using hsum
    have hRT : R = T := by rw [hall, ← hR]; simp [mkRs]
    repeat' ((conv => whnf); first | refine Or.inl ?_ | refine And.intro (Obl.out (?_ : Obl _)) ?_ | refine ifB_intro (fun h => ?_) (fun h => ?_) | refine Exists.intro _ (And.intro rfl ?_) | ((with_reducible show _ = _); rfl))
    all_goals try ((with_reducible refine Obl.mk ?_); first | ((with_reducible show regOk _ _ = true); kernel_rfl) | ((with_reducible show eqTyOk _ _ = true); kernel_rfl) | rfl | exact trivial | ((repeat' (first | exact trivial | refine And.intro ?_ ?_)); done) | decide | ((repeat' (first | exact List.forall_mem_nil _ | refine List.forall_mem_cons.2 (And.intro rfl ?_))); done) | (refine And.intro ?_ ?_ <;> simp only [List.length_map, List.length_append, List.length_cons, List.length_nil] <;> omega))
    all_goals try (exfalso; have h' := of_decide_eq_true h; rw [hRl] at h'; simp at h'; done)
    all_goals first | exact ⟨by rw [hKC]⟩ | exact ⟨hRT⟩
  · have hal2 : a.length + (b2.length + 1) ≤ 1099511627776 := hal
    have hcx : cnR (TInline.tr x) = 5 := by simp only [TInline.tr, cnR, cnT]
    have hsm : K + ((5 : Nat) : Int) + (cnRs (b2.map TInline.tr) : Nat) = C := by rw [← hsum, List.map_cons, cnRs, hcx]; omega
    have hRl2 : R.length = a.length + (b2.length + 1) := hRl
    have hget : R[a.length]? = some (TInline.tr x) := by rw [← hR]; exact mid_get hDl
    repeat' ((conv => whnf); first | refine Or.inl ?_ | refine And.intro (Obl.out (?_ : Obl _)) ?_ | refine ifB_intro (fun h => ?_) (fun h => ?_) | refine ⟨_, hget, ?_⟩ | refine ⟨_, set_get (by (try simp only [List.length_set]); omega), ?_⟩ | refine call_intro ((s_laws_markText _ (by (try simp (disch := omega) only [IntWalk.i64_in]); omega))) (And.intro rfl trivial) ?_ | refine Exists.intro _ (And.intro rfl ?_) | ((with_reducible show _ = _); rfl))
    all_goals try ((with_reducible refine Obl.mk ?_); first | ((with_reducible show regOk _ _ = true); kernel_rfl) | ((with_reducible show eqTyOk _ _ = true); kernel_rfl) | rfl | exact trivial | ((repeat' (first | exact trivial | refine And.intro ?_ ?_)); done) | decide | ((repeat' (first | exact List.forall_mem_nil _ | refine List.forall_mem_cons.2 (And.intro rfl ?_))); done) | (refine And.intro ?_ ?_ <;> simp only [List.length_map, List.length_append, List.length_cons, List.length_nil] <;> omega))
    all_goals try (exfalso; have h' := of_decide_eq_false h; omega; done)
    all_goals try exact ⟨by (try simp only [List.length_set]); omega⟩
    conv => whnf
    refine ⟨⟨(a ++ [x], b2), by rw [← hab, hb]; simp⟩, ?_, Nat.lt_succ_self _⟩
    repeat' ((conv => whnf); first | refine Or.inl ?_ | refine And.intro (Obl.out (?_ : Obl _)) ?_ | refine ifB_intro (fun h => ?_) (fun h => ?_) | refine Exists.intro _ (And.intro rfl ?_) | ((with_reducible show _ = _); rfl))
    all_goals try ((with_reducible refine Obl.mk ?_); first | ((with_reducible show regOk _ _ = true); kernel_rfl) | ((with_reducible show eqTyOk _ _ = true); kernel_rfl) | rfl | exact trivial | ((repeat' (first | exact trivial | refine And.intro ?_ ?_)); done) | decide | ((repeat' (first | exact List.forall_mem_nil _ | refine List.forall_mem_cons.2 (And.intro rfl ?_))); done) | (refine And.intro ?_ ?_ <;> simp only [List.length_map, List.length_append, List.length_cons, List.length_nil] <;> omega))
    · refine ⟨congrArg (Tr.int _) ?_⟩
      dsimp only
      rw [cnRs_snoc, hcx]
      try simp (disch := omega) only [IntWalk.i64_in]
      try omega
    · refine ⟨congrArg (Tr.int _) ?_⟩
      dsimp only
      rw [List.length_append]
      try simp (disch := omega) only [IntWalk.i64_in]
      try rfl
    · refine ⟨?_⟩
      dsimp only
      rw [mkRs_snoc, snoc_cons, hD, hK, ← hR]
      try simp (disch := omega) only [set_set, mid_set hDl, List.map_cons, IntWalk.i64_in]
      try rfl
theorem s_laws_heldInlineS (xs : List (TInline)) (k : Int) (hk0 : 0 ≤ k) (hl : xs.length ≤ 1099511627776) (hk : k + (cnRs (xs.map TInline.tr) : Nat) ≤ 4611686018427387904) : Sim.Spec Try.prog 39 [tvL 5 (mkRs (xs.map TInline.tr) k), tvI k] (rI (k + (cnRs (xs.map TInline.tr) : Nat))) := by
  refine spec_of_W hΓ hmix Try.func39 rfl (by decide) rfl ?_
  have hTl : (mkRs (xs.map TInline.tr) k).length = xs.length := by rw [mkRs_length, List.length_map]
  have hal0 := fun (a b : List (TInline)) => mkRs_append (a.map TInline.tr) (b.map TInline.tr) k
  generalize hT : mkRs (xs.map TInline.tr) k = T at hTl ⊢
  repeat' ((conv => whnf); first | refine Or.inl ?_ | refine And.intro (Obl.out (?_ : Obl _)) ?_ | refine ifB_intro (fun h => ?_) (fun h => ?_) | refine Exists.intro _ (And.intro rfl ?_) | ((with_reducible show _ = _); rfl))
  all_goals try ((with_reducible refine Obl.mk ?_); first | ((with_reducible show regOk _ _ = true); kernel_rfl) | ((with_reducible show eqTyOk _ _ = true); kernel_rfl) | rfl | exact trivial | ((repeat' (first | exact trivial | refine And.intro ?_ ?_)); done) | decide | ((repeat' (first | exact List.forall_mem_nil _ | refine List.forall_mem_cons.2 (And.intro rfl ?_))); done) | (refine And.intro ?_ ?_ <;> simp only [List.length_map, List.length_append, List.length_cons, List.length_nil] <;> omega))
  conv => whnf
  refine ⟨{ q : List (TInline) × List (TInline) // q.1 ++ q.2 = xs }, fun q => ⟨[(0, .r (.c (.t (.lst 5 T)))), (1, tI .i64 (k + (cnRs (q.1.1.map TInline.tr) : Nat))), (5, tI .i64 (q.1.1.length : Nat))], [], []⟩, fun q => q.1.2.length, ⟨([], xs), rfl⟩, ?_, ?_⟩
  · skip
    repeat' ((conv => whnf); first | refine Or.inl ?_ | refine And.intro (Obl.out (?_ : Obl _)) ?_ | refine ifB_intro (fun h => ?_) (fun h => ?_) | refine Exists.intro _ (And.intro rfl ?_) | ((with_reducible show _ = _); rfl))
    all_goals try ((with_reducible refine Obl.mk ?_); first | ((with_reducible show regOk _ _ = true); kernel_rfl) | ((with_reducible show eqTyOk _ _ = true); kernel_rfl) | rfl | exact trivial | ((repeat' (first | exact trivial | refine And.intro ?_ ?_)); done) | decide | ((repeat' (first | exact List.forall_mem_nil _ | refine List.forall_mem_cons.2 (And.intro rfl ?_))); done) | (refine And.intro ?_ ?_ <;> simp only [List.length_map, List.length_append, List.length_cons, List.length_nil] <;> omega))
    all_goals exact ⟨by first | rfl | simp [cnRs]⟩
  intro ⟨⟨a, b⟩, hab⟩
  dsimp only at hab ⊢
  have hal : a.length + b.length ≤ 1099511627776 := by rw [← List.length_append, hab]; exact hl
  have hsum : k + (cnRs (a.map TInline.tr) : Nat) + (cnRs (b.map TInline.tr) : Nat) = k + (cnRs (xs.map TInline.tr) : Nat) := by rw [← hab, List.map_append, cnRs_append]; omega
  have hall : T = mkRs (a.map TInline.tr) k ++ mkRs (b.map TInline.tr) (k + (cnRs (a.map TInline.tr) : Nat)) := by rw [← hT, ← hab, List.map_append, mkRs_append]
  have hDl : (mkRs (a.map TInline.tr) k).length = a.length := by rw [mkRs_length, List.length_map]
  have hTl2 : T.length = a.length + b.length := by rw [hTl, ← hab, List.length_append]
  generalize hK : k + (cnRs (a.map TInline.tr) : Nat) = K at hsum hall ⊢
  generalize hD : mkRs (a.map TInline.tr) k = D at hall hDl
  generalize hC : k + (cnRs (xs.map TInline.tr) : Nat) = C at hk hsum ⊢
  have hK0 : 0 ≤ K := by omega
  rcases hb : b with _ | ⟨x, b2⟩
  all_goals rw [hb] at hall hsum hTl2 hal
  · have hKC : K = C := by simpa [cnRs] using hsum
    repeat' ((conv => whnf); first | refine Or.inl ?_ | refine And.intro (Obl.out (?_ : Obl _)) ?_ | refine ifB_intro (fun h => ?_) (fun h => ?_) | refine Exists.intro _ (And.intro rfl ?_) | ((with_reducible show _ = _); rfl))
    all_goals try ((with_reducible refine Obl.mk ?_); first | ((with_reducible show regOk _ _ = true); kernel_rfl) | ((with_reducible show eqTyOk _ _ = true); kernel_rfl) | rfl | exact trivial | ((repeat' (first | exact trivial | refine And.intro ?_ ?_)); done) | decide | ((repeat' (first | exact List.forall_mem_nil _ | refine List.forall_mem_cons.2 (And.intro rfl ?_))); done) | (refine And.intro ?_ ?_ <;> simp only [List.length_map, List.length_append, List.length_cons, List.length_nil] <;> omega))
    all_goals try (exfalso; have h' := of_decide_eq_true h; rw [hTl2] at h'; simp at h'; done)
    all_goals exact ⟨by rw [hKC]⟩
  · have hal2 : a.length + (b2.length + 1) ≤ 1099511627776 := hal
    have hcx : cnR (TInline.tr x) = 5 := by simp only [TInline.tr, cnR, cnT]
    have hsm : K + ((5 : Nat) : Int) + (cnRs (b2.map TInline.tr) : Nat) = C := by rw [← hsum, List.map_cons, cnRs, hcx]; omega
    have hTl3 : T.length = a.length + (b2.length + 1) := hTl2
    have hget : T[a.length]? = some [.int .i64 (K), .int .i64 (K + 1), .int .i64 (K + 1 + 1), .int .i64 (K + 1 + 1 + 1), .str (mText (K + 1 + 1 + 1 + 1))] := by rw [hall, List.map_cons, mkRs]; exact mid_get hDl
    repeat' ((conv => whnf); first | refine Or.inl ?_ | refine And.intro (Obl.out (?_ : Obl _)) ?_ | refine ifB_intro (fun h => ?_) (fun h => ?_) | refine ⟨a.length, _, rfl, hget, ?_⟩ | refine call_intro ((s_laws_markText _ (by (try simp (disch := omega) only [IntWalk.i64_in]); omega))) (And.intro rfl trivial) ?_ | refine Exists.intro _ (And.intro rfl ?_) | ((with_reducible show _ = _); rfl))
    all_goals try ((with_reducible refine Obl.mk ?_); first | ((with_reducible show regOk _ _ = true); kernel_rfl) | ((with_reducible show eqTyOk _ _ = true); kernel_rfl) | rfl | exact trivial | ((repeat' (first | exact trivial | refine And.intro ?_ ?_)); done) | decide | ((repeat' (first | exact List.forall_mem_nil _ | refine List.forall_mem_cons.2 (And.intro rfl ?_))); done) | (refine And.intro ?_ ?_ <;> simp only [List.length_map, List.length_append, List.length_cons, List.length_nil] <;> omega))
    all_goals try (exfalso; have h' := of_decide_eq_false h; omega; done)
    all_goals try (exfalso; (try have h' := of_decide_eq_true h); (try simp (disch := omega) [IntWalk.i64_in] at h'); (try simp (disch := omega) [IntWalk.i64_in] at h); (try omega); done)
    conv => whnf
    refine ⟨⟨(a ++ [x], b2), by rw [← hab, hb]; simp⟩, ?_, Nat.lt_succ_self _⟩
    repeat' ((conv => whnf); first | refine Or.inl ?_ | refine And.intro (Obl.out (?_ : Obl _)) ?_ | refine ifB_intro (fun h => ?_) (fun h => ?_) | refine Exists.intro _ (And.intro rfl ?_) | ((with_reducible show _ = _); rfl))
    all_goals try ((with_reducible refine Obl.mk ?_); first | ((with_reducible show regOk _ _ = true); kernel_rfl) | ((with_reducible show eqTyOk _ _ = true); kernel_rfl) | rfl | exact trivial | ((repeat' (first | exact trivial | refine And.intro ?_ ?_)); done) | decide | ((repeat' (first | exact List.forall_mem_nil _ | refine List.forall_mem_cons.2 (And.intro rfl ?_))); done) | (refine And.intro ?_ ?_ <;> simp only [List.length_map, List.length_append, List.length_cons, List.length_nil] <;> omega))
    · refine ⟨congrArg (Tr.int _) ?_⟩
      dsimp only
      rw [cnRs_snoc, hcx]
      try simp (disch := omega) only [IntWalk.i64_in]
      try omega
    · refine ⟨congrArg (Tr.int _) ?_⟩
      dsimp only
      rw [List.length_append]
      try simp (disch := omega) only [IntWalk.i64_in]
      try rfl
theorem cn_InlineS (xs : List (TInline)) (hs : smallT 1048576 (.lst 5 (xs.map TInline.tr))) : cnRs (xs.map TInline.tr) ≤ 1048576 * 5 := by
  have h1 := small_nat hs
  refine Nat.le_trans (cnRs_map_le (g := TInline.tr) (M := 5) fun x hx => ?_) (Nat.mul_le_mul_right _ h1)
  have hcx : cnR (TInline.tr x) = 5 := by simp only [TInline.tr, cnR, cnT]
  rw [hcx]
  omega
theorem g_laws_markPlaceS (xs : List (TPlace)) (k : Int) (hk0 : 0 ≤ k) (hl : xs.length ≤ 1099511627776) (hk : k + (cnRs (xs.map TPlace.tr) : Nat) ≤ 4611686018427387904) (hin : ∀ x ∈ xs, x.fItem.fChain.length ≤ 1099511627776) : SpecG Try.prog 37 [.r (.c (.own (0, 0, 0))), tI .i64 k] [((0, 0, 0), .dar 8 (deepRows (xs.map TPlace.tr)) none)] (tI .i64 (k + (cnRs (xs.map TPlace.tr) : Nat))) [((0, 0, 0), .dar 8 (deepRows (mkRs (xs.map TPlace.tr) k)) none)] := by
  refine specG_of_W hΓ hmix Try.func37 rfl (by decide) rfl rfl ?_
  repeat' ((conv => whnf); first | refine Or.inl ?_ | refine And.intro (Obl.out (?_ : Obl _)) ?_ | refine ifB_intro (fun h => ?_) (fun h => ?_) | refine Exists.intro _ (And.intro rfl ?_) | ((with_reducible show _ = _); rfl))
  all_goals try ((with_reducible refine Obl.mk ?_); first | ((with_reducible show regOk _ _ = true); kernel_rfl) | ((with_reducible show eqTyOk _ _ = true); kernel_rfl) | rfl | exact trivial | ((repeat' (first | exact trivial | refine And.intro ?_ ?_)); done) | decide | ((repeat' (first | exact List.forall_mem_nil _ | refine List.forall_mem_cons.2 (And.intro rfl ?_))); done) | (refine And.intro ?_ ?_ <;> simp only [List.length_map, List.length_append, List.length_cons, List.length_nil] <;> omega))
  conv => whnf
  refine ⟨{ q : List (TPlace) × List (TPlace) // q.1 ++ q.2 = xs }, fun q => ⟨[(0, .r (.c (.own (0, 0, 0)))), (1, tI .i64 (k + (cnRs (q.1.1.map TPlace.tr) : Nat))), (5, tI .i64 (q.1.1.length : Nat))], [((0, 0, 0), some (.dar 8 (deepRows (mkRs (q.1.1.map TPlace.tr) k ++ q.1.2.map TPlace.tr)) none))], [0]⟩, fun q => q.1.2.length, ⟨([], xs), rfl⟩, ?_, ?_⟩
  · skip
    repeat' ((conv => whnf); first | refine Or.inl ?_ | refine And.intro (Obl.out (?_ : Obl _)) ?_ | refine ifB_intro (fun h => ?_) (fun h => ?_) | refine Exists.intro _ (And.intro rfl ?_) | ((with_reducible show _ = _); rfl))
    all_goals try ((with_reducible refine Obl.mk ?_); first | ((with_reducible show regOk _ _ = true); kernel_rfl) | ((with_reducible show eqTyOk _ _ = true); kernel_rfl) | rfl | exact trivial | ((repeat' (first | exact trivial | refine And.intro ?_ ?_)); done) | decide | ((repeat' (first | exact List.forall_mem_nil _ | refine List.forall_mem_cons.2 (And.intro rfl ?_))); done) | (refine And.intro ?_ ?_ <;> simp only [List.length_map, List.length_append, List.length_cons, List.length_nil] <;> omega))
    all_goals exact ⟨by first | rfl | simp [cnRs, mkRs]⟩
  intro ⟨⟨a, b⟩, hab⟩
  dsimp only at hab ⊢
  have hal : a.length + b.length ≤ 1099511627776 := by rw [← List.length_append, hab]; exact hl
  have hsum : k + (cnRs (a.map TPlace.tr) : Nat) + (cnRs (b.map TPlace.tr) : Nat) = k + (cnRs (xs.map TPlace.tr) : Nat) := by rw [← hab, List.map_append, cnRs_append]; omega
  have hall : mkRs (xs.map TPlace.tr) k = mkRs (a.map TPlace.tr) k ++ mkRs (b.map TPlace.tr) (k + (cnRs (a.map TPlace.tr) : Nat)) := by rw [← hab, List.map_append, mkRs_append]
  have hDl : (mkRs (a.map TPlace.tr) k).length = a.length := by rw [mkRs_length, List.length_map]
  generalize hR : deepRows (mkRs (a.map TPlace.tr) k ++ b.map TPlace.tr) = R
  have hRl : R.length = a.length + b.length := by rw [← hR]; simp [hDl, deepRows_length]
  generalize hK : k + (cnRs (a.map TPlace.tr) : Nat) = K at hsum hall ⊢
  generalize hD : mkRs (a.map TPlace.tr) k = D at hR hall hDl
  generalize hT : mkRs (xs.map TPlace.tr) k = T at hall ⊢
  generalize hC : k + (cnRs (xs.map TPlace.tr) : Nat) = C at hk hsum ⊢
  have hK0 : 0 ≤ K := by omega
  rcases hb : b with _ | ⟨x, b2⟩
  all_goals rw [hb] at hR hall hsum hRl hal
  · have hKC : K = C := by simpa [cnRs] using hsum
    have hRT : R = deepRows (T) := by rw [hall, ← hR]; simp [mkRs]
    repeat' ((conv => whnf); first | refine Or.inl ?_ | refine And.intro (Obl.out (?_ : Obl _)) ?_ | refine ifB_intro (fun h => ?_) (fun h => ?_) | refine Exists.intro _ (And.intro rfl ?_) | ((with_reducible show _ = _); rfl))
    all_goals try ((with_reducible refine Obl.mk ?_); first | ((with_reducible show regOk _ _ = true); kernel_rfl) | ((with_reducible show eqTyOk _ _ = true); kernel_rfl) | rfl | exact trivial | ((repeat' (first | exact trivial | refine And.intro ?_ ?_)); done) | decide | ((repeat' (first | exact List.forall_mem_nil _ | refine List.forall_mem_cons.2 (And.intro rfl ?_))); done) | (refine And.intro ?_ ?_ <;> simp only [List.length_map, List.length_append, List.length_cons, List.length_nil] <;> omega))
    all_goals try (exfalso; have h' := of_decide_eq_true h; rw [hRl] at h'; simp at h'; done)
    all_goals first | exact ⟨by rw [hKC]⟩ | exact ⟨hRT⟩
  · have hal2 : a.length + (b2.length + 1) ≤ 1099511627776 := hal
    have hcx : cnR (TPlace.tr x) = 7 + cnRs (x.fItem.fChain.map intRow) := by simp only [TPlace.tr, cnR, cnT] <;> omega
    have hsm : K + ((7 + cnRs (x.fItem.fChain.map intRow) : Nat) : Int) + (cnRs (b2.map TPlace.tr) : Nat) = C := by rw [← hsum, List.map_cons, cnRs, hcx]; omega
    have hRl2 : R.length = a.length + (b2.length + 1) := hRl
    have hix := hin x (by rw [← hab, hb]; simp)
    have hget : R[a.length]? = some (((TPlace.tr x).map .d)) := by rw [← hR, List.map_cons, deepRows_append, deepRows_cons]; exact mid_get (by rw [deepRows_length]; exact hDl)
    repeat' ((conv => whnf); first | refine callG_intro (g_laws_markIntS x.fItem.fChain (K + 1 + 1 + 1 + 1 + 1) (by omega) hix (by omega)) ?_ | refine Or.inl ?_ | refine And.intro (Obl.out (?_ : Obl _)) ?_ | refine ifB_intro (fun h => ?_) (fun h => ?_) | refine ⟨_, hget, ?_⟩ | refine ⟨_, set_get (by (try simp only [List.length_set]); omega), ?_⟩ | refine call_intro ((s_laws_markText _ (by (try simp (disch := omega) only [IntWalk.i64_in]); omega))) (And.intro rfl trivial) ?_ | refine Exists.intro _ (And.intro rfl ?_) | ((with_reducible show _ = _); rfl))
    all_goals try ((with_reducible refine Obl.mk ?_); first | ((with_reducible show regOk _ _ = true); kernel_rfl) | ((with_reducible show eqTyOk _ _ = true); kernel_rfl) | rfl | exact trivial | ((repeat' (first | exact trivial | refine And.intro ?_ ?_)); done) | decide | ((repeat' (first | exact List.forall_mem_nil _ | refine List.forall_mem_cons.2 (And.intro rfl ?_))); done) | (refine And.intro ?_ ?_ <;> simp only [List.length_map, List.length_append, List.length_cons, List.length_nil] <;> omega))
    all_goals try (exfalso; have h' := of_decide_eq_false h; omega; done)
    all_goals try exact ⟨by (try simp only [List.length_set]); omega⟩
    all_goals try exact ⟨flat_map _ (by intro x c hc sz rs e; subst e; simp [intRow] at hc)⟩
    all_goals try exact ⟨flat_mk _ _ (flat_map _ (by intro x c hc sz rs e; subst e; simp [intRow] at hc))⟩
    all_goals try exact ⟨congrArg (Tr.int _) (by (try simp (disch := omega) only [IntWalk.i64_in]))⟩
    conv => whnf
    refine ⟨⟨(a ++ [x], b2), by rw [← hab, hb]; simp⟩, ?_, Nat.lt_succ_self _⟩
    repeat' ((conv => whnf); first | refine Or.inl ?_ | refine And.intro (Obl.out (?_ : Obl _)) ?_ | refine ifB_intro (fun h => ?_) (fun h => ?_) | refine ⟨_, hget, ?_⟩ | refine ⟨_, set_get (by (try simp only [List.length_set]); omega), ?_⟩ | refine Exists.intro _ (And.intro rfl ?_) | ((with_reducible show _ = _); rfl))
    all_goals try ((with_reducible refine Obl.mk ?_); first | ((with_reducible show regOk _ _ = true); kernel_rfl) | ((with_reducible show eqTyOk _ _ = true); kernel_rfl) | rfl | exact trivial | ((repeat' (first | exact trivial | refine And.intro ?_ ?_)); done) | decide | ((repeat' (first | exact List.forall_mem_nil _ | refine List.forall_mem_cons.2 (And.intro rfl ?_))); done) | (refine And.intro ?_ ?_ <;> simp only [List.length_map, List.length_append, List.length_cons, List.length_nil] <;> omega))
    all_goals try exact ⟨flat_mk _ _ (flat_map _ (by intro x c hc sz rs e; subst e; simp [intRow] at hc))⟩
    · refine ⟨congrArg (Tr.int _) ?_⟩
      dsimp only
      rw [cnRs_snoc, hcx]
      try simp (disch := omega) only [IntWalk.i64_in]
      try omega
    · refine ⟨congrArg (Tr.int _) ?_⟩
      dsimp only
      rw [List.length_append]
      try simp (disch := omega) only [IntWalk.i64_in]
      try rfl
    · refine ⟨?_⟩
      dsimp only
      have hDd : (deepRows D).length = a.length := by rw [deepRows_length]; exact hDl
      rw [mkRs_snoc, snoc_cons, hD, hK, ← hR]
      try simp (disch := omega) only [set_set, deepRows_append, deepRows_cons, mid_set hDd, List.map_cons, IntWalk.i64_in]
      try rfl
theorem cn_PlaceS (xs : List (TPlace)) (hs : smallT 1048576 (.lst 8 (xs.map TPlace.tr))) : cnRs (xs.map TPlace.tr) ≤ 1048576 * 1048583 := by
  have h1 := small_nat hs
  refine Nat.le_trans (cnRs_map_le (g := TPlace.tr) (M := 1048583) fun x hx => ?_) (Nat.mul_le_mul_right _ h1)
  have hcx : cnR (TPlace.tr x) = 7 + cnRs (x.fItem.fChain.map intRow) := by simp only [TPlace.tr, cnR, cnT] <;> omega
  rw [hcx]
  have hr := smallRs_map hs hx
  simp only [TPlace.tr, smallR] at hr
  have c5 := cn_IntS _ (hr.2.2.2.2.2.1)
  omega
theorem hin_PlaceS (xs : List (TPlace)) (hs : smallT 1048576 (.lst 8 (xs.map TPlace.tr))) : ∀ x ∈ xs, x.fItem.fChain.length ≤ 1099511627776 := by
  intro x hx
  have hr := smallRs_map hs hx
  simp only [TPlace.tr, smallR] at hr
  exact Nat.le_trans (small_nat (hr.2.2.2.2.2.1)) (by omega)
theorem g_laws_toPlaceS (xs : List (TPlace)) (hs : smallT 1048576 (.lst 8 (xs.map TPlace.tr))) : SpecG Try.prog 33 [.r (.c (.t (.lst 8 (xs.map TPlace.tr))))] [] (.r (.c (.own (1, 0, 0)))) [((1, 0, 0), .dar 8 (deepRows (xs.map TPlace.tr)) none)] := by
  have hl := small_len hs
  have hlen : (xs.map TPlace.tr).length = xs.length := by simp
  refine specG_of_W hΓ hmix Try.func33 rfl (by decide) rfl rfl ?_
  repeat' ((conv => whnf); first | refine Or.inl ?_ | refine And.intro (Obl.out (?_ : Obl _)) ?_ | refine ifB_intro (fun h => ?_) (fun h => ?_) | refine Exists.intro _ (And.intro rfl ?_) | ((with_reducible show _ = _); rfl))
  all_goals try ((with_reducible refine Obl.mk ?_); first | ((with_reducible show regOk _ _ = true); kernel_rfl) | ((with_reducible show eqTyOk _ _ = true); kernel_rfl) | rfl | exact trivial | ((repeat' (first | exact trivial | refine And.intro ?_ ?_)); done) | decide | ((repeat' (first | exact List.forall_mem_nil _ | refine List.forall_mem_cons.2 (And.intro rfl ?_))); done) | (refine And.intro ?_ ?_ <;> simp only [List.length_map, List.length_append, List.length_cons, List.length_nil] <;> omega))
  · exact ⟨by omega⟩
  · exact ⟨by dsimp only; omega⟩
  repeat' ((conv => whnf); first | refine Or.inl ?_ | refine And.intro (Obl.out (?_ : Obl _)) ?_ | refine ifB_intro (fun h => ?_) (fun h => ?_) | refine Exists.intro _ (And.intro rfl ?_) | ((with_reducible show _ = _); rfl))
  all_goals try ((with_reducible refine Obl.mk ?_); first | ((with_reducible show regOk _ _ = true); kernel_rfl) | ((with_reducible show eqTyOk _ _ = true); kernel_rfl) | rfl | exact trivial | ((repeat' (first | exact trivial | refine And.intro ?_ ?_)); done) | decide | ((repeat' (first | exact List.forall_mem_nil _ | refine List.forall_mem_cons.2 (And.intro rfl ?_))); done) | (refine And.intro ?_ ?_ <;> simp only [List.length_map, List.length_append, List.length_cons, List.length_nil] <;> omega))
  conv => whnf
  refine ⟨{ k : Nat // k ≤ xs.length }, fun k => ⟨[(0, .r (.c (.t (.lst 8 (xs.map TPlace.tr))))), (3, .r (.c (.own (3, 0, 0)))), (4, tI .i64 (k.1 : Int))], [((3, 0, 0), some (.dar 8 (deepRows (filled (xs.map TPlace.tr) [.int .i64 0, .int .i64 0, .int .i64 0, .int .i64 0, .bool false, .lst 0 [], .int .i64 0, .bool false] k.1)) none))], [3, 0]⟩, fun k => xs.length - k.1, ⟨0, by omega⟩, ?_, ?_⟩
  · skip
    repeat' ((conv => whnf); first | refine Or.inl ?_ | refine And.intro (Obl.out (?_ : Obl _)) ?_ | refine ifB_intro (fun h => ?_) (fun h => ?_) | refine Exists.intro _ (And.intro rfl ?_) | ((with_reducible show _ = _); rfl))
    all_goals try ((with_reducible refine Obl.mk ?_); first | ((with_reducible show regOk _ _ = true); kernel_rfl) | ((with_reducible show eqTyOk _ _ = true); kernel_rfl) | rfl | exact trivial | ((repeat' (first | exact trivial | refine And.intro ?_ ?_)); done) | decide | ((repeat' (first | exact List.forall_mem_nil _ | refine List.forall_mem_cons.2 (And.intro rfl ?_))); done) | (refine And.intro ?_ ?_ <;> simp only [List.length_map, List.length_append, List.length_cons, List.length_nil] <;> omega))
    all_goals exact ⟨by first | (rw [← filled_zero, hlen, deepRows, List.map_replicate]; done) | (rw [← filled_zero, hlen, deepRows, List.map_replicate]; rfl)⟩
  intro ⟨k, hk⟩
  dsimp only
  repeat' ((conv => whnf); first | refine Or.inl ?_ | refine And.intro (Obl.out (?_ : Obl _)) ?_ | refine ifB_intro (fun h => ?_) (fun h => ?_) | refine Exists.intro _ (And.intro rfl ?_) | ((with_reducible show _ = _); rfl))
  all_goals try ((with_reducible refine Obl.mk ?_); first | ((with_reducible show regOk _ _ = true); kernel_rfl) | ((with_reducible show eqTyOk _ _ = true); kernel_rfl) | rfl | exact trivial | ((repeat' (first | exact trivial | refine And.intro ?_ ?_)); done) | decide | ((repeat' (first | exact List.forall_mem_nil _ | refine List.forall_mem_cons.2 (And.intro rfl ?_))); done) | (refine And.intro ?_ ?_ <;> simp only [List.length_map, List.length_append, List.length_cons, List.length_nil] <;> omega))
  · have hlt : k < xs.length := by have := of_decide_eq_true h; omega
    obtain ⟨x, hx⟩ := get_of_lt hlt
    have hsr := smallRs_map hs (List.mem_of_getElem? hx)
    conv => whnf
    refine ⟨k, _, rfl, map_get hx, ?_⟩
    repeat' ((conv => whnf); first | refine Or.inl ?_ | refine And.intro (Obl.out (?_ : Obl _)) ?_ | refine ifB_intro (fun h => ?_) (fun h => ?_) | refine call_intro ((s_laws_toPlace x hsr)) (And.intro (And.intro rfl (And.intro rfl (And.intro rfl (And.intro rfl (And.intro rfl (And.intro rfl (And.intro rfl (And.intro rfl trivial)))))))) trivial) ?_ | refine Exists.intro _ (And.intro rfl ?_) | ((with_reducible show _ = _); rfl))
    all_goals try ((with_reducible refine Obl.mk ?_); first | ((with_reducible show regOk _ _ = true); kernel_rfl) | ((with_reducible show eqTyOk _ _ = true); kernel_rfl) | rfl | exact trivial | ((repeat' (first | exact trivial | refine And.intro ?_ ?_)); done) | decide | ((repeat' (first | exact List.forall_mem_nil _ | refine List.forall_mem_cons.2 (And.intro rfl ?_))); done) | (refine And.intro ?_ ?_ <;> simp only [List.length_map, List.length_append, List.length_cons, List.length_nil] <;> omega))
    · exact ⟨by rw [deepRows_length, filled_len (by omega)]; omega⟩
    conv => whnf
    refine ⟨_, deepRows_get (filled_get (by omega)), ?_⟩
    repeat' ((conv => whnf); first | refine Or.inl ?_ | refine And.intro (Obl.out (?_ : Obl _)) ?_ | refine ifB_intro (fun h => ?_) (fun h => ?_) | refine Exists.intro _ (And.intro rfl ?_) | ((with_reducible show _ = _); rfl))
    all_goals try ((with_reducible refine Obl.mk ?_); first | ((with_reducible show regOk _ _ = true); kernel_rfl) | ((with_reducible show eqTyOk _ _ = true); kernel_rfl) | rfl | exact trivial | ((repeat' (first | exact trivial | refine And.intro ?_ ?_)); done) | decide | ((repeat' (first | exact List.forall_mem_nil _ | refine List.forall_mem_cons.2 (And.intro rfl ?_))); done) | (refine And.intro ?_ ?_ <;> simp only [List.length_map, List.length_append, List.length_cons, List.length_nil] <;> omega))
    all_goals try exact ⟨flat_map _ (by intro x c hc sz rs e; subst e; simp [intRow] at hc)⟩
    conv => whnf
    refine ⟨⟨k + 1, by omega⟩, ?_, by dsimp only; omega⟩
    repeat' ((conv => whnf); first | refine Or.inl ?_ | refine And.intro (Obl.out (?_ : Obl _)) ?_ | refine ifB_intro (fun h => ?_) (fun h => ?_) | refine Exists.intro _ (And.intro rfl ?_) | ((with_reducible show _ = _); rfl))
    all_goals try ((with_reducible refine Obl.mk ?_); first | ((with_reducible show regOk _ _ = true); kernel_rfl) | ((with_reducible show eqTyOk _ _ = true); kernel_rfl) | rfl | exact trivial | ((repeat' (first | exact trivial | refine And.intro ?_ ?_)); done) | decide | ((repeat' (first | exact List.forall_mem_nil _ | refine List.forall_mem_cons.2 (And.intro rfl ?_))); done) | (refine And.intro ?_ ?_ <;> simp only [List.length_map, List.length_append, List.length_cons, List.length_nil] <;> omega))
    · exact ⟨by dsimp only; rw [IntWalk.i64_in _ (by omega)]; rfl⟩
    · exact ⟨(deepRows_set _ _ (TPlace.tr x)).trans (congrArg deepRows (filled_set (map_get hx)))⟩
  · have hge : xs.length ≤ k := by have := of_decide_eq_false h; omega
    exact ⟨congrArg deepRows (filled_all (by omega))⟩
theorem g_laws_markLineS (xs : List (TLine)) (k : Int) (hk0 : 0 ≤ k) (hl : xs.length ≤ 1099511627776) (hk : k + (cnRs (xs.map TLine.tr) : Nat) ≤ 4611686018427387904) (hin : ∀ x ∈ xs, x.fArgs.length ≤ 1099511627776 ∧ x.fExpr.length ≤ 1099511627776) : SpecG Try.prog 28 [.r (.c (.own (0, 0, 0))), tI .i64 k] [((0, 0, 0), .dar 4 (deepRows (xs.map TLine.tr)) none)] (tI .i64 (k + (cnRs (xs.map TLine.tr) : Nat))) [((0, 0, 0), .dar 4 (deepRows (mkRs (xs.map TLine.tr) k)) none)] := by
  refine specG_of_W hΓ hmix Try.func28 rfl (by decide) rfl rfl ?_
  repeat' ((conv => whnf); first | refine Or.inl ?_ | refine And.intro (Obl.out (?_ : Obl _)) ?_ | refine ifB_intro (fun h => ?_) (fun h => ?_) | refine Exists.intro _ (And.intro rfl ?_) | ((with_reducible show _ = _); rfl))
  all_goals try ((with_reducible refine Obl.mk ?_); first | ((with_reducible show regOk _ _ = true); kernel_rfl) | ((with_reducible show eqTyOk _ _ = true); kernel_rfl) | rfl | exact trivial | ((repeat' (first | exact trivial | refine And.intro ?_ ?_)); done) | decide | ((repeat' (first | exact List.forall_mem_nil _ | refine List.forall_mem_cons.2 (And.intro rfl ?_))); done) | (refine And.intro ?_ ?_ <;> simp only [List.length_map, List.length_append, List.length_cons, List.length_nil] <;> omega))
  conv => whnf
  refine ⟨{ q : List (TLine) × List (TLine) // q.1 ++ q.2 = xs }, fun q => ⟨[(0, .r (.c (.own (0, 0, 0)))), (1, tI .i64 (k + (cnRs (q.1.1.map TLine.tr) : Nat))), (5, tI .i64 (q.1.1.length : Nat))], [((0, 0, 0), some (.dar 4 (deepRows (mkRs (q.1.1.map TLine.tr) k ++ q.1.2.map TLine.tr)) none))], [0]⟩, fun q => q.1.2.length, ⟨([], xs), rfl⟩, ?_, ?_⟩
  · skip
    repeat' ((conv => whnf); first | refine Or.inl ?_ | refine And.intro (Obl.out (?_ : Obl _)) ?_ | refine ifB_intro (fun h => ?_) (fun h => ?_) | refine Exists.intro _ (And.intro rfl ?_) | ((with_reducible show _ = _); rfl))
    all_goals try ((with_reducible refine Obl.mk ?_); first | ((with_reducible show regOk _ _ = true); kernel_rfl) | ((with_reducible show eqTyOk _ _ = true); kernel_rfl) | rfl | exact trivial | ((repeat' (first | exact trivial | refine And.intro ?_ ?_)); done) | decide | ((repeat' (first | exact List.forall_mem_nil _ | refine List.forall_mem_cons.2 (And.intro rfl ?_))); done) | (refine And.intro ?_ ?_ <;> simp only [List.length_map, List.length_append, List.length_cons, List.length_nil] <;> omega))
    all_goals exact ⟨by first | rfl | simp [cnRs, mkRs]⟩
  intro ⟨⟨a, b⟩, hab⟩
  dsimp only at hab ⊢
  have hal : a.length + b.length ≤ 1099511627776 := by rw [← List.length_append, hab]; exact hl
  have hsum : k + (cnRs (a.map TLine.tr) : Nat) + (cnRs (b.map TLine.tr) : Nat) = k + (cnRs (xs.map TLine.tr) : Nat) := by rw [← hab, List.map_append, cnRs_append]; omega
  have hall : mkRs (xs.map TLine.tr) k = mkRs (a.map TLine.tr) k ++ mkRs (b.map TLine.tr) (k + (cnRs (a.map TLine.tr) : Nat)) := by rw [← hab, List.map_append, mkRs_append]
  have hDl : (mkRs (a.map TLine.tr) k).length = a.length := by rw [mkRs_length, List.length_map]
  generalize hR : deepRows (mkRs (a.map TLine.tr) k ++ b.map TLine.tr) = R
  have hRl : R.length = a.length + b.length := by rw [← hR]; simp [hDl, deepRows_length]
  generalize hK : k + (cnRs (a.map TLine.tr) : Nat) = K at hsum hall ⊢
  generalize hD : mkRs (a.map TLine.tr) k = D at hR hall hDl
  generalize hT : mkRs (xs.map TLine.tr) k = T at hall ⊢
  generalize hC : k + (cnRs (xs.map TLine.tr) : Nat) = C at hk hsum ⊢
  have hK0 : 0 ≤ K := by omega
  rcases hb : b with _ | ⟨x, b2⟩
  all_goals rw [hb] at hR hall hsum hRl hal
  · have hKC : K = C := by simpa [cnRs] using hsum
    have hRT : R = deepRows (T) := by rw [hall, ← hR]; simp [mkRs]
    repeat' ((conv => whnf); first | refine Or.inl ?_ | refine And.intro (Obl.out (?_ : Obl _)) ?_ | refine ifB_intro (fun h => ?_) (fun h => ?_) | refine Exists.intro _ (And.intro rfl ?_) | ((with_reducible show _ = _); rfl))
    all_goals try ((with_reducible refine Obl.mk ?_); first | ((with_reducible show regOk _ _ = true); kernel_rfl) | ((with_reducible show eqTyOk _ _ = true); kernel_rfl) | rfl | exact trivial | ((repeat' (first | exact trivial | refine And.intro ?_ ?_)); done) | decide | ((repeat' (first | exact List.forall_mem_nil _ | refine List.forall_mem_cons.2 (And.intro rfl ?_))); done) | (refine And.intro ?_ ?_ <;> simp only [List.length_map, List.length_append, List.length_cons, List.length_nil] <;> omega))
    all_goals try (exfalso; have h' := of_decide_eq_true h; rw [hRl] at h'; simp at h'; done)
    all_goals first | exact ⟨by rw [hKC]⟩ | exact ⟨hRT⟩
  · have hal2 : a.length + (b2.length + 1) ≤ 1099511627776 := hal
    have hcx : cnR (TLine.tr x) = 2 + cnRs (x.fArgs.map strRow) + cnRs (x.fExpr.map TTok.tr) := by simp only [TLine.tr, cnR, cnT] <;> omega
    have hsm : K + ((2 + cnRs (x.fArgs.map strRow) + cnRs (x.fExpr.map TTok.tr) : Nat) : Int) + (cnRs (b2.map TLine.tr) : Nat) = C := by rw [← hsum, List.map_cons, cnRs, hcx]; omega
    have hRl2 : R.length = a.length + (b2.length + 1) := hRl
    have hix := hin x (by rw [← hab, hb]; simp)
    have hget : R[a.length]? = some (((TLine.tr x).map .d)) := by rw [← hR, List.map_cons, deepRows_append, deepRows_cons]; exact mid_get (by rw [deepRows_length]; exact hDl)
    repeat' ((conv => whnf); first | refine callG_intro (g_laws_markStringS x.fArgs (K + 1 + 1) (by omega) hix.1 (by omega)) ?_ | refine callG_intro (g_laws_markTokS x.fExpr (K + 1 + 1 + (cnRs (x.fArgs.map strRow) : Nat)) (by omega) hix.2 (by omega)) ?_ | refine Or.inl ?_ | refine And.intro (Obl.out (?_ : Obl _)) ?_ | refine ifB_intro (fun h => ?_) (fun h => ?_) | refine ⟨_, hget, ?_⟩ | refine ⟨_, set_get (by (try simp only [List.length_set]); omega), ?_⟩ | refine call_intro ((s_laws_markText _ (by (try simp (disch := omega) only [IntWalk.i64_in]); omega))) (And.intro rfl trivial) ?_ | refine Exists.intro _ (And.intro rfl ?_) | ((with_reducible show _ = _); rfl))
    all_goals try ((with_reducible refine Obl.mk ?_); first | ((with_reducible show regOk _ _ = true); kernel_rfl) | ((with_reducible show eqTyOk _ _ = true); kernel_rfl) | rfl | exact trivial | ((repeat' (first | exact trivial | refine And.intro ?_ ?_)); done) | decide | ((repeat' (first | exact List.forall_mem_nil _ | refine List.forall_mem_cons.2 (And.intro rfl ?_))); done) | (refine And.intro ?_ ?_ <;> simp only [List.length_map, List.length_append, List.length_cons, List.length_nil] <;> omega))
    all_goals try (exfalso; have h' := of_decide_eq_false h; omega; done)
    all_goals try exact ⟨by (try simp only [List.length_set]); omega⟩
    all_goals try exact ⟨flat_map _ (by intro x c hc sz rs e; subst e; simp [TTok.tr, strRow] at hc)⟩
    all_goals try exact ⟨flat_mk _ _ (flat_map _ (by intro x c hc sz rs e; subst e; simp [TTok.tr, strRow] at hc))⟩
    all_goals try exact ⟨congrArg (Tr.int _) (by (try simp (disch := omega) only [IntWalk.i64_in]))⟩
    conv => whnf
    refine ⟨⟨(a ++ [x], b2), by rw [← hab, hb]; simp⟩, ?_, Nat.lt_succ_self _⟩
    repeat' ((conv => whnf); first | refine Or.inl ?_ | refine And.intro (Obl.out (?_ : Obl _)) ?_ | refine ifB_intro (fun h => ?_) (fun h => ?_) | refine ⟨_, hget, ?_⟩ | refine ⟨_, set_get (by (try simp only [List.length_set]); omega), ?_⟩ | refine Exists.intro _ (And.intro rfl ?_) | ((with_reducible show _ = _); rfl))
    all_goals try ((with_reducible refine Obl.mk ?_); first | ((with_reducible show regOk _ _ = true); kernel_rfl) | ((with_reducible show eqTyOk _ _ = true); kernel_rfl) | rfl | exact trivial | ((repeat' (first | exact trivial | refine And.intro ?_ ?_)); done) | decide | ((repeat' (first | exact List.forall_mem_nil _ | refine List.forall_mem_cons.2 (And.intro rfl ?_))); done) | (refine And.intro ?_ ?_ <;> simp only [List.length_map, List.length_append, List.length_cons, List.length_nil] <;> omega))
    all_goals try exact ⟨flat_mk _ _ (flat_map _ (by intro x c hc sz rs e; subst e; simp [TTok.tr, strRow] at hc))⟩
    · refine ⟨congrArg (Tr.int _) ?_⟩
      dsimp only
      rw [cnRs_snoc, hcx]
      try simp (disch := omega) only [IntWalk.i64_in]
      try omega
    · refine ⟨congrArg (Tr.int _) ?_⟩
      dsimp only
      rw [List.length_append]
      try simp (disch := omega) only [IntWalk.i64_in]
      try rfl
    · refine ⟨?_⟩
      dsimp only
      have hDd : (deepRows D).length = a.length := by rw [deepRows_length]; exact hDl
      rw [mkRs_snoc, snoc_cons, hD, hK, ← hR]
      try simp (disch := omega) only [set_set, deepRows_append, deepRows_cons, mid_set hDd, List.map_cons, IntWalk.i64_in]
      try rfl
theorem cn_LineS (xs : List (TLine)) (hs : smallT 1048576 (.lst 4 (xs.map TLine.tr))) : cnRs (xs.map TLine.tr) ≤ 1048576 * 4194306 := by
  have h1 := small_nat hs
  refine Nat.le_trans (cnRs_map_le (g := TLine.tr) (M := 4194306) fun x hx => ?_) (Nat.mul_le_mul_right _ h1)
  have hcx : cnR (TLine.tr x) = 2 + cnRs (x.fArgs.map strRow) + cnRs (x.fExpr.map TTok.tr) := by simp only [TLine.tr, cnR, cnT] <;> omega
  rw [hcx]
  have hr := smallRs_map hs hx
  simp only [TLine.tr, smallR] at hr
  have c2 := cn_StringS _ (hr.2.2.1)
  have c3 := cn_TokS _ (hr.2.2.2.1)
  omega
theorem hin_LineS (xs : List (TLine)) (hs : smallT 1048576 (.lst 4 (xs.map TLine.tr))) : ∀ x ∈ xs, x.fArgs.length ≤ 1099511627776 ∧ x.fExpr.length ≤ 1099511627776 := by
  intro x hx
  have hr := smallRs_map hs hx
  simp only [TLine.tr, smallR] at hr
  exact ⟨Nat.le_trans (small_nat (hr.2.2.1)) (by omega), Nat.le_trans (small_nat (hr.2.2.2.1)) (by omega)⟩
theorem g_laws_toLineS (xs : List (TLine)) (hs : smallT 1048576 (.lst 4 (xs.map TLine.tr))) : SpecG Try.prog 24 [.r (.c (.t (.lst 4 (xs.map TLine.tr))))] [] (.r (.c (.own (1, 0, 0)))) [((1, 0, 0), .dar 4 (deepRows (xs.map TLine.tr)) none)] := by
  have hl := small_len hs
  have hlen : (xs.map TLine.tr).length = xs.length := by simp
  refine specG_of_W hΓ hmix Try.func24 rfl (by decide) rfl rfl ?_
  repeat' ((conv => whnf); first | refine Or.inl ?_ | refine And.intro (Obl.out (?_ : Obl _)) ?_ | refine ifB_intro (fun h => ?_) (fun h => ?_) | refine Exists.intro _ (And.intro rfl ?_) | ((with_reducible show _ = _); rfl))
  all_goals try ((with_reducible refine Obl.mk ?_); first | ((with_reducible show regOk _ _ = true); kernel_rfl) | ((with_reducible show eqTyOk _ _ = true); kernel_rfl) | rfl | exact trivial | ((repeat' (first | exact trivial | refine And.intro ?_ ?_)); done) | decide | ((repeat' (first | exact List.forall_mem_nil _ | refine List.forall_mem_cons.2 (And.intro rfl ?_))); done) | (refine And.intro ?_ ?_ <;> simp only [List.length_map, List.length_append, List.length_cons, List.length_nil] <;> omega))
  · exact ⟨by omega⟩
  · exact ⟨by dsimp only; omega⟩
  repeat' ((conv => whnf); first | refine Or.inl ?_ | refine And.intro (Obl.out (?_ : Obl _)) ?_ | refine ifB_intro (fun h => ?_) (fun h => ?_) | refine Exists.intro _ (And.intro rfl ?_) | ((with_reducible show _ = _); rfl))
  all_goals try ((with_reducible refine Obl.mk ?_); first | ((with_reducible show regOk _ _ = true); kernel_rfl) | ((with_reducible show eqTyOk _ _ = true); kernel_rfl) | rfl | exact trivial | ((repeat' (first | exact trivial | refine And.intro ?_ ?_)); done) | decide | ((repeat' (first | exact List.forall_mem_nil _ | refine List.forall_mem_cons.2 (And.intro rfl ?_))); done) | (refine And.intro ?_ ?_ <;> simp only [List.length_map, List.length_append, List.length_cons, List.length_nil] <;> omega))
  conv => whnf
  refine ⟨{ k : Nat // k ≤ xs.length }, fun k => ⟨[(0, .r (.c (.t (.lst 4 (xs.map TLine.tr))))), (3, .r (.c (.own (3, 0, 0)))), (4, tI .i64 (k.1 : Int))], [((3, 0, 0), some (.dar 4 (deepRows (filled (xs.map TLine.tr) [.int .i64 0, .str [], .lst 0 [], .lst 0 []] k.1)) none))], [3, 0]⟩, fun k => xs.length - k.1, ⟨0, by omega⟩, ?_, ?_⟩
  · skip
    repeat' ((conv => whnf); first | refine Or.inl ?_ | refine And.intro (Obl.out (?_ : Obl _)) ?_ | refine ifB_intro (fun h => ?_) (fun h => ?_) | refine Exists.intro _ (And.intro rfl ?_) | ((with_reducible show _ = _); rfl))
    all_goals try ((with_reducible refine Obl.mk ?_); first | ((with_reducible show regOk _ _ = true); kernel_rfl) | ((with_reducible show eqTyOk _ _ = true); kernel_rfl) | rfl | exact trivial | ((repeat' (first | exact trivial | refine And.intro ?_ ?_)); done) | decide | ((repeat' (first | exact List.forall_mem_nil _ | refine List.forall_mem_cons.2 (And.intro rfl ?_))); done) | (refine And.intro ?_ ?_ <;> simp only [List.length_map, List.length_append, List.length_cons, List.length_nil] <;> omega))
    all_goals exact ⟨by first | (rw [← filled_zero, hlen, deepRows, List.map_replicate]; done) | (rw [← filled_zero, hlen, deepRows, List.map_replicate]; rfl)⟩
  intro ⟨k, hk⟩
  dsimp only
  repeat' ((conv => whnf); first | refine Or.inl ?_ | refine And.intro (Obl.out (?_ : Obl _)) ?_ | refine ifB_intro (fun h => ?_) (fun h => ?_) | refine Exists.intro _ (And.intro rfl ?_) | ((with_reducible show _ = _); rfl))
  all_goals try ((with_reducible refine Obl.mk ?_); first | ((with_reducible show regOk _ _ = true); kernel_rfl) | ((with_reducible show eqTyOk _ _ = true); kernel_rfl) | rfl | exact trivial | ((repeat' (first | exact trivial | refine And.intro ?_ ?_)); done) | decide | ((repeat' (first | exact List.forall_mem_nil _ | refine List.forall_mem_cons.2 (And.intro rfl ?_))); done) | (refine And.intro ?_ ?_ <;> simp only [List.length_map, List.length_append, List.length_cons, List.length_nil] <;> omega))
  · have hlt : k < xs.length := by have := of_decide_eq_true h; omega
    obtain ⟨x, hx⟩ := get_of_lt hlt
    have hsr := smallRs_map hs (List.mem_of_getElem? hx)
    conv => whnf
    refine ⟨k, _, rfl, map_get hx, ?_⟩
    repeat' ((conv => whnf); first | refine Or.inl ?_ | refine And.intro (Obl.out (?_ : Obl _)) ?_ | refine ifB_intro (fun h => ?_) (fun h => ?_) | refine call_intro ((s_laws_toLine x hsr)) (And.intro (And.intro rfl (And.intro rfl (And.intro rfl (And.intro rfl trivial)))) trivial) ?_ | refine Exists.intro _ (And.intro rfl ?_) | ((with_reducible show _ = _); rfl))
    all_goals try ((with_reducible refine Obl.mk ?_); first | ((with_reducible show regOk _ _ = true); kernel_rfl) | ((with_reducible show eqTyOk _ _ = true); kernel_rfl) | rfl | exact trivial | ((repeat' (first | exact trivial | refine And.intro ?_ ?_)); done) | decide | ((repeat' (first | exact List.forall_mem_nil _ | refine List.forall_mem_cons.2 (And.intro rfl ?_))); done) | (refine And.intro ?_ ?_ <;> simp only [List.length_map, List.length_append, List.length_cons, List.length_nil] <;> omega))
    · exact ⟨by rw [deepRows_length, filled_len (by omega)]; omega⟩
    conv => whnf
    refine ⟨_, deepRows_get (filled_get (by omega)), ?_⟩
    repeat' ((conv => whnf); first | refine Or.inl ?_ | refine And.intro (Obl.out (?_ : Obl _)) ?_ | refine ifB_intro (fun h => ?_) (fun h => ?_) | refine Exists.intro _ (And.intro rfl ?_) | ((with_reducible show _ = _); rfl))
    all_goals try ((with_reducible refine Obl.mk ?_); first | ((with_reducible show regOk _ _ = true); kernel_rfl) | ((with_reducible show eqTyOk _ _ = true); kernel_rfl) | rfl | exact trivial | ((repeat' (first | exact trivial | refine And.intro ?_ ?_)); done) | decide | ((repeat' (first | exact List.forall_mem_nil _ | refine List.forall_mem_cons.2 (And.intro rfl ?_))); done) | (refine And.intro ?_ ?_ <;> simp only [List.length_map, List.length_append, List.length_cons, List.length_nil] <;> omega))
    all_goals try exact ⟨flat_map _ (by intro x c hc sz rs e; subst e; simp [TTok.tr, strRow] at hc)⟩
    conv => whnf
    refine ⟨⟨k + 1, by omega⟩, ?_, by dsimp only; omega⟩
    repeat' ((conv => whnf); first | refine Or.inl ?_ | refine And.intro (Obl.out (?_ : Obl _)) ?_ | refine ifB_intro (fun h => ?_) (fun h => ?_) | refine Exists.intro _ (And.intro rfl ?_) | ((with_reducible show _ = _); rfl))
    all_goals try ((with_reducible refine Obl.mk ?_); first | ((with_reducible show regOk _ _ = true); kernel_rfl) | ((with_reducible show eqTyOk _ _ = true); kernel_rfl) | rfl | exact trivial | ((repeat' (first | exact trivial | refine And.intro ?_ ?_)); done) | decide | ((repeat' (first | exact List.forall_mem_nil _ | refine List.forall_mem_cons.2 (And.intro rfl ?_))); done) | (refine And.intro ?_ ?_ <;> simp only [List.length_map, List.length_append, List.length_cons, List.length_nil] <;> omega))
    · exact ⟨by dsimp only; rw [IntWalk.i64_in _ (by omega)]; rfl⟩
    · exact ⟨(deepRows_set _ _ (TLine.tr x)).trans (congrArg deepRows (filled_set (map_get hx)))⟩
  · have hge : xs.length ≤ k := by have := of_decide_eq_false h; omega
    exact ⟨congrArg deepRows (filled_all (by omega))⟩
end Go.Proofs.Ytehniaekfijmiaa
