/- The laws' helpers that mark what they are handed, and look for the marks; copies that are owned to the bottom. -/
import Derived.Test.YtehniaekfijmiaaMkA
import Derived.Test.YtehniaekfijmiaaTyB
namespace Go.Proofs.Ytehniaekfijmiaa
open Go.Sim Go.RowKit
set_option maxRecDepth 100000
set_option maxHeartbeats 4000000
theorem mkR_flat : ∀ (cs : List Tr) (k : Int), (∀ c ∈ cs, ∀ sz rs, c ≠ .lst sz rs) → ∀ c ∈ mkR cs k, ∀ sz rs, c ≠ .lst sz rs
  | [], _, _, c, hc, _, _ => by rw [mkR] at hc; cases hc
  | d :: cs, k, h, c, hc, sz, rs => by
    rw [mkR] at hc
    rcases List.mem_cons.1 hc with rfl | hc
    · have := h d (by simp)
      cases d with
      | lst sz rows => exact absurd rfl (this sz rows)
      | _ => intro e; simp [mkT] at e
    · exact mkR_flat cs _ (fun c hc => h c (by simp [hc])) c hc sz rs
theorem flat_mk : ∀ (rows : List (List Tr)) (k : Int), flat rows → flat (mkRs rows k)
  | [], _, _ => by rw [mkRs]; intro r hr; cases hr
  | r :: rows, k, h => by
    rw [mkRs]
    intro row hr
    rcases List.mem_cons.1 hr with rfl | hr
    · exact mkR_flat r k (h r (by simp))
    · exact flat_mk rows _ (fun r hr => h r (by simp [hr])) row hr
theorem dig_byte (m : Nat) : IntKind.u8.wrap (IntKind.i64.wrap (48 + (m : Int).tmod 10)) = ((UInt8.ofNat (48 + m % 10)).toNat : Int) := by
  rw [Int.tmod_eq_emod_of_nonneg (by omega), IntWalk.i64_in _ (by omega), IntWalk.u8_in _ (by omega)]
  simp
  omega
theorem dig_div (m : Nat) (h : m ≤ 9223372036854775807) : IntKind.i64.wrap ((m : Int).tdiv 10) = ((m / 10 : Nat) : Int) := by
  rw [Int.tdiv_eq_ediv_of_nonneg (by omega), IntWalk.i64_in _ (by omega)]
  omega
theorem s_laws_markText (k : Int) (hk : k ≤ 9223372036854775807) : Sim.Spec Try.prog 92 [tvI k] (rS (mText k)) := by
  refine spec_of_W hΓ hmix Try.func92 rfl (by decide) rfl ?_
  repeat' ((conv => whnf); first | refine Or.inl ?_ | refine And.intro (Obl.out (?_ : Obl _)) ?_ | refine ifB_intro (fun h => ?_) (fun h => ?_) | refine Exists.intro _ (And.intro rfl ?_) | ((with_reducible show _ = _); rfl))
  all_goals try ((with_reducible refine Obl.mk ?_); first | ((with_reducible show regOk _ _ = true); kernel_rfl) | ((with_reducible show eqTyOk _ _ = true); kernel_rfl) | rfl | exact trivial | ((repeat' (first | exact trivial | refine And.intro ?_ ?_)); done) | decide | ((repeat' (first | exact List.forall_mem_nil _ | refine List.forall_mem_cons.2 (And.intro rfl ?_))); done) | (refine And.intro ?_ ?_ <;> simp only [List.length_map, List.length_append, List.length_cons, List.length_nil] <;> omega))
  · exact ⟨by rw [mText, if_pos (of_decide_eq_true h)]⟩
  have h0 : ¬ k ≤ 0 := of_decide_eq_false h
  clear h
  rw [mText, if_neg h0]
  obtain ⟨n, rfl⟩ := Int.eq_ofNat_of_zero_le (show 0 ≤ k by omega)
  conv => whnf
  refine ⟨{ q : Nat × List UInt8 // digs q.1 q.2 = digs n [] ∧ q.1 * 10 ^ q.2.length ≤ 9223372036854775807 ∧ q.2.length ≤ 20 }, fun q => ⟨[(0, tI .i64 (q.1.1 : Nat)), (3, tS q.1.2)], [], []⟩, fun q => q.1.1, ⟨(n, []), by simp, by simp; omega, by simp⟩, ?_, ?_⟩
  · skip
    repeat' ((conv => whnf); first | refine Or.inl ?_ | refine And.intro (Obl.out (?_ : Obl _)) ?_ | refine ifB_intro (fun h => ?_) (fun h => ?_) | refine Exists.intro _ (And.intro rfl ?_) | ((with_reducible show _ = _); rfl))
    all_goals try ((with_reducible refine Obl.mk ?_); first | ((with_reducible show regOk _ _ = true); kernel_rfl) | ((with_reducible show eqTyOk _ _ = true); kernel_rfl) | rfl | exact trivial | ((repeat' (first | exact trivial | refine And.intro ?_ ?_)); done) | decide | ((repeat' (first | exact List.forall_mem_nil _ | refine List.forall_mem_cons.2 (And.intro rfl ?_))); done) | (refine And.intro ?_ ?_ <;> simp only [List.length_map, List.length_append, List.length_cons, List.length_nil] <;> omega))
  intro ⟨⟨m, o⟩, hd, hb, hl⟩
  dsimp only at hd hb hl ⊢
  have hm : m ≤ 9223372036854775807 := Nat.le_trans (Nat.le_mul_of_pos_right m (Nat.pow_pos (by omega))) hb
  repeat' ((conv => whnf); first | refine Or.inl ?_ | refine And.intro (Obl.out (?_ : Obl _)) ?_ | refine ifB_intro (fun h => ?_) (fun h => ?_) | refine Exists.intro _ (And.intro rfl ?_) | ((with_reducible show _ = _); rfl))
  all_goals try ((with_reducible refine Obl.mk ?_); first | ((with_reducible show regOk _ _ = true); kernel_rfl) | ((with_reducible show eqTyOk _ _ = true); kernel_rfl) | rfl | exact trivial | ((repeat' (first | exact trivial | refine And.intro ?_ ?_)); done) | decide | ((repeat' (first | exact List.forall_mem_nil _ | refine List.forall_mem_cons.2 (And.intro rfl ?_))); done) | (refine And.intro ?_ ?_ <;> simp only [List.length_map, List.length_append, List.length_cons, List.length_nil] <;> omega))
  all_goals try exact ⟨fun r hr => by simp at hr; subst hr; rfl⟩
  all_goals try exact ⟨by simp; omega⟩
  · have hmp : 0 < m := by have := of_decide_eq_true h; omega
    have hl18 : o.length ≤ 18 := by
      rcases Nat.lt_or_ge 18 o.length with h' | h'
      · have h1 : 10 ^ 19 ≤ 10 ^ o.length := Nat.pow_le_pow_right (by omega) h'
        have h2 : 10 ^ o.length ≤ m * 10 ^ o.length := Nat.le_mul_of_pos_left _ hmp
        omega
      · exact h'
    conv => whnf
    refine ⟨[UInt8.ofNat (48 + m % 10)], by rw [dig_byte]; rfl, ?_⟩
    repeat' ((conv => whnf); first | refine Or.inl ?_ | refine And.intro (Obl.out (?_ : Obl _)) ?_ | refine ifB_intro (fun h => ?_) (fun h => ?_) | refine Exists.intro _ (And.intro rfl ?_) | ((with_reducible show _ = _); rfl))
    all_goals try ((with_reducible refine Obl.mk ?_); first | ((with_reducible show regOk _ _ = true); kernel_rfl) | ((with_reducible show eqTyOk _ _ = true); kernel_rfl) | rfl | exact trivial | ((repeat' (first | exact trivial | refine And.intro ?_ ?_)); done) | decide | ((repeat' (first | exact List.forall_mem_nil _ | refine List.forall_mem_cons.2 (And.intro rfl ?_))); done) | (refine And.intro ?_ ?_ <;> simp only [List.length_map, List.length_append, List.length_cons, List.length_nil] <;> omega))
    all_goals try exact ⟨by simp; omega⟩
    conv => whnf
    refine ⟨⟨(m / 10, UInt8.ofNat (48 + m % 10) :: o), by rw [← hd, digs.eq_def m, if_neg (by omega)], ?_, by simp; omega⟩, ?_, by dsimp only; omega⟩
    · dsimp only
      rw [List.length_cons, Nat.pow_succ]
      have h1 : m / 10 * 10 ≤ m := Nat.div_mul_le_self m 10
      have h2 := Nat.mul_le_mul_right (10 ^ o.length) h1
      rw [Nat.mul_comm (10 ^ o.length) 10, ← Nat.mul_assoc]
      omega
    repeat' ((conv => whnf); first | refine Or.inl ?_ | refine And.intro (Obl.out (?_ : Obl _)) ?_ | refine ifB_intro (fun h => ?_) (fun h => ?_) | refine Exists.intro _ (And.intro rfl ?_) | ((with_reducible show _ = _); rfl))
    all_goals try ((with_reducible refine Obl.mk ?_); first | ((with_reducible show regOk _ _ = true); kernel_rfl) | ((with_reducible show eqTyOk _ _ = true); kernel_rfl) | rfl | exact trivial | ((repeat' (first | exact trivial | refine And.intro ?_ ?_)); done) | decide | ((repeat' (first | exact List.forall_mem_nil _ | refine List.forall_mem_cons.2 (And.intro rfl ?_))); done) | (refine And.intro ?_ ?_ <;> simp only [List.length_map, List.length_append, List.length_cons, List.length_nil] <;> omega))
    exact ⟨by dsimp only; rw [dig_div m hm]⟩
  · have hm0 : m = 0 := by have := of_decide_eq_false h; omega
    subst hm0
    rw [digs, if_pos rfl] at hd
    exact ⟨by rw [hd]; rfl⟩
theorem g_laws_markIntS (xs : List (Int)) (k : Int) (hk0 : 0 ≤ k) (hl : xs.length ≤ 1099511627776) (hk : k + (cnRs (xs.map intRow) : Nat) ≤ 4611686018427387904) : SpecG Try.prog 81 [.r (.c (.own (0, 0, 0))), tI .i64 k] [((0, 0, 0), .arr false 1 (xs.map intRow))] (tI .i64 (k + (cnRs (xs.map intRow) : Nat))) [((0, 0, 0), .arr false 1 (mkRs (xs.map intRow) k))] := by
  refine specG_of_W hΓ hmix Try.func81 rfl (by decide) rfl rfl ?_
  repeat' ((conv => whnf); first | refine Or.inl ?_ | refine And.intro (Obl.out (?_ : Obl _)) ?_ | refine ifB_intro (fun h => ?_) (fun h => ?_) | refine Exists.intro _ (And.intro rfl ?_) | ((with_reducible show _ = _); rfl))
  all_goals try ((with_reducible refine Obl.mk ?_); first | ((with_reducible show regOk _ _ = true); kernel_rfl) | ((with_reducible show eqTyOk _ _ = true); kernel_rfl) | rfl | exact trivial | ((repeat' (first | exact trivial | refine And.intro ?_ ?_)); done) | decide | ((repeat' (first | exact List.forall_mem_nil _ | refine List.forall_mem_cons.2 (And.intro rfl ?_))); done) | (refine And.intro ?_ ?_ <;> simp only [List.length_map, List.length_append, List.length_cons, List.length_nil] <;> omega))
  conv => whnf
  refine ⟨{ q : List (Int) × List (Int) // q.1 ++ q.2 = xs }, fun q => ⟨[(0, .r (.c (.own (0, 0, 0)))), (1, tI .i64 (k + (cnRs (q.1.1.map intRow) : Nat))), (5, tI .i64 (q.1.1.length : Nat))], [((0, 0, 0), some (.arr false 1 (mkRs (q.1.1.map intRow) k ++ q.1.2.map intRow)))], [0]⟩, fun q => q.1.2.length, ⟨([], xs), rfl⟩, ?_, ?_⟩
  · skip
    repeat' ((conv => whnf); first | refine Or.inl ?_ | refine And.intro (Obl.out (?_ : Obl _)) ?_ | refine ifB_intro (fun h => ?_) (fun h => ?_) | refine Exists.intro _ (And.intro rfl ?_) | ((with_reducible show _ = _); rfl))
    all_goals try ((with_reducible refine Obl.mk ?_); first | ((with_reducible show regOk _ _ = true); kernel_rfl) | ((with_reducible show eqTyOk _ _ = true); kernel_rfl) | rfl | exact trivial | ((repeat' (first | exact trivial | refine And.intro ?_ ?_)); done) | decide | ((repeat' (first | exact List.forall_mem_nil _ | refine List.forall_mem_cons.2 (And.intro rfl ?_))); done) | (refine And.intro ?_ ?_ <;> simp only [List.length_map, List.length_append, List.length_cons, List.length_nil] <;> omega))
    all_goals exact ⟨by first | rfl | simp [cnRs, mkRs]⟩
  intro ⟨⟨a, b⟩, hab⟩
  dsimp only at hab ⊢
  have hal : a.length + b.length ≤ 1099511627776 := by rw [← List.length_append, hab]; exact hl
  have hsum : k + (cnRs (a.map intRow) : Nat) + (cnRs (b.map intRow) : Nat) = k + (cnRs (xs.map intRow) : Nat) := by rw [← hab, List.map_append, cnRs_append]; omega
  have hall : mkRs (xs.map intRow) k = mkRs (a.map intRow) k ++ mkRs (b.map intRow) (k + (cnRs (a.map intRow) : Nat)) := by rw [← hab, List.map_append, mkRs_append]
  have hDl : (mkRs (a.map intRow) k).length = a.length := by rw [mkRs_length, List.length_map]
  generalize hR : mkRs (a.map intRow) k ++ b.map intRow = R
  have hRl : R.length = a.length + b.length := by rw [← hR]; simp [hDl]
  generalize hK : k + (cnRs (a.map intRow) : Nat) = K at hsum hall ⊢
  generalize hD : mkRs (a.map intRow) k = D at hR hall hDl
  generalize hT : mkRs (xs.map intRow) k = T at hall ⊢
  generalize hC : k + (cnRs (xs.map intRow) : Nat) = C at hk hsum ⊢
  have hK0 : 0 ≤ K := by omega
  rcases hb : b with _ | ⟨x, b2⟩
  all_goals rw [hb] at hR hall hsum hRl hal
  · have hKC : K = C := by simpa [cnRs] using hsum
    have hRT : R = T := by rw [hall, ← hR]; simp [mkRs]
    repeat' ((conv => whnf); first | refine Or.inl ?_ | refine And.intro (Obl.out (?_ : Obl _)) ?_ | refine ifB_intro (fun h => ?_) (fun h => ?_) | refine Exists.intro _ (And.intro rfl ?_) | ((with_reducible show _ = _); rfl))
    all_goals try ((with_reducible refine Obl.mk ?_); first | ((with_reducible show regOk _ _ = true); kernel_rfl) | ((with_reducible show eqTyOk _ _ = true); kernel_rfl) | rfl | exact trivial | ((repeat' (first | exact trivial | refine And.intro ?_ ?_)); done) | decide | ((repeat' (first | exact List.forall_mem_nil _ | refine List.forall_mem_cons.2 (And.intro rfl ?_))); done) | (refine And.intro ?_ ?_ <;> simp only [List.length_map, List.length_append, List.length_cons, List.length_nil] <;> omega))
    all_goals try (exfalso; have h' := of_decide_eq_true h; rw [hRl] at h'; simp at h'; done)
    all_goals first | exact ⟨by rw [hKC]⟩ | exact ⟨hRT⟩
  · have hal2 : a.length + (b2.length + 1) ≤ 1099511627776 := hal
    have hcx : cnR (intRow x) = 1 := by simp only [intRow, cnR, cnT]
    have hsm : K + ((1 : Nat) : Int) + (cnRs (b2.map intRow) : Nat) = C := by rw [← hsum, List.map_cons, cnRs, hcx]; omega
    have hRl2 : R.length = a.length + (b2.length + 1) := hRl
    have hget : R[a.length]? = some (intRow x) := by rw [← hR]; exact mid_get hDl
    repeat' ((conv => whnf); first | refine Or.inl ?_ | refine And.intro (Obl.out (?_ : Obl _)) ?_ | refine ifB_intro (fun h => ?_) (fun h => ?_) | refine ⟨_, hget, ?_⟩ | refine ⟨_, set_get (by (try simp only [List.length_set]); omega), ?_⟩ | refine call_intro ((s_laws_markText _ (by (try simp (disch := omega) only [IntWalk.i64_in]); omega))) (And.intro rfl trivial) ?_ | refine Exists.intro _ (And.intro rfl ?_) | ((with_reducible show _ = _); rfl))
    all_goals try ((with_reducible refine Obl.mk ?_); first | ((with_reducible show regOk _ _ = true); kernel_rfl) | ((with_reducible show eqTyOk _ _ = true); kernel_rfl) | rfl | exact trivial | ((repeat' (first | exact trivial | refine And.intro ?_ ?_)); done) | decide | ((repeat' (first | exact List.forall_mem_nil _ | refine List.forall_mem_cons.2 (And.intro rfl ?_))); done) | (refine And.intro ?_ ?_ <;> simp only [List.length_map, List.length_append, List.length_cons, List.length_nil] <;> omega))
    all_goals try (exfalso; have h' := of_decide_eq_false h; omega; done)
    all_goals try exact ⟨by (try simp only [List.length_set]); omega⟩
    conv => whnf
    refine ⟨⟨(a ++ [x], b2), by rw [← hab, hb]; simp⟩, ?_, Nat.lt_succ_self _⟩
    repeat' ((conv => whnf); first | refine Or.inl ?_ | refine And.intro (Obl.out (?_ : Obl _)) ?_ | refine ifB_intro (fun h => ?_) (fun h => ?_) | refine Exists.intro _ (And.intro rfl ?_) | ((with_reducible show _ = _); rfl))
    all_goals try ((with_reducible refine Obl.mk ?_); first | ((with_reducible show regOk _ _ = true); kernel_rfl) | ((with_reducible show eqTyOk _ _ = true); kernel_rfl) | rfl | exact trivial | ((repeat' (first | exact trivial | refine And.intro ?_ ?_)); done) | decide | ((repeat' (first | exact List.forall_mem_nil _ | refine List.forall_mem_cons.2 (And.intro rfl ?_))); done) | (refine And.intro ?_ ?_ <;> simp only [List.length_map, List.length_append, List.length_cons, List.length_nil] <;> omega))
    · refine ⟨congrArg (Tr.int _) ?_⟩
      dsimp only
      rw [cnRs_snoc, hcx]
      try simp (disch := omega) only [IntWalk.i64_in]
      try omega
    · refine ⟨congrArg (Tr.int _) ?_⟩
      dsimp only
      rw [List.length_append]
      try simp (disch := omega) only [IntWalk.i64_in]
      try rfl
    · refine ⟨?_⟩
      dsimp only
      rw [mkRs_snoc, snoc_cons, hD, hK, ← hR]
      try simp (disch := omega) only [set_set, mid_set hDl, List.map_cons, IntWalk.i64_in]
      try rfl
theorem s_laws_heldIntS (xs : List (Int)) (k : Int) (hk0 : 0 ≤ k) (hl : xs.length ≤ 1099511627776) (hk : k + (cnRs (xs.map intRow) : Nat) ≤ 4611686018427387904) : Sim.Spec Try.prog 82 [tvL 1 (mkRs (xs.map intRow) k), tvI k] (rI (k + (cnRs (xs.map intRow) : Nat))) := by
  refine spec_of_W hΓ hmix Try.func82 rfl (by decide) rfl ?_
  have hTl : (mkRs (xs.map intRow) k).length = xs.length := by rw [mkRs_length, List.length_map]
  have hal0 := fun (a b : List (Int)) => mkRs_append (a.map intRow) (b.map intRow) k
  generalize hT : mkRs (xs.map intRow) k = T at hTl ⊢
  repeat' ((conv => whnf); first | refine Or.inl ?_ | refine And.intro (Obl.out (?_ : Obl _)) ?_ | refine ifB_intro (fun h => ?_) (fun h => ?_) | refine Exists.intro _ (And.intro rfl ?_) | ((with_reducible show _ = _); rfl))
  all_goals try ((with_reducible refine Obl.mk ?_); first | ((with_reducible show regOk _ _ = true); kernel_rfl) | ((with_reducible show eqTyOk _ _ = true); kernel_rfl) | rfl | exact trivial | ((repeat' (first | exact trivial | refine And.intro ?_ ?_)); done) | decide | ((repeat' (first | exact List.forall_mem_nil _ | refine List.forall_mem_cons.2 (And.intro rfl ?_))); done) | (refine And.intro ?_ ?_ <;> simp only [List.length_map, List.length_append, List.length_cons, List.length_nil] <;> omega))
  conv => whnf
  refine ⟨{ q : List (Int) × List (Int) // q.1 ++ q.2 = xs }, fun q => ⟨[(0, .r (.c (.t (.lst 1 T)))), (1, tI .i64 (k + (cnRs (q.1.1.map intRow) : Nat))), (5, tI .i64 (q.1.1.length : Nat))], [], []⟩, fun q => q.1.2.length, ⟨([], xs), rfl⟩, ?_, ?_⟩
  · skip
    repeat' ((conv => whnf); first | refine Or.inl ?_ | refine And.intro (Obl.out (?_ : Obl _)) ?_ | refine ifB_intro (fun h => ?_) (fun h => ?_) | refine Exists.intro _ (And.intro rfl ?_) | ((with_reducible show _ = _); rfl))
    all_goals try ((with_reducible refine Obl.mk ?_); first | ((with_reducible show regOk _ _ = true); kernel_rfl) | ((with_reducible show eqTyOk _ _ = true); kernel_rfl) | rfl | exact trivial | ((repeat' (first | exact trivial | refine And.intro ?_ ?_)); done) | decide | ((repeat' (first | exact List.forall_mem_nil _ | refine List.forall_mem_cons.2 (And.intro rfl ?_))); done) | (refine And.intro ?_ ?_ <;> simp only [List.length_map, List.length_append, List.length_cons, List.length_nil] <;> omega))
    all_goals exact ⟨by first | rfl | simp [cnRs]⟩
  intro ⟨⟨a, b⟩, hab⟩
  dsimp only at hab ⊢
  have hal : a.length + b.length ≤ 1099511627776 := by rw [← List.length_append, hab]; exact hl
  have hsum : k + (cnRs (a.map intRow) : Nat) + (cnRs (b.map intRow) : Nat) = k + (cnRs (xs.map intRow) : Nat) := by rw [← hab, List.map_append, cnRs_append]; omega
  have hall : T = mkRs (a.map intRow) k ++ mkRs (b.map intRow) (k + (cnRs (a.map intRow) : Nat)) := by rw [← hT, ← hab, List.map_append, mkRs_append]
  have hDl : (mkRs (a.map intRow) k).length = a.length := by rw [mkRs_length, List.length_map]
  have hTl2 : T.length = a.length + b.length := by rw [hTl, ← hab, List.length_append]
  generalize hK : k + (cnRs (a.map intRow) : Nat) = K at hsum hall ⊢
  generalize hD : mkRs (a.map intRow) k = D at hall hDl
  generalize hC : k + (cnRs (xs.map intRow) : Nat) = C at hk hsum ⊢
  have hK0 : 0 ≤ K := by omega
  rcases hb : b with _ | ⟨x, b2⟩
  all_goals rw [hb] at hall hsum hTl2 hal
  · have hKC : K = C := by simpa [cnRs] using hsum
    repeat' ((conv => whnf); first | refine Or.inl ?_ | refine And.intro (Obl.out (?_ : Obl _)) ?_ | refine ifB_intro (fun h => ?_) (fun h => ?_) | refine Exists.intro _ (And.intro rfl ?_) | ((with_reducible show _ = _); rfl))
    all_goals try ((with_reducible refine Obl.mk ?_); first | ((with_reducible show regOk _ _ = true); kernel_rfl) | ((with_reducible show eqTyOk _ _ = true); kernel_rfl) | rfl | exact trivial | ((repeat' (first | exact trivial | refine And.intro ?_ ?_)); done) | decide | ((repeat' (first | exact List.forall_mem_nil _ | refine List.forall_mem_cons.2 (And.intro rfl ?_))); done) | (refine And.intro ?_ ?_ <;> simp only [List.length_map, List.length_append, List.length_cons, List.length_nil] <;> omega))
    all_goals try (exfalso; have h' := of_decide_eq_true h; rw [hTl2] at h'; simp at h'; done)
    all_goals exact ⟨by rw [hKC]⟩
  · have hal2 : a.length + (b2.length + 1) ≤ 1099511627776 := hal
    have hcx : cnR (intRow x) = 1 := by simp only [intRow, cnR, cnT]
    have hsm : K + ((1 : Nat) : Int) + (cnRs (b2.map intRow) : Nat) = C := by rw [← hsum, List.map_cons, cnRs, hcx]; omega
    have hTl3 : T.length = a.length + (b2.length + 1) := hTl2
    have hget : T[a.length]? = some [.int .i64 (K)] := by rw [hall, List.map_cons, mkRs]; exact mid_get hDl
    repeat' ((conv => whnf); first | refine Or.inl ?_ | refine And.intro (Obl.out (?_ : Obl _)) ?_ | refine ifB_intro (fun h => ?_) (fun h => ?_) | refine ⟨a.length, _, rfl, hget, ?_⟩ | refine Exists.intro _ (And.intro rfl ?_) | ((with_reducible show _ = _); rfl))
    all_goals try ((with_reducible refine Obl.mk ?_); first | ((with_reducible show regOk _ _ = true); kernel_rfl) | ((with_reducible show eqTyOk _ _ = true); kernel_rfl) | rfl | exact trivial | ((repeat' (first | exact trivial | refine And.intro ?_ ?_)); done) | decide | ((repeat' (first | exact List.forall_mem_nil _ | refine List.forall_mem_cons.2 (And.intro rfl ?_))); done) | (refine And.intro ?_ ?_ <;> simp only [List.length_map, List.length_append, List.length_cons, List.length_nil] <;> omega))
    all_goals try (exfalso; have h' := of_decide_eq_false h; omega; done)
    all_goals try (exfalso; (try have h' := of_decide_eq_true h); (try simp (disch := omega) [IntWalk.i64_in] at h'); (try simp (disch := omega) [IntWalk.i64_in] at h); (try omega); done)
    conv => whnf
    refine ⟨⟨(a ++ [x], b2), by rw [← hab, hb]; simp⟩, ?_, Nat.lt_succ_self _⟩
    repeat' ((conv => whnf); first | refine Or.inl ?_ | refine And.intro (Obl.out (?_ : Obl _)) ?_ | refine ifB_intro (fun h => ?_) (fun h => ?_) | refine Exists.intro _ (And.intro rfl ?_) | ((with_reducible show _ = _); rfl))
    all_goals try ((with_reducible refine Obl.mk ?_); first | ((with_reducible show regOk _ _ = true); kernel_rfl) | ((with_reducible show eqTyOk _ _ = true); kernel_rfl) | rfl | exact trivial | ((repeat' (first | exact trivial | refine And.intro ?_ ?_)); done) | decide | ((repeat' (first | exact List.forall_mem_nil _ | refine List.forall_mem_cons.2 (And.intro rfl ?_))); done) | (refine And.intro ?_ ?_ <;> simp only [List.length_map, List.length_append, List.length_cons, List.length_nil] <;> omega))
    · refine ⟨congrArg (Tr.int _) ?_⟩
      dsimp only
      rw [cnRs_snoc, hcx]
      try simp (disch := omega) only [IntWalk.i64_in]
      try omega
    · refine ⟨congrArg (Tr.int _) ?_⟩
      dsimp only
      rw [List.length_append]
      try simp (disch := omega) only [IntWalk.i64_in]
      try rfl
theorem cn_IntS (xs : List (Int)) (hs : smallT 1048576 (.lst 1 (xs.map intRow))) : cnRs (xs.map intRow) ≤ 1048576 * 1 := by
  have h1 := small_nat hs
  refine Nat.le_trans (cnRs_map_le (g := intRow) (M := 1) fun x hx => ?_) (Nat.mul_le_mul_right _ h1)
  have hcx : cnR (intRow x) = 1 := by simp only [intRow, cnR, cnT]
  rw [hcx]
  omega
theorem g_laws_markSymbolS (xs : List (TSymbol)) (k : Int) (hk0 : 0 ≤ k) (hl : xs.length ≤ 1099511627776) (hk : k + (cnRs (xs.map TSymbol.tr) : Nat) ≤ 4611686018427387904) : SpecG Try.prog 140 [.r (.c (.own (0, 0, 0))), tI .i64 k] [((0, 0, 0), .arr false 3 (xs.map TSymbol.tr))] (tI .i64 (k + (cnRs (xs.map TSymbol.tr) : Nat))) [((0, 0, 0), .arr false 3 (mkRs (xs.map TSymbol.tr) k))] := by
  refine specG_of_W hΓ hmix Try.func140 rfl (by decide) rfl rfl ?_
  repeat' ((conv => whnf); first | refine Or.inl ?_ | refine And.intro (Obl.out (?_ : Obl _)) ?_ | refine ifB_intro (fun h => ?_) (fun h => ?_) | refine Exists.intro _ (And.intro rfl ?_) | ((with_reducible show _ = _); rfl))
  all_goals try ((with_reducible refine Obl.mk ?_); first | ((with_reducible show regOk _ _ = true); kernel_rfl) | ((with_reducible show eqTyOk _ _ = true); kernel_rfl) | rfl | exact trivial | ((repeat' (first | exact trivial | refine And.intro ?_ ?_)); done) | decide | ((repeat' (first | exact List.forall_mem_nil _ | refine List.forall_mem_cons.2 (And.intro rfl ?_))); done) | (refine And.intro ?_ ?_ <;> simp only [List.length_map, List.length_append, List.length_cons, List.length_nil] <;> omega))
  conv => whnf
  refine ⟨{ q : List (TSymbol) × List (TSymbol) // q.1 ++ q.2 = xs }, fun q => ⟨[(0, .r (.c (.own (0, 0, 0)))), (1, tI .i64 (k + (cnRs (q.1.1.map TSymbol.tr) : Nat))), (5, tI .i64 (q.1.1.length : Nat))], [((0, 0, 0), some (.arr false 3 (mkRs (q.1.1.map TSymbol.tr) k ++ q.1.2.map TSymbol.tr)))], [0]⟩, fun q => q.1.2.length, ⟨([], xs), rfl⟩, ?_, ?_⟩
  · skip
    repeat' ((conv => whnf); first | refine Or.inl ?_ | refine And.intro (Obl.out (?_ : Obl _)) ?_ | refine ifB_intro (fun h => ?_) (fun h => ?_) | refine Exists.intro _ (And.intro rfl ?_) | ((with_reducible show _ = _); rfl))
    all_goals try ((with_reducible refine Obl.mk ?_); first | ((with_reducible show regOk _ _ = true); kernel_rfl) | ((with_reducible show eqTyOk _ _ = true); kernel_rfl) | rfl | exact trivial | ((repeat' (first | exact trivial | refine And.intro ?_ ?_)); done) | decide | ((repeat' (first | exact List.forall_mem_nil _ | refine List.forall_mem_cons.2 (And.intro rfl ?_))); done) | (refine And.intro ?_ ?_ <;> simp only [List.length_map, List.length_append, List.length_cons, List.length_nil] <;> omega))
    all_goals exact ⟨by first | rfl | simp [cnRs, mkRs]⟩
  intro ⟨⟨a, b⟩, hab⟩
  dsimp only at hab ⊢
  have hal : a.length + b.length ≤ 1099511627776 := by rw [← List.length_append, hab]; exact hl
  have hsum : k + (cnRs (a.map TSymbol.tr) : Nat) + (cnRs (b.map TSymbol.tr) : Nat) = k + (cnRs (xs.map TSymbol.tr) : Nat) := by rw [← hab, List.map_append, cnRs_append]; omega
  have hall : mkRs (xs.map TSymbol.tr) k = mkRs (a.map TSymbol.tr) k ++ mkRs (b.map TSymbol.tr) (k + (cnRs (a.map TSymbol.tr) : Nat)) := by rw [← hab, List.map_append, mkRs_append]
  have hDl : (mkRs (a.map TSymbol.tr) k).length = a.length := by rw [mkRs_length, List.length_map]
  generalize hR : mkRs (a.map TSymbol.tr) k ++ b.map TSymbol.tr = R
  have hRl : R.length = a.length + b.length := by rw [← hR]; simp [hDl]
  generalize hK : k + (cnRs (a.map TSymbol.tr) : Nat) = K at hsum hall ⊢
  generalize hD : mkRs (a.map TSymbol.tr) k = D at hR hall hDl
  generalize hT : mkRs (xs.map TSymbol.tr) k = T at hall ⊢
  generalize hC : k + (cnRs (xs.map TSymbol.tr) : Nat) = C at hk hsum ⊢
  have hK0 : 0 ≤ K := by omega
  rcases hb : b with _ | ⟨x, b2⟩
  all_goals rw [hb] at hR hall hsum hRl hal
  · have hKC : K = C := by simpa [cnRs] using hsum
    have hRT : R = T := by rw [hall, ← hR]; simp [mkRs]
    repeat' ((conv => whnf); first | refine Or.inl ?_ | refine And.intro (Obl.out (?_ : Obl _)) ?_ | refine ifB_intro (fun h => ?_) (fun h => ?_) | refine Exists.intro _ (And.intro rfl ?_) | ((with_reducible show _ = _); rfl))
    all_goals try ((with_reducible refine Obl.mk ?_); first | ((with_reducible show regOk _ _ = true); kernel_rfl) | ((with_reducible show eqTyOk _ _ = true); kernel_rfl) | rfl | exact trivial | ((repeat' (first | exact trivial | refine And.intro ?_ ?_)); done) | decide | ((repeat' (first | exact List.forall_mem_nil _ | refine List.forall_mem_cons.2 (And.intro rfl ?_))); done) | (refine And.intro ?_ ?_ <;> simp only [List.length_map, List.length_append, List.length_cons, List.length_nil] <;> omega))
    all_goals try (exfalso; have h' := of_decide_eq_true h; rw [hRl] at h'; simp at h'; done)
    all_goals first | exact ⟨by rw [hKC]⟩ | exact ⟨hRT⟩
  · have hal2 : a.length + (b2.length + 1) ≤ 1099511627776 := hal
    have hcx : cnR (TSymbol.tr x) = 3 := by simp only [TSymbol.tr, cnR, cnT]
    have hsm : K + ((3 : Nat) : Int) + (cnRs (b2.map TSymbol.tr) : Nat) = C := by rw [← hsum, List.map_cons, cnRs, hcx]; omega
    have hRl2 : R.length = a.length + (b2.length + 1) := hRl
    have hget : R[a.length]? = some (TSymbol.tr x) := by rw [← hR]; exact mid_get hDl
    repeat' ((conv => whnf); first | refine Or.inl ?_ | refine And.intro (Obl.out (?_ : Obl _)) ?_ | refine ifB_intro (fun h => ?_) (fun h => ?_) | refine ⟨_, hget, ?_⟩ | refine ⟨_, set_get (by (try simp only [List.length_set]); omega), ?_⟩ | refine call_intro ((s_laws_markText _ (by (try simp (disch := omega) only [IntWalk.i64_in]); omega))) (And.intro rfl trivial) ?_ | refine Exists.intro _ (And.intro rfl ?_) | ((with_reducible show _ = _); rfl))
    all_goals try ((with_reducible refine Obl.mk ?_); first | ((with_reducible show regOk _ _ = true); kernel_rfl) | ((with_reducible show eqTyOk _ _ = true); kernel_rfl) | rfl | exact trivial | ((repeat' (first | exact trivial | refine And.intro ?_ ?_)); done) | decide | ((repeat' (first | exact List.forall_mem_nil _ | refine List.forall_mem_cons.2 (And.intro rfl ?_))); done) | (refine And.intro ?_ ?_ <;> simp only [List.length_map, List.length_append, List.length_cons, List.length_nil] <;> omega))
    all_goals try (exfalso; have h' := of_decide_eq_false h; omega; done)
    all_goals try exact ⟨by (try simp only [List.length_set]); omega⟩
    conv => whnf
    refine ⟨⟨(a ++ [x], b2), by rw [← hab, hb]; simp⟩, ?_, Nat.lt_succ_self _⟩
    repeat' ((conv => whnf); first | refine Or.inl ?_ | refine And.intro (Obl.out (?_ : Obl _)) ?_ | refine ifB_intro (fun h => ?_) (fun h => ?_) | refine Exists.intro _ (And.intro rfl ?_) | ((with_reducible show _ = _); rfl))
    all_goals try ((with_reducible refine Obl.mk ?_); first | ((with_reducible show regOk _ _ = true); kernel_rfl) | ((with_reducible show eqTyOk _ _ = true); kernel_rfl) | rfl | exact trivial | ((repeat' (first | exact trivial | refine And.intro ?_ ?_)); done) | decide | ((repeat' (first | exact List.forall_mem_nil _ | refine List.forall_mem_cons.2 (And.intro rfl ?_))); done) | (refine And.intro ?_ ?_ <;> simp only [List.length_map, List.length_append, List.length_cons, List.length_nil] <;> omega))
    · refine ⟨congrArg (Tr.int _) ?_⟩
      dsimp only
      rw [cnRs_snoc, hcx]
      try simp (disch := omega) only [IntWalk.i64_in]
      try omega
    · refine ⟨congrArg (Tr.int _) ?_⟩
      dsimp only
      rw [List.length_append]
      try simp (disch := omega) only [IntWalk.i64_in]
      try rfl
    · refine ⟨?_⟩
      dsimp only
      rw [mkRs_snoc, snoc_cons, hD, hK, ← hR]
      try simp (disch := omega) only [set_set, mid_set hDl, List.map_cons, IntWalk.i64_in]
      try rfl
theorem cn_SymbolS (xs : List (TSymbol)) (hs : smallT 1048576 (.lst 3 (xs.map TSymbol.tr))) : cnRs (xs.map TSymbol.tr) ≤ 1048576 * 3 := by
  have h1 := small_nat hs
  refine Nat.le_trans (cnRs_map_le (g := TSymbol.tr) (M := 3) fun x hx => ?_) (Nat.mul_le_mul_right _ h1)
  have hcx : cnR (TSymbol.tr x) = 3 := by simp only [TSymbol.tr, cnR, cnT]
  rw [hcx]
  omega
theorem g_laws_markImageS (xs : List (TImage)) (k : Int) (hk0 : 0 ≤ k) (hl : xs.length ≤ 1099511627776) (hk : k + (cnRs (xs.map TImage.tr) : Nat) ≤ 4611686018427387904) (hin : ∀ x ∈ xs, x.fSymbols.length ≤ 1099511627776) : SpecG Try.prog 80 [.r (.c (.own (0, 0, 0))), tI .i64 k] [((0, 0, 0), .dar 2 (deepRows (xs.map TImage.tr)) none)] (tI .i64 (k + (cnRs (xs.map TImage.tr) : Nat))) [((0, 0, 0), .dar 2 (deepRows (mkRs (xs.map TImage.tr) k)) none)] := by
  refine specG_of_W hΓ hmix Try.func80 rfl (by decide) rfl rfl ?_
  repeat' ((conv => whnf); first | refine Or.inl ?_ | refine And.intro (Obl.out (?_ : Obl _)) ?_ | refine ifB_intro (fun h => ?_) (fun h => ?_) | refine Exists.intro _ (And.intro rfl ?_) | ((with_reducible show _ = _); rfl))
  all_goals try ((with_reducible refine Obl.mk ?_); first | ((with_reducible show regOk _ _ = true); kernel_rfl) | ((with_reducible show eqTyOk _ _ = true); kernel_rfl) | rfl | exact trivial | ((repeat' (first | exact trivial | refine And.intro ?_ ?_)); done) | decide | ((repeat' (first | exact List.forall_mem_nil _ | refine List.forall_mem_cons.2 (And.intro rfl ?_))); done) | (refine And.intro ?_ ?_ <;> simp only [List.length_map, List.length_append, List.length_cons, List.length_nil] <;> omega))
  conv => whnf
  refine ⟨{ q : List (TImage) × List (TImage) // q.1 ++ q.2 = xs }, fun q => ⟨[(0, .r (.c (.own (0, 0, 0)))), (1, tI .i64 (k + (cnRs (q.1.1.map TImage.tr) : Nat))), (5, tI .i64 (q.1.1.length : Nat))], [((0, 0, 0), some (.dar 2 (deepRows (mkRs (q.1.1.map TImage.tr) k ++ q.1.2.map TImage.tr)) none))], [0]⟩, fun q => q.1.2.length, ⟨([], xs), rfl⟩, ?_, ?_⟩
  · skip
    repeat' ((conv => whnf); first | refine Or.inl ?_ | refine And.intro (Obl.out (?_ : Obl _)) ?_ | refine ifB_intro (fun h => ?_) (fun h => ?_) | refine Exists.intro _ (And.intro rfl ?_) | ((with_reducible show _ = _); rfl))
    all_goals try ((with_reducible refine Obl.mk ?_); first | ((with_reducible show regOk _ _ = true); kernel_rfl) | ((with_reducible show eqTyOk _ _ = true); kernel_rfl) | rfl | exact trivial | ((repeat' (first | exact trivial | refine And.intro ?_ ?_)); done) | decide | ((repeat' (first | exact List.forall_mem_nil _ | refine List.forall_mem_cons.2 (And.intro rfl ?_))); done) | (refine And.intro ?_ ?_ <;> simp only [List.length_map, List.length_append, List.length_cons, List.length_nil] <;> omega))
    all_goals exact ⟨by first | rfl | simp [cnRs, mkRs]⟩
  intro ⟨⟨a, b⟩, hab⟩
  dsimp only at hab ⊢
  have hal : a.length + b.length ≤ 1099511627776 := by rw [← List.length_append, hab]; exact hl
  have hsum : k + (cnRs (a.map TImage.tr) : Nat) + (cnRs (b.map TImage.tr) : Nat) = k + (cnRs (xs.map TImage.tr) : Nat) := by rw [← hab, List.map_append, cnRs_append]; omega
  have hall : mkRs (xs.map TImage.tr) k = mkRs (a.map TImage.tr) k ++ mkRs (b.map TImage.tr) (k + (cnRs (a.map TImage.tr) : Nat)) := by rw [← hab, List.map_append, mkRs_append]
  have hDl : (mkRs (a.map TImage.tr) k).length = a.length := by rw [mkRs_length, List.length_map]
  generalize hR : deepRows (mkRs (a.map TImage.tr) k ++ b.map TImage.tr) = R
  have hRl : R.length = a.length + b.length := by rw [← hR]; simp [hDl, deepRows_length]
  generalize hK : k + (cnRs (a.map TImage.tr) : Nat) = K at hsum hall ⊢
  generalize hD : mkRs (a.map TImage.tr) k = D at hR hall hDl
  generalize hT : mkRs (xs.map TImage.tr) k = T at hall ⊢
  generalize hC : k + (cnRs (xs.map TImage.tr) : Nat) = C at hk hsum ⊢
  have hK0 : 0 ≤ K := by omega
  rcases hb : b with _ | ⟨x, b2⟩
  all_goals rw [hb] at hR hall hsum hRl hal
  · have hKC : K = C := by simpa [cnRs] using hsum
    have hRT : R = deepRows (T) := by rw [hall, ← hR]; simp [mkRs]
    repeat' ((conv => whnf); first | refine Or.inl ?_ | refine And.intro (Obl.out (?_ : Obl _)) ?_ | refine ifB_intro (fun h => ?_) (fun h => ?_) | refine Exists.intro _ (And.intro rfl ?_) | ((with_reducible show _ = _); rfl))
    all_goals try ((with_reducible refine Obl.mk ?_); first | ((with_reducible show regOk _ _ = true); kernel_rfl) | ((with_reducible show eqTyOk _ _ = true); kernel_rfl) | rfl | exact trivial | ((repeat' (first | exact trivial | refine And.intro ?_ ?_)); done) | decide | ((repeat' (first | exact List.forall_mem_nil _ | refine List.forall_mem_cons.2 (And.intro rfl ?_))); done) | (refine And.intro ?_ ?_ <;> simp only [List.length_map, List.length_append, List.length_cons, List.length_nil] <;> omega))
    all_goals try (exfalso; have h' := of_decide_eq_true h; rw [hRl] at h'; simp at h'; done)
    all_goals first | exact ⟨by rw [hKC]⟩ | exact ⟨hRT⟩
  · have hal2 : a.length + (b2.length + 1) ≤ 1099511627776 := hal
    have hcx : cnR (TImage.tr x) = 1 + cnRs (x.fSymbols.map TSymbol.tr) := by simp only [TImage.tr, cnR, cnT] <;> omega
    have hsm : K + ((1 + cnRs (x.fSymbols.map TSymbol.tr) : Nat) : Int) + (cnRs (b2.map TImage.tr) : Nat) = C := by rw [← hsum, List.map_cons, cnRs, hcx]; omega
    have hRl2 : R.length = a.length + (b2.length + 1) := hRl
    have hix := hin x (by rw [← hab, hb]; simp)
    have hget : R[a.length]? = some (((TImage.tr x).map .d)) := by rw [← hR, List.map_cons, deepRows_append, deepRows_cons]; exact mid_get (by rw [deepRows_length]; exact hDl)
    repeat' ((conv => whnf); first | refine callG_intro (g_laws_markSymbolS x.fSymbols (K + 1) (by omega) hix (by omega)) ?_ | refine Or.inl ?_ | refine And.intro (Obl.out (?_ : Obl _)) ?_ | refine ifB_intro (fun h => ?_) (fun h => ?_) | refine ⟨_, hget, ?_⟩ | refine ⟨_, set_get (by (try simp only [List.length_set]); omega), ?_⟩ | refine call_intro ((s_laws_markText _ (by (try simp (disch := omega) only [IntWalk.i64_in]); omega))) (And.intro rfl trivial) ?_ | refine Exists.intro _ (And.intro rfl ?_) | ((with_reducible show _ = _); rfl))
    all_goals try ((with_reducible refine Obl.mk ?_); first | ((with_reducible show regOk _ _ = true); kernel_rfl) | ((with_reducible show eqTyOk _ _ = true); kernel_rfl) | rfl | exact trivial | ((repeat' (first | exact trivial | refine And.intro ?_ ?_)); done) | decide | ((repeat' (first | exact List.forall_mem_nil _ | refine List.forall_mem_cons.2 (And.intro rfl ?_))); done) | (refine And.intro ?_ ?_ <;> simp only [List.length_map, List.length_append, List.length_cons, List.length_nil] <;> omega))
    all_goals try (exfalso; have h' := of_decide_eq_false h; omega; done)
    all_goals try exact ⟨by (try simp only [List.length_set]); omega⟩
    all_goals try exact ⟨flat_map _ (by intro x c hc sz rs e; subst e; simp [TSymbol.tr] at hc)⟩
    all_goals try exact ⟨flat_mk _ _ (flat_map _ (by intro x c hc sz rs e; subst e; simp [TSymbol.tr] at hc))⟩
    all_goals try exact ⟨congrArg (Tr.int _) (by (try simp (disch := omega) only [IntWalk.i64_in]))⟩
    conv => whnf
    refine ⟨⟨(a ++ [x], b2), by rw [← hab, hb]; simp⟩, ?_, Nat.lt_succ_self _⟩
    repeat' ((conv => whnf); first | refine Or.inl ?_ | refine And.intro (Obl.out (?_ : Obl _)) ?_ | refine ifB_intro (fun h => ?_) (fun h => ?_) | refine ⟨_, hget, ?_⟩ | refine ⟨_, set_get (by (try simp only [List.length_set]); omega), ?_⟩ | refine Exists.intro _ (And.intro rfl ?_) | ((with_reducible show _ = _); rfl))
    all_goals try ((with_reducible refine Obl.mk ?_); first | ((with_reducible show regOk _ _ = true); kernel_rfl) | ((with_reducible show eqTyOk _ _ = true); kernel_rfl) | rfl | exact trivial | ((repeat' (first | exact trivial | refine And.intro ?_ ?_)); done) | decide | ((repeat' (first | exact List.forall_mem_nil _ | refine List.forall_mem_cons.2 (And.intro rfl ?_))); done) | (refine And.intro ?_ ?_ <;> simp only [List.length_map, List.length_append, List.length_cons, List.length_nil] <;> omega))
    all_goals try exact ⟨flat_mk _ _ (flat_map _ (by intro x c hc sz rs e; subst e; simp [TSymbol.tr] at hc))⟩
    · refine ⟨congrArg (Tr.int _) ?_⟩
      dsimp only
      rw [cnRs_snoc, hcx]
      try simp (disch := omega) only [IntWalk.i64_in]
      try omega
    · refine ⟨congrArg (Tr.int _) ?_⟩
      dsimp only
      rw [List.length_append]
      try simp (disch := omega) only [IntWalk.i64_in]
      try rfl
    · refine ⟨?_⟩
      dsimp only
      have hDd : (deepRows D).length = a.length := by rw [deepRows_length]; exact hDl
      rw [mkRs_snoc, snoc_cons, hD, hK, ← hR]
      try simp (disch := omega) only [set_set, deepRows_append, deepRows_cons, mid_set hDd, List.map_cons, IntWalk.i64_in]
      try rfl
theorem cn_ImageS (xs : List (TImage)) (hs : smallT 1048576 (.lst 2 (xs.map TImage.tr))) : cnRs (xs.map TImage.tr) ≤ 1048576 * 3145729 := by
  have h1 := small_nat hs
  refine Nat.le_trans (cnRs_map_le (g := TImage.tr) (M := 3145729) fun x hx => ?_) (Nat.mul_le_mul_right _ h1)
  have hcx : cnR (TImage.tr x) = 1 + cnRs (x.fSymbols.map TSymbol.tr) := by simp only [TImage.tr, cnR, cnT] <;> omega
  rw [hcx]
  have hr := smallRs_map hs hx
  simp only [TImage.tr, smallR] at hr
  have c1 := cn_SymbolS _ (hr.2.1)
  omega
theorem hin_ImageS (xs : List (TImage)) (hs : smallT 1048576 (.lst 2 (xs.map TImage.tr))) : ∀ x ∈ xs, x.fSymbols.length ≤ 1099511627776 := by
  intro x hx
  have hr := smallRs_map hs hx
  simp only [TImage.tr, smallR] at hr
  exact Nat.le_trans (small_nat (hr.2.1)) (by omega)
theorem g_laws_toImageS (xs : List (TImage)) (hs : smallT 1048576 (.lst 2 (xs.map TImage.tr))) : SpecG Try.prog 71 [.r (.c (.t (.lst 2 (xs.map TImage.tr))))] [] (.r (.c (.own (1, 0, 0)))) [((1, 0, 0), .dar 2 (deepRows (xs.map TImage.tr)) none)] := by
  have hl := small_len hs
  have hlen : (xs.map TImage.tr).length = xs.length := by simp
  refine specG_of_W hΓ hmix Try.func71 rfl (by decide) rfl rfl ?_
  repeat' ((conv => whnf); first | refine Or.inl ?_ | refine And.intro (Obl.out (?_ : Obl _)) ?_ | refine ifB_intro (fun h => ?_) (fun h => ?_) | refine Exists.intro _ (And.intro rfl ?_) | ((with_reducible show _ = _); rfl))
  all_goals try ((with_reducible refine Obl.mk ?_); first | ((with_reducible show regOk _ _ = true); kernel_rfl) | ((with_reducible show eqTyOk _ _ = true); kernel_rfl) | rfl | exact trivial | ((repeat' (first | exact trivial | refine And.intro ?_ ?_)); done) | decide | ((repeat' (first | exact List.forall_mem_nil _ | refine List.forall_mem_cons.2 (And.intro rfl ?_))); done) | (refine And.intro ?_ ?_ <;> simp only [List.length_map, List.length_append, List.length_cons, List.length_nil] <;> omega))
  · exact ⟨by omega⟩
  · exact ⟨by dsimp only; omega⟩
  repeat' ((conv => whnf); first | refine Or.inl ?_ | refine And.intro (Obl.out (?_ : Obl _)) ?_ | refine ifB_intro (fun h => ?_) (fun h => ?_) | refine Exists.intro _ (And.intro rfl ?_) | ((with_reducible show _ = _); rfl))
  all_goals try ((with_reducible refine Obl.mk ?_); first | ((with_reducible show regOk _ _ = true); kernel_rfl) | ((with_reducible show eqTyOk _ _ = true); kernel_rfl) | rfl | exact trivial | ((repeat' (first | exact trivial | refine And.intro ?_ ?_)); done) | decide | ((repeat' (first | exact List.forall_mem_nil _ | refine List.forall_mem_cons.2 (And.intro rfl ?_))); done) | (refine And.intro ?_ ?_ <;> simp only [List.length_map, List.length_append, List.length_cons, List.length_nil] <;> omega))
  conv => whnf
  refine ⟨{ k : Nat // k ≤ xs.length }, fun k => ⟨[(0, .r (.c (.t (.lst 2 (xs.map TImage.tr))))), (3, .r (.c (.own (3, 0, 0)))), (4, tI .i64 (k.1 : Int))], [((3, 0, 0), some (.dar 2 (deepRows (filled (xs.map TImage.tr) [.str [], .lst 0 []] k.1)) none))], [3, 0]⟩, fun k => xs.length - k.1, ⟨0, by omega⟩, ?_, ?_⟩
  · skip
    repeat' ((conv => whnf); first | refine Or.inl ?_ | refine And.intro (Obl.out (?_ : Obl _)) ?_ | refine ifB_intro (fun h => ?_) (fun h => ?_) | refine Exists.intro _ (And.intro rfl ?_) | ((with_reducible show _ = _); rfl))
    all_goals try ((with_reducible refine Obl.mk ?_); first | ((with_reducible show regOk _ _ = true); kernel_rfl) | ((with_reducible show eqTyOk _ _ = true); kernel_rfl) | rfl | exact trivial | ((repeat' (first | exact trivial | refine And.intro ?_ ?_)); done) | decide | ((repeat' (first | exact List.forall_mem_nil _ | refine List.forall_mem_cons.2 (And.intro rfl ?_))); done) | (refine And.intro ?_ ?_ <;> simp only [List.length_map, List.length_append, List.length_cons, List.length_nil] <;> omega))
    all_goals exact ⟨by first | (rw [← filled_zero, hlen, deepRows, List.map_replicate]; done) | (rw [← filled_zero, hlen, deepRows, List.map_replicate]; rfl)⟩
  intro ⟨k, hk⟩
  dsimp only
  repeat' ((conv => whnf); first | refine Or.inl ?_ | refine And.intro (Obl.out (?_ : Obl _)) ?_ | refine ifB_intro (fun h => ?_) (fun h => ?_) | refine Exists.intro _ (And.intro rfl ?_) | ((with_reducible show _ = _); rfl))
  all_goals try ((with_reducible refine Obl.mk ?_); first | ((with_reducible show regOk _ _ = true); kernel_rfl) | ((with_reducible show eqTyOk _ _ = true); kernel_rfl) | rfl | exact trivial | ((repeat' (first | exact trivial | refine And.intro ?_ ?_)); done) | decide | ((repeat' (first | exact List.forall_mem_nil _ | refine List.forall_mem_cons.2 (And.intro rfl ?_))); done) | (refine And.intro ?_ ?_ <;> simp only [List.length_map, List.length_append, List.length_cons, List.length_nil] <;> omega))
  · have hlt : k < xs.length := by have := of_decide_eq_true h; omega
    obtain ⟨x, hx⟩ := get_of_lt hlt
    have hsr := smallRs_map hs (List.mem_of_getElem? hx)
    conv => whnf
    refine ⟨k, _, rfl, map_get hx, ?_⟩
    repeat' ((conv => whnf); first | refine Or.inl ?_ | refine And.intro (Obl.out (?_ : Obl _)) ?_ | refine ifB_intro (fun h => ?_) (fun h => ?_) | refine call_intro ((s_laws_toImage x hsr)) (And.intro (And.intro rfl (And.intro rfl trivial)) trivial) ?_ | refine Exists.intro _ (And.intro rfl ?_) | ((with_reducible show _ = _); rfl))
    all_goals try ((with_reducible refine Obl.mk ?_); first | ((with_reducible show regOk _ _ = true); kernel_rfl) | ((with_reducible show eqTyOk _ _ = true); kernel_rfl) | rfl | exact trivial | ((repeat' (first | exact trivial | refine And.intro ?_ ?_)); done) | decide | ((repeat' (first | exact List.forall_mem_nil _ | refine List.forall_mem_cons.2 (And.intro rfl ?_))); done) | (refine And.intro ?_ ?_ <;> simp only [List.length_map, List.length_append, List.length_cons, List.length_nil] <;> omega))
    · exact ⟨by rw [deepRows_length, filled_len (by omega)]; omega⟩
    conv => whnf
    refine ⟨_, deepRows_get (filled_get (by omega)), ?_⟩
    repeat' ((conv => whnf); first | refine Or.inl ?_ | refine And.intro (Obl.out (?_ : Obl _)) ?_ | refine ifB_intro (fun h => ?_) (fun h => ?_) | refine Exists.intro _ (And.intro rfl ?_) | ((with_reducible show _ = _); rfl))
    all_goals try ((with_reducible refine Obl.mk ?_); first | ((with_reducible show regOk _ _ = true); kernel_rfl) | ((with_reducible show eqTyOk _ _ = true); kernel_rfl) | rfl | exact trivial | ((repeat' (first | exact trivial | refine And.intro ?_ ?_)); done) | decide | ((repeat' (first | exact List.forall_mem_nil _ | refine List.forall_mem_cons.2 (And.intro rfl ?_))); done) | (refine And.intro ?_ ?_ <;> simp only [List.length_map, List.length_append, List.length_cons, List.length_nil] <;> omega))
    all_goals try exact ⟨flat_map _ (by intro x c hc sz rs e; subst e; simp [TSymbol.tr] at hc)⟩
    conv => whnf
    refine ⟨⟨k + 1, by omega⟩, ?_, by dsimp only; omega⟩
    repeat' ((conv => whnf); first | refine Or.inl ?_ | refine And.intro (Obl.out (?_ : Obl _)) ?_ | refine ifB_intro (fun h => ?_) (fun h => ?_) | refine Exists.intro _ (And.intro rfl ?_) | ((with_reducible show _ = _); rfl))
    all_goals try ((with_reducible refine Obl.mk ?_); first | ((with_reducible show regOk _ _ = true); kernel_rfl) | ((with_reducible show eqTyOk _ _ = true); kernel_rfl) | rfl | exact trivial | ((repeat' (first | exact trivial | refine And.intro ?_ ?_)); done) | decide | ((repeat' (first | exact List.forall_mem_nil _ | refine List.forall_mem_cons.2 (And.intro rfl ?_))); done) | (refine And.intro ?_ ?_ <;> simp only [List.length_map, List.length_append, List.length_cons, List.length_nil] <;> omega))
    · exact ⟨by dsimp only; rw [IntWalk.i64_in _ (by omega)]; rfl⟩
    · exact ⟨(deepRows_set _ _ (TImage.tr x)).trans (congrArg deepRows (filled_set (map_get hx)))⟩
  · have hge : xs.length ≤ k := by have := of_decide_eq_false h; omega
    exact ⟨congrArg deepRows (filled_all (by omega))⟩
theorem g_laws_markSpace (x : TSpace) (k : Int) (hk0 : 0 ≤ k) (hl0 : x.fImages.length ≤ 1099511627776) (hin0 : ∀ y ∈ x.fImages, y.fSymbols.length ≤ 1099511627776) (hl1 : x.fBases.length ≤ 1099511627776) (hl2 : x.fEntries.length ≤ 1099511627776) (hk : k + (cnRs (x.fImages.map TImage.tr) : Nat) + (cnRs (x.fBases.map intRow) : Nat) + (cnRs (x.fEntries.map intRow) : Nat) ≤ 4611686018427387904) : SpecG Try.prog 19 [.r (.agg [.own (0, 0, 0), .own (0, 0, 1), .own (0, 0, 2)]), tI .i64 k] [((0, 0, 0), .dar 2 (deepRows (x.fImages.map TImage.tr)) none), ((0, 0, 1), .arr false 1 (x.fBases.map intRow)), ((0, 0, 2), .arr false 1 (x.fEntries.map intRow))] (tI .i64 (k + (cnRs (x.fImages.map TImage.tr) : Nat) + (cnRs (x.fBases.map intRow) : Nat) + (cnRs (x.fEntries.map intRow) : Nat))) [((0, 0, 0), .dar 2 (deepRows (mkRs (x.fImages.map TImage.tr) (k))) none), ((0, 0, 1), .arr false 1 (mkRs (x.fBases.map intRow) (k + (cnRs (x.fImages.map TImage.tr) : Nat)))), ((0, 0, 2), .arr false 1 (mkRs (x.fEntries.map intRow) (k + (cnRs (x.fImages.map TImage.tr) : Nat) + (cnRs (x.fBases.map intRow) : Nat))))] := by
  refine specG_of_W hΓ hmix Try.func19 rfl (by decide) rfl rfl ?_
  repeat' ((conv => whnf); first | refine seq_inl ?_ | refine reg_inl ?_ | refine And.intro (Obl.out (?_ : Obl _)) ?_ | refine ifB_intro (fun h => ?_) (fun h => ?_) | refine Exists.intro _ (And.intro rfl ?_) | ((with_reducible show _ = _); rfl))
  all_goals try ((with_reducible refine Obl.mk ?_); first | ((with_reducible show regOk _ _ = true); kernel_rfl) | ((with_reducible show eqTyOk _ _ = true); kernel_rfl) | rfl | exact trivial | ((repeat' (first | exact trivial | refine And.intro ?_ ?_)); done) | decide | ((repeat' (first | exact List.forall_mem_nil _ | refine List.forall_mem_cons.2 (And.intro rfl ?_))); done) | (refine And.intro ?_ ?_ <;> simp only [List.length_map, List.length_append, List.length_cons, List.length_nil] <;> omega))
  refine callG_intro (g_laws_markImageS x.fImages (k) (by omega) hl0 (by omega) hin0) ?_
  repeat' ((conv => whnf); first | refine seq_inl ?_ | refine reg_inl ?_ | refine And.intro (Obl.out (?_ : Obl _)) ?_ | refine ifB_intro (fun h => ?_) (fun h => ?_) | refine Exists.intro _ (And.intro rfl ?_) | ((with_reducible show _ = _); rfl))
  all_goals try ((with_reducible refine Obl.mk ?_); first | ((with_reducible show regOk _ _ = true); kernel_rfl) | ((with_reducible show eqTyOk _ _ = true); kernel_rfl) | rfl | exact trivial | ((repeat' (first | exact trivial | refine And.intro ?_ ?_)); done) | decide | ((repeat' (first | exact List.forall_mem_nil _ | refine List.forall_mem_cons.2 (And.intro rfl ?_))); done) | (refine And.intro ?_ ?_ <;> simp only [List.length_map, List.length_append, List.length_cons, List.length_nil] <;> omega))
  refine callG_intro (g_laws_markIntS x.fBases (k + (cnRs (x.fImages.map TImage.tr) : Nat)) (by omega) hl1 (by omega)) ?_
  repeat' ((conv => whnf); first | refine seq_inl ?_ | refine reg_inl ?_ | refine And.intro (Obl.out (?_ : Obl _)) ?_ | refine ifB_intro (fun h => ?_) (fun h => ?_) | refine Exists.intro _ (And.intro rfl ?_) | ((with_reducible show _ = _); rfl))
  all_goals try ((with_reducible refine Obl.mk ?_); first | ((with_reducible show regOk _ _ = true); kernel_rfl) | ((with_reducible show eqTyOk _ _ = true); kernel_rfl) | rfl | exact trivial | ((repeat' (first | exact trivial | refine And.intro ?_ ?_)); done) | decide | ((repeat' (first | exact List.forall_mem_nil _ | refine List.forall_mem_cons.2 (And.intro rfl ?_))); done) | (refine And.intro ?_ ?_ <;> simp only [List.length_map, List.length_append, List.length_cons, List.length_nil] <;> omega))
  refine callG_intro (g_laws_markIntS x.fEntries (k + (cnRs (x.fImages.map TImage.tr) : Nat) + (cnRs (x.fBases.map intRow) : Nat)) (by omega) hl2 (by omega)) ?_
  repeat' ((conv => whnf); first | refine seq_inl ?_ | refine reg_inl ?_ | refine And.intro (Obl.out (?_ : Obl _)) ?_ | refine ifB_intro (fun h => ?_) (fun h => ?_) | refine Exists.intro _ (And.intro rfl ?_) | ((with_reducible show _ = _); rfl))
  all_goals try ((with_reducible refine Obl.mk ?_); first | ((with_reducible show regOk _ _ = true); kernel_rfl) | ((with_reducible show eqTyOk _ _ = true); kernel_rfl) | rfl | exact trivial | ((repeat' (first | exact trivial | refine And.intro ?_ ?_)); done) | decide | ((repeat' (first | exact List.forall_mem_nil _ | refine List.forall_mem_cons.2 (And.intro rfl ?_))); done) | (refine And.intro ?_ ?_ <;> simp only [List.length_map, List.length_append, List.length_cons, List.length_nil] <;> omega))
theorem g_laws_toSpace (x : TSpace) (hs : smallR 1048576 x.tr) : SpecG Try.prog 14 [.r (.agg (x.tr.map .t))] [] (.r (.agg [.own (1, 0, 0), .own (1, 0, 1), .own (1, 0, 2)])) [((1, 0, 0), .dar 2 (deepRows (x.fImages.map TImage.tr)) none), ((1, 0, 1), .arr false 1 (x.fBases.map intRow)), ((1, 0, 2), .arr false 1 (x.fEntries.map intRow))] := by
  simp only [TSpace.tr, smallR] at hs
  refine specG_of_W hΓ hmix Try.func14 rfl (by decide) rfl rfl ?_
  repeat' ((conv => whnf); first | refine seq_inl ?_ | refine reg_inl ?_ | refine And.intro (Obl.out (?_ : Obl _)) ?_ | refine ifB_intro (fun h => ?_) (fun h => ?_) | refine Exists.intro _ (And.intro rfl ?_) | ((with_reducible show _ = _); rfl))
  all_goals try ((with_reducible refine Obl.mk ?_); first | ((with_reducible show regOk _ _ = true); kernel_rfl) | ((with_reducible show eqTyOk _ _ = true); kernel_rfl) | rfl | exact trivial | ((repeat' (first | exact trivial | refine And.intro ?_ ?_)); done) | decide | ((repeat' (first | exact List.forall_mem_nil _ | refine List.forall_mem_cons.2 (And.intro rfl ?_))); done) | (refine And.intro ?_ ?_ <;> simp only [List.length_map, List.length_append, List.length_cons, List.length_nil] <;> omega))
  refine callG_intro (g_laws_toImageS x.fImages hs.1) ?_
  repeat' ((conv => whnf); first | refine seq_inl ?_ | refine reg_inl ?_ | refine And.intro (Obl.out (?_ : Obl _)) ?_ | refine ifB_intro (fun h => ?_) (fun h => ?_) | refine Exists.intro _ (And.intro rfl ?_) | ((with_reducible show _ = _); rfl))
  all_goals try ((with_reducible refine Obl.mk ?_); first | ((with_reducible show regOk _ _ = true); kernel_rfl) | ((with_reducible show eqTyOk _ _ = true); kernel_rfl) | rfl | exact trivial | ((repeat' (first | exact trivial | refine And.intro ?_ ?_)); done) | decide | ((repeat' (first | exact List.forall_mem_nil _ | refine List.forall_mem_cons.2 (And.intro rfl ?_))); done) | (refine And.intro ?_ ?_ <;> simp only [List.length_map, List.length_append, List.length_cons, List.length_nil] <;> omega))
  refine Or.inl (call_intro (s_laws_toIntS x.fBases (small_nat hs.2.1)) (And.intro rfl trivial) ?_)
  repeat' ((conv => whnf); first | refine seq_inl ?_ | refine reg_inl ?_ | refine And.intro (Obl.out (?_ : Obl _)) ?_ | refine ifB_intro (fun h => ?_) (fun h => ?_) | refine Exists.intro _ (And.intro rfl ?_) | ((with_reducible show _ = _); rfl))
  all_goals try ((with_reducible refine Obl.mk ?_); first | ((with_reducible show regOk _ _ = true); kernel_rfl) | ((with_reducible show eqTyOk _ _ = true); kernel_rfl) | rfl | exact trivial | ((repeat' (first | exact trivial | refine And.intro ?_ ?_)); done) | decide | ((repeat' (first | exact List.forall_mem_nil _ | refine List.forall_mem_cons.2 (And.intro rfl ?_))); done) | (refine And.intro ?_ ?_ <;> simp only [List.length_map, List.length_append, List.length_cons, List.length_nil] <;> omega))
  refine Or.inl (call_intro (s_laws_toIntS x.fEntries (small_nat hs.2.2.1)) (And.intro rfl trivial) ?_)
  repeat' ((conv => whnf); first | refine seq_inl ?_ | refine reg_inl ?_ | refine And.intro (Obl.out (?_ : Obl _)) ?_ | refine ifB_intro (fun h => ?_) (fun h => ?_) | refine Exists.intro _ (And.intro rfl ?_) | ((with_reducible show _ = _); rfl))
  all_goals try ((with_reducible refine Obl.mk ?_); first | ((with_reducible show regOk _ _ = true); kernel_rfl) | ((with_reducible show eqTyOk _ _ = true); kernel_rfl) | rfl | exact trivial | ((repeat' (first | exact trivial | refine And.intro ?_ ?_)); done) | decide | ((repeat' (first | exact List.forall_mem_nil _ | refine List.forall_mem_cons.2 (And.intro rfl ?_))); done) | (refine And.intro ?_ ?_ <;> simp only [List.length_map, List.length_append, List.length_cons, List.length_nil] <;> omega))
theorem g_laws_markMachine (x : TMachine) (k : Int) (hk0 : 0 ≤ k) (hl3 : x.fStack.length ≤ 1099511627776) (hl4 : x.fOut.length ≤ 1099511627776) (hk : k + (cnRs (x.fStack.map intRow) : Nat) + (cnRs (x.fOut.map intRow) : Nat) ≤ 4611686018427387904) : SpecG Try.prog 20 [.r (.agg [.t (.int .i64 x.fPc), .t (.int .i64 x.fSp), .t (.int .i64 x.fFp), .own (0, 0, 3), .own (0, 0, 4), .t (.int .i64 x.fState), .t (.int .i64 x.fValue)]), tI .i64 k] [((0, 0, 3), .arr false 1 (x.fStack.map intRow)), ((0, 0, 4), .arr false 1 (x.fOut.map intRow))] (tI .i64 (k + (cnRs (x.fStack.map intRow) : Nat) + (cnRs (x.fOut.map intRow) : Nat))) [((0, 0, 3), .arr false 1 (mkRs (x.fStack.map intRow) (k))), ((0, 0, 4), .arr false 1 (mkRs (x.fOut.map intRow) (k + (cnRs (x.fStack.map intRow) : Nat))))] := by
  refine specG_of_W hΓ hmix Try.func20 rfl (by decide) rfl rfl ?_
  repeat' ((conv => whnf); first | refine seq_inl ?_ | refine reg_inl ?_ | refine And.intro (Obl.out (?_ : Obl _)) ?_ | refine ifB_intro (fun h => ?_) (fun h => ?_) | refine Exists.intro _ (And.intro rfl ?_) | ((with_reducible show _ = _); rfl))
  all_goals try ((with_reducible refine Obl.mk ?_); first | ((with_reducible show regOk _ _ = true); kernel_rfl) | ((with_reducible show eqTyOk _ _ = true); kernel_rfl) | rfl | exact trivial | ((repeat' (first | exact trivial | refine And.intro ?_ ?_)); done) | decide | ((repeat' (first | exact List.forall_mem_nil _ | refine List.forall_mem_cons.2 (And.intro rfl ?_))); done) | (refine And.intro ?_ ?_ <;> simp only [List.length_map, List.length_append, List.length_cons, List.length_nil] <;> omega))
  refine callG_intro (g_laws_markIntS x.fStack (k) (by omega) hl3 (by omega)) ?_
  repeat' ((conv => whnf); first | refine seq_inl ?_ | refine reg_inl ?_ | refine And.intro (Obl.out (?_ : Obl _)) ?_ | refine ifB_intro (fun h => ?_) (fun h => ?_) | refine Exists.intro _ (And.intro rfl ?_) | ((with_reducible show _ = _); rfl))
  all_goals try ((with_reducible refine Obl.mk ?_); first | ((with_reducible show regOk _ _ = true); kernel_rfl) | ((with_reducible show eqTyOk _ _ = true); kernel_rfl) | rfl | exact trivial | ((repeat' (first | exact trivial | refine And.intro ?_ ?_)); done) | decide | ((repeat' (first | exact List.forall_mem_nil _ | refine List.forall_mem_cons.2 (And.intro rfl ?_))); done) | (refine And.intro ?_ ?_ <;> simp only [List.length_map, List.length_append, List.length_cons, List.length_nil] <;> omega))
  refine callG_intro (g_laws_markIntS x.fOut (k + (cnRs (x.fStack.map intRow) : Nat)) (by omega) hl4 (by omega)) ?_
  repeat' ((conv => whnf); first | refine seq_inl ?_ | refine reg_inl ?_ | refine And.intro (Obl.out (?_ : Obl _)) ?_ | refine ifB_intro (fun h => ?_) (fun h => ?_) | refine Exists.intro _ (And.intro rfl ?_) | ((with_reducible show _ = _); rfl))
  all_goals try ((with_reducible refine Obl.mk ?_); first | ((with_reducible show regOk _ _ = true); kernel_rfl) | ((with_reducible show eqTyOk _ _ = true); kernel_rfl) | rfl | exact trivial | ((repeat' (first | exact trivial | refine And.intro ?_ ?_)); done) | decide | ((repeat' (first | exact List.forall_mem_nil _ | refine List.forall_mem_cons.2 (And.intro rfl ?_))); done) | (refine And.intro ?_ ?_ <;> simp only [List.length_map, List.length_append, List.length_cons, List.length_nil] <;> omega))
theorem s_laws_heldMachine (x : TMachine) (k : Int) (hk0 : 0 ≤ k) (hl3 : x.fStack.length ≤ 1099511627776) (hl4 : x.fOut.length ≤ 1099511627776) (hk : k + (cnRs (x.fStack.map intRow) : Nat) + (cnRs (x.fOut.map intRow) : Nat) ≤ 4611686018427387904) : Sim.Spec Try.prog 21 [.agg [.int .i64 x.fPc, .int .i64 x.fSp, .int .i64 x.fFp, .lst 1 (mkRs (x.fStack.map intRow) (k)), .lst 1 (mkRs (x.fOut.map intRow) (k + (cnRs (x.fStack.map intRow) : Nat))), .int .i64 x.fState, .int .i64 x.fValue], tvI k] (rI (k + (cnRs (x.fStack.map intRow) : Nat) + (cnRs (x.fOut.map intRow) : Nat))) := by
  refine spec_of_W hΓ hmix Try.func21 rfl (by decide) rfl ?_
  repeat' ((conv => whnf); first | refine Or.inl ?_ | refine And.intro (Obl.out (?_ : Obl _)) ?_ | refine ifB_intro (fun h => ?_) (fun h => ?_) | refine call_intro ((s_laws_heldIntS x.fStack (k) (by omega) hl3 (by omega))) (And.intro rfl (And.intro rfl trivial)) ?_ | refine Exists.intro _ (And.intro rfl ?_) | ((with_reducible show _ = _); rfl))
  all_goals try ((with_reducible refine Obl.mk ?_); first | ((with_reducible show regOk _ _ = true); kernel_rfl) | ((with_reducible show eqTyOk _ _ = true); kernel_rfl) | rfl | exact trivial | ((repeat' (first | exact trivial | refine And.intro ?_ ?_)); done) | decide | ((repeat' (first | exact List.forall_mem_nil _ | refine List.forall_mem_cons.2 (And.intro rfl ?_))); done) | (refine And.intro ?_ ?_ <;> simp only [List.length_map, List.length_append, List.length_cons, List.length_nil] <;> omega))
  all_goals try (exfalso; have h' := of_decide_eq_true h; omega; done)
  repeat' ((conv => whnf); first | refine Or.inl ?_ | refine And.intro (Obl.out (?_ : Obl _)) ?_ | refine ifB_intro (fun h => ?_) (fun h => ?_) | refine call_intro ((s_laws_heldIntS x.fOut (k + (cnRs (x.fStack.map intRow) : Nat)) (by omega) hl4 (by omega))) (And.intro rfl (And.intro rfl trivial)) ?_ | refine Exists.intro _ (And.intro rfl ?_) | ((with_reducible show _ = _); rfl))
  all_goals try ((with_reducible refine Obl.mk ?_); first | ((with_reducible show regOk _ _ = true); kernel_rfl) | ((with_reducible show eqTyOk _ _ = true); kernel_rfl) | rfl | exact trivial | ((repeat' (first | exact trivial | refine And.intro ?_ ?_)); done) | decide | ((repeat' (first | exact List.forall_mem_nil _ | refine List.forall_mem_cons.2 (And.intro rfl ?_))); done) | (refine And.intro ?_ ?_ <;> simp only [List.length_map, List.length_append, List.length_cons, List.length_nil] <;> omega))
  all_goals try (exfalso; have h' := of_decide_eq_true h; omega; done)
  all_goals exact ⟨rfl⟩
end Go.Proofs.Ytehniaekfijmiaa
