import Derived.Test.YtcmmadfnhmngnaaFnsE
import Derived.Test.YtcmmadfnhmngnaaSimO
namespace Go.Proofs.Ytcmmadfnhmngnaa
open Go.Sim
set_option maxRecDepth 100000
theorem s_laws_toSymbol {row : List Tr} (ht : typed Γ 8 61 row) (hs : smallR 1048576 row) : Sim.Spec Try.prog 47 [.agg row] (.r (.agg (row.map resC))) := by
  obtain ⟨_, _, rfl, ⟨x2, rfl, w2⟩, _, _, rfl, ⟨x3, rfl, w3⟩, _, _, rfl, ⟨x4, rfl, w4⟩, rfl⟩ := ht
  simp only [List.cons_append, List.nil_append, smallR, smallT] at hs
  refine spec_of_W hΓ hmix Try.func47 rfl (by decide) rfl ?_
  repeat' (
    (conv => whnf)
    first
    | refine Or.inl ?_
    | refine And.intro (Obl.out (?_ : Obl _)) ?_
    | refine ifB_intro (fun h => ?_) (fun h => ?_)
    | refine Exists.intro _ (And.intro rfl ?_)
    | rfl)
  all_goals try exact ⟨rfl⟩
  all_goals try exact ⟨trivial⟩
  all_goals try exact ⟨⟨trivial, trivial⟩⟩
  all_goals try exact ⟨⟨trivial, trivial, trivial⟩⟩
  all_goals try exact ⟨⟨trivial, trivial, trivial, trivial⟩⟩
  all_goals try exact ⟨by decide⟩
theorem s_laws_eqSymbol {row : List Tr} (ht : typed Γ 8 61 row) (hs : smallR 1048576 row) : Sim.Spec Try.prog 48 [.agg row, .agg row] (rB true) := by
  obtain ⟨_, _, rfl, ⟨x2, rfl, w2⟩, _, _, rfl, ⟨x3, rfl, w3⟩, _, _, rfl, ⟨x4, rfl, w4⟩, rfl⟩ := ht
  simp only [List.cons_append, List.nil_append, smallR, smallT] at hs
  refine spec_of_W hΓ hmix Try.func48 rfl (by decide) rfl ?_
  repeat' (
    (conv => whnf)
    first
    | refine Or.inl ?_
    | refine And.intro (Obl.out (?_ : Obl _)) ?_
    | refine ifB_intro (fun h => ?_) (fun h => ?_)
    | refine Exists.intro _ (And.intro rfl ?_)
    | rfl)
  all_goals try exact ⟨rfl⟩
  all_goals try exact ⟨trivial⟩
  all_goals try exact ⟨⟨trivial, trivial⟩⟩
  all_goals try exact ⟨⟨trivial, trivial, trivial⟩⟩
  all_goals try exact ⟨⟨trivial, trivial, trivial, trivial⟩⟩
  all_goals try exact ⟨by decide⟩
  all_goals simp at *
theorem s_laws_szSymbol {row : List Tr} (ht : typed Γ 8 61 row) (left : Int) (hle0 : 0 ≤ left) (hle1 : left ≤ 1048576) : Sim.Spec Try.prog 46 [.agg row, tvI left] (rI (szR row left)) := by
  obtain ⟨_, _, rfl, ⟨x2, rfl, w2⟩, _, _, rfl, ⟨x3, rfl, w3⟩, _, _, rfl, ⟨x4, rfl, w4⟩, rfl⟩ := ht
  simp only [maxLen] at *
  obtain ⟨Z, hz0⟩ : ∃ Z, Z = szR [.str x2, .int .i64 x3, .int .i64 x4] left := ⟨_, rfl⟩
  have hz := hz0
  refine spec_of_W hΓ hmix Try.func46 rfl (by decide) rfl ?_
  repeat' (
    (conv => whnf)
    first
    | refine Or.inl ?_
    | refine And.intro (Obl.out (?_ : Obl _)) ?_
    | refine ifB_intro (fun h => ?_) (fun h => ?_)
    | refine Exists.intro _ (And.intro rfl ?_)
    | rfl)
  all_goals try exact ⟨rfl⟩
  all_goals try exact ⟨trivial⟩
  all_goals try exact ⟨⟨trivial, trivial⟩⟩
  all_goals try exact ⟨⟨trivial, trivial, trivial⟩⟩
  all_goals try exact ⟨⟨trivial, trivial, trivial, trivial⟩⟩
  all_goals try exact ⟨by decide⟩
  · have h2 := of_decide_eq_true h
    rw [IntWalk.i64_in _ (by omega)] at h2
    exact ⟨congrArg (Tr.int _) (hz0.symm.trans (hz.trans (szR_str_neg h2))).symm⟩
  have g1 := of_decide_eq_false h
  rw [IntWalk.i64_in _ (by omega)] at g1
  clear h
  rw [IntWalk.i64_in (left - x2.length) (by omega)]
  rw [szR_str g1] at hz
  rw [szR_int (by omega)] at hz
  rw [szR_int (by omega)] at hz
  all_goals exact ⟨congrArg (Tr.int _) ((hz0.symm.trans (hz.trans (szR_nil _))).symm)⟩
theorem s_laws_toSymbolS {rows : List (List Tr)} (ht : ∀ r ∈ rows, typed Γ 8 61 r) (hs : (rows.length : Int) ≤ 1048576 ∧ smallRs 1048576 rows) : Sim.Spec Try.prog 44 [tvL 3 rows] (rL 3 rows) := by
  refine spec_of_W hΓ hmix Try.func44 rfl (by decide) rfl ?_
  have hl := hs.1
  repeat' (
    (conv => whnf)
    first
    | refine Or.inl ?_
    | refine And.intro (Obl.out (?_ : Obl _)) ?_
    | refine ifB_intro (fun h => ?_) (fun h => ?_)
    | refine Exists.intro _ (And.intro rfl ?_)
    | rfl)
  all_goals try exact ⟨rfl⟩
  all_goals try exact ⟨trivial⟩
  all_goals try exact ⟨⟨trivial, trivial⟩⟩
  all_goals try exact ⟨⟨trivial, trivial, trivial⟩⟩
  all_goals try exact ⟨⟨trivial, trivial, trivial, trivial⟩⟩
  all_goals try exact ⟨by decide⟩
  · exact ⟨by omega⟩
  · exact ⟨by dsimp only; omega⟩
  repeat' (
    (conv => whnf)
    first
    | refine Or.inl ?_
    | refine And.intro (Obl.out (?_ : Obl _)) ?_
    | refine ifB_intro (fun h => ?_) (fun h => ?_)
    | refine Exists.intro _ (And.intro rfl ?_)
    | rfl)
  all_goals try exact ⟨rfl⟩
  all_goals try exact ⟨trivial⟩
  all_goals try exact ⟨⟨trivial, trivial⟩⟩
  all_goals try exact ⟨⟨trivial, trivial, trivial⟩⟩
  all_goals try exact ⟨⟨trivial, trivial, trivial, trivial⟩⟩
  all_goals try exact ⟨by decide⟩
  conv => whnf
  refine ⟨{ k : Nat // k ≤ rows.length }, fun k => ⟨[(0, .r (.c (.t (.lst 3 rows)))), (3, .r (.c (.own (3, 0, 0)))), (4, tI .i64 (k.1 : Int))], [((3, 0, 0), some (.arr true 3 (filled rows [.str [], .int .i64 0, .int .i64 0] k.1)))], [3]⟩, fun k => rows.length - k.1, ⟨0, by omega⟩, ?_, ?_⟩
  · skip
    repeat' (
      (conv => whnf)
      first
      | refine Or.inl ?_
      | refine And.intro (Obl.out (?_ : Obl _)) ?_
      | refine ifB_intro (fun h => ?_) (fun h => ?_)
      | refine Exists.intro _ (And.intro rfl ?_)
      | rfl)
    all_goals try exact ⟨rfl⟩
    all_goals try exact ⟨trivial⟩
    all_goals try exact ⟨⟨trivial, trivial⟩⟩
    all_goals try exact ⟨⟨trivial, trivial, trivial⟩⟩
    all_goals try exact ⟨⟨trivial, trivial, trivial, trivial⟩⟩
    all_goals try exact ⟨by decide⟩
  intro ⟨k, hk⟩
  dsimp only
  repeat' (
    (conv => whnf)
    first
    | refine Or.inl ?_
    | refine And.intro (Obl.out (?_ : Obl _)) ?_
    | refine ifB_intro (fun h => ?_) (fun h => ?_)
    | refine Exists.intro _ (And.intro rfl ?_)
    | rfl)
  all_goals try exact ⟨rfl⟩
  all_goals try exact ⟨trivial⟩
  all_goals try exact ⟨⟨trivial, trivial⟩⟩
  all_goals try exact ⟨⟨trivial, trivial, trivial⟩⟩
  all_goals try exact ⟨⟨trivial, trivial, trivial, trivial⟩⟩
  all_goals try exact ⟨by decide⟩
  · have hlt : k < rows.length := by have := of_decide_eq_true h; omega
    obtain ⟨row, hrow⟩ := get_of_lt hlt
    have hm := List.mem_of_getElem? hrow
    have htr := ht row hm
    have hsr := smallRs_mem hs.2 row hm
    have hcall := s_laws_toSymbol htr hsr
    obtain ⟨_, _, rfl, ⟨x2, rfl, w2⟩, _, _, rfl, ⟨x3, rfl, w3⟩, _, _, rfl, ⟨x4, rfl, w4⟩, rfl⟩ := htr
    conv => whnf
    refine ⟨k, _, rfl, hrow, ?_⟩
    repeat' (
      (conv => whnf)
      first
      | refine Or.inl ?_
      | refine And.intro (Obl.out (?_ : Obl _)) ?_
      | refine ifB_intro (fun h => ?_) (fun h => ?_)
      | refine call_intro (hcall) (And.intro (And.intro rfl (And.intro rfl (And.intro rfl trivial))) trivial) ?_
      | refine Exists.intro _ (And.intro rfl ?_)
      | rfl)
    all_goals try exact ⟨rfl⟩
    all_goals try exact ⟨trivial⟩
    all_goals try exact ⟨⟨trivial, trivial⟩⟩
    all_goals try exact ⟨⟨trivial, trivial, trivial⟩⟩
    all_goals try exact ⟨⟨trivial, trivial, trivial, trivial⟩⟩
    all_goals try exact ⟨by decide⟩
    · exact ⟨by rw [filled_len (by omega)]; omega⟩
    conv => whnf
    refine ⟨_, filled_get (by omega), ?_⟩
    repeat' (
      (conv => whnf)
      first
      | refine Or.inl ?_
      | refine And.intro (Obl.out (?_ : Obl _)) ?_
      | refine ifB_intro (fun h => ?_) (fun h => ?_)
      | refine Exists.intro _ (And.intro rfl ?_)
      | rfl)
    all_goals try exact ⟨rfl⟩
    all_goals try exact ⟨trivial⟩
    all_goals try exact ⟨⟨trivial, trivial⟩⟩
    all_goals try exact ⟨⟨trivial, trivial, trivial⟩⟩
    all_goals try exact ⟨⟨trivial, trivial, trivial, trivial⟩⟩
    all_goals try exact ⟨by decide⟩
    conv => whnf
    refine ⟨⟨k + 1, by omega⟩, ?_, by dsimp only; omega⟩
    repeat' (
      (conv => whnf)
      first
      | refine Or.inl ?_
      | refine And.intro (Obl.out (?_ : Obl _)) ?_
      | refine ifB_intro (fun h => ?_) (fun h => ?_)
      | refine Exists.intro _ (And.intro rfl ?_)
      | rfl)
    all_goals try exact ⟨rfl⟩
    all_goals try exact ⟨trivial⟩
    all_goals try exact ⟨⟨trivial, trivial⟩⟩
    all_goals try exact ⟨⟨trivial, trivial, trivial⟩⟩
    all_goals try exact ⟨⟨trivial, trivial, trivial, trivial⟩⟩
    all_goals try exact ⟨by decide⟩
    · exact ⟨by dsimp only; rw [IntWalk.i64_in _ (by omega)]; rfl⟩
    · exact ⟨filled_set hrow⟩
  · have hge : rows.length ≤ k := by have := of_decide_eq_false h; omega
    exact ⟨filled_all (by omega)⟩
theorem s_laws_szSymbolS {rows : List (List Tr)} (ht : ∀ r ∈ rows, typed Γ 8 61 r) (hl : rows.length ≤ maxLen) (left : Int) (hle0 : 0 ≤ left) (hle1 : left ≤ 1048576) : Sim.Spec Try.prog 43 [tvL 3 rows, tvI left] (rI (szT (.lst 3 rows) left)) := by
  have hl2 : rows.length ≤ 9223372036854775807 := by simpa [maxLen] using hl
  rw [szT]
  refine spec_of_W hΓ hmix Try.func43 rfl (by decide) rfl ?_
  repeat' (
    (conv => whnf)
    first
    | refine Or.inl ?_
    | refine And.intro (Obl.out (?_ : Obl _)) ?_
    | refine ifB_intro (fun h => ?_) (fun h => ?_)
    | refine Exists.intro _ (And.intro rfl ?_)
    | rfl)
  all_goals try exact ⟨rfl⟩
  all_goals try exact ⟨trivial⟩
  all_goals try exact ⟨⟨trivial, trivial⟩⟩
  all_goals try exact ⟨⟨trivial, trivial, trivial⟩⟩
  all_goals try exact ⟨⟨trivial, trivial, trivial, trivial⟩⟩
  all_goals try exact ⟨by decide⟩
  · refine ⟨congrArg (Tr.int _) ?_⟩
    have h2 := of_decide_eq_true h
    rw [IntWalk.i64_in _ (by omega)] at h2
    rw [if_pos h2]
  have h2 := of_decide_eq_false h
  rw [IntWalk.i64_in _ (by omega)] at h2 ⊢
  rw [if_neg h2]
  conv => whnf
  refine ⟨{ q : Nat × Int // q.1 ≤ rows.length ∧ 0 ≤ q.2 ∧ q.2 ≤ 1048576 ∧ szRs (rows.drop q.1) q.2 = szRs rows (left - rows.length) }, fun q => ⟨[(0, .r (.c (.t (.lst 3 rows)))), (1, tI .i64 q.1.2), (5, tI .i64 (q.1.1 : Int))], [], []⟩, fun q => rows.length - q.1.1, ⟨(0, left - rows.length), by simp, by dsimp only; omega, by dsimp only; omega, by simp⟩, ?_, ?_⟩
  · skip
    repeat' (
      (conv => whnf)
      first
      | refine Or.inl ?_
      | refine And.intro (Obl.out (?_ : Obl _)) ?_
      | refine ifB_intro (fun h => ?_) (fun h => ?_)
      | refine Exists.intro _ (And.intro rfl ?_)
      | rfl)
    all_goals try exact ⟨rfl⟩
    all_goals try exact ⟨trivial⟩
    all_goals try exact ⟨⟨trivial, trivial⟩⟩
    all_goals try exact ⟨⟨trivial, trivial, trivial⟩⟩
    all_goals try exact ⟨⟨trivial, trivial, trivial, trivial⟩⟩
    all_goals try exact ⟨by decide⟩
  intro ⟨⟨k, lk⟩, hk, h0, h1, hsz⟩
  dsimp only at hk h0 h1 hsz ⊢
  repeat' (
    (conv => whnf)
    first
    | refine Or.inl ?_
    | refine And.intro (Obl.out (?_ : Obl _)) ?_
    | refine ifB_intro (fun h => ?_) (fun h => ?_)
    | refine Exists.intro _ (And.intro rfl ?_)
    | rfl)
  all_goals try exact ⟨rfl⟩
  all_goals try exact ⟨trivial⟩
  all_goals try exact ⟨⟨trivial, trivial⟩⟩
  all_goals try exact ⟨⟨trivial, trivial, trivial⟩⟩
  all_goals try exact ⟨⟨trivial, trivial, trivial, trivial⟩⟩
  all_goals try exact ⟨by decide⟩
  · have hlt : k < rows.length := by have := of_decide_eq_true h; omega
    obtain ⟨row, hrow⟩ := get_of_lt hlt
    have hm := List.mem_of_getElem? hrow
    have htr := ht row hm
    have hcall := s_laws_szSymbol htr lk h0 h1
    rw [drop_at hrow, szRs] at hsz
    obtain ⟨_, _, rfl, ⟨x2, rfl, w2⟩, _, _, rfl, ⟨x3, rfl, w3⟩, _, _, rfl, ⟨x4, rfl, w4⟩, rfl⟩ := htr
    conv => whnf
    refine ⟨k, _, rfl, hrow, ?_⟩
    repeat' (
      (conv => whnf)
      first
      | refine Or.inl ?_
      | refine And.intro (Obl.out (?_ : Obl _)) ?_
      | refine ifB_intro (fun h => ?_) (fun h => ?_)
      | refine call_intro (hcall) (And.intro (And.intro rfl (And.intro rfl (And.intro rfl trivial))) (And.intro rfl trivial)) ?_
      | refine Exists.intro _ (And.intro rfl ?_)
      | rfl)
    all_goals try exact ⟨rfl⟩
    all_goals try exact ⟨trivial⟩
    all_goals try exact ⟨⟨trivial, trivial⟩⟩
    all_goals try exact ⟨⟨trivial, trivial, trivial⟩⟩
    all_goals try exact ⟨⟨trivial, trivial, trivial, trivial⟩⟩
    all_goals try exact ⟨by decide⟩
    · refine ⟨congrArg (Tr.int _) ?_⟩
      rw [← hsz, if_pos (of_decide_eq_true h)]
    have h3 := of_decide_eq_false h
    rw [if_neg h3] at hsz
    have hsm := szR_small (L := 1048576) _ _ (Int.not_lt.1 h3) h1
    conv => whnf
    refine ⟨⟨(k + 1, _), by dsimp only; omega, by dsimp only; exact Int.not_lt.1 h3, by dsimp only; exact Int.le_trans hsm.2 h1, hsz⟩, ?_, by dsimp only; omega⟩
    repeat' (
      (conv => whnf)
      first
      | refine Or.inl ?_
      | refine And.intro (Obl.out (?_ : Obl _)) ?_
      | refine ifB_intro (fun h => ?_) (fun h => ?_)
      | refine Exists.intro _ (And.intro rfl ?_)
      | rfl)
    all_goals try exact ⟨rfl⟩
    all_goals try exact ⟨trivial⟩
    all_goals try exact ⟨⟨trivial, trivial⟩⟩
    all_goals try exact ⟨⟨trivial, trivial, trivial⟩⟩
    all_goals try exact ⟨⟨trivial, trivial, trivial, trivial⟩⟩
    all_goals try exact ⟨by decide⟩
    exact ⟨by dsimp only; rw [IntWalk.i64_in _ (by omega)]; rfl⟩
  · have hge : rows.length ≤ k := by have := of_decide_eq_false h; omega
    rw [List.drop_eq_nil_of_le hge, szRs] at hsz
    exact ⟨congrArg (Tr.int _) hsz⟩
theorem s_laws_eqSymbolS {rows : List (List Tr)} (ht : ∀ r ∈ rows, typed Γ 8 61 r) (hs : (rows.length : Int) ≤ 1048576 ∧ smallRs 1048576 rows) : Sim.Spec Try.prog 45 [tvL 3 rows, tvL 3 rows] (rB true) := by
  refine spec_of_W hΓ hmix Try.func45 rfl (by decide) rfl ?_
  have hl := hs.1
  repeat' (
    (conv => whnf)
    first
    | refine Or.inl ?_
    | refine And.intro (Obl.out (?_ : Obl _)) ?_
    | refine ifB_intro (fun h => ?_) (fun h => ?_)
    | refine Exists.intro _ (And.intro rfl ?_)
    | rfl)
  all_goals try exact ⟨rfl⟩
  all_goals try exact ⟨trivial⟩
  all_goals try exact ⟨⟨trivial, trivial⟩⟩
  all_goals try exact ⟨⟨trivial, trivial, trivial⟩⟩
  all_goals try exact ⟨⟨trivial, trivial, trivial, trivial⟩⟩
  all_goals try exact ⟨by decide⟩
  · simp at h
  conv => whnf
  refine ⟨{ k : Nat // k ≤ rows.length }, fun k => ⟨[(0, .r (.c (.t (.lst 3 rows)))), (1, .r (.c (.t (.lst 3 rows)))), (5, tI .i64 (k.1 : Int))], [], []⟩, fun k => rows.length - k.1, ⟨0, by omega⟩, ?_, ?_⟩
  · skip
    repeat' (
      (conv => whnf)
      first
      | refine Or.inl ?_
      | refine And.intro (Obl.out (?_ : Obl _)) ?_
      | refine ifB_intro (fun h => ?_) (fun h => ?_)
      | refine Exists.intro _ (And.intro rfl ?_)
      | rfl)
    all_goals try exact ⟨rfl⟩
    all_goals try exact ⟨trivial⟩
    all_goals try exact ⟨⟨trivial, trivial⟩⟩
    all_goals try exact ⟨⟨trivial, trivial, trivial⟩⟩
    all_goals try exact ⟨⟨trivial, trivial, trivial, trivial⟩⟩
    all_goals try exact ⟨by decide⟩
  intro ⟨k, hk⟩
  dsimp only
  repeat' (
    (conv => whnf)
    first
    | refine Or.inl ?_
    | refine And.intro (Obl.out (?_ : Obl _)) ?_
    | refine ifB_intro (fun h => ?_) (fun h => ?_)
    | refine Exists.intro _ (And.intro rfl ?_)
    | rfl)
  all_goals try exact ⟨rfl⟩
  all_goals try exact ⟨trivial⟩
  all_goals try exact ⟨⟨trivial, trivial⟩⟩
  all_goals try exact ⟨⟨trivial, trivial, trivial⟩⟩
  all_goals try exact ⟨⟨trivial, trivial, trivial, trivial⟩⟩
  all_goals try exact ⟨by decide⟩
  · have hlt : k < rows.length := by have := of_decide_eq_true h; omega
    obtain ⟨row, hrow⟩ := get_of_lt hlt
    have hm := List.mem_of_getElem? hrow
    have htr := ht row hm
    have hsr := smallRs_mem hs.2 row hm
    have hcall := s_laws_eqSymbol htr hsr
    obtain ⟨_, _, rfl, ⟨x2, rfl, w2⟩, _, _, rfl, ⟨x3, rfl, w3⟩, _, _, rfl, ⟨x4, rfl, w4⟩, rfl⟩ := htr
    conv => whnf
    refine ⟨k, _, rfl, hrow, ?_⟩
    repeat' (
      (conv => whnf)
      first
      | refine Or.inl ?_
      | refine And.intro (Obl.out (?_ : Obl _)) ?_
      | refine ifB_intro (fun h => ?_) (fun h => ?_)
      | refine call_intro (hcall) (And.intro (And.intro rfl (And.intro rfl (And.intro rfl trivial))) (And.intro (And.intro rfl (And.intro rfl (And.intro rfl trivial))) trivial)) ?_
      | refine Exists.intro _ (And.intro rfl ?_)
      | rfl)
    all_goals try exact ⟨rfl⟩
    all_goals try exact ⟨trivial⟩
    all_goals try exact ⟨⟨trivial, trivial⟩⟩
    all_goals try exact ⟨⟨trivial, trivial, trivial⟩⟩
    all_goals try exact ⟨⟨trivial, trivial, trivial, trivial⟩⟩
    all_goals try exact ⟨by decide⟩
    conv => whnf
    refine ⟨k, _, rfl, hrow, ?_⟩
    repeat' (
      (conv => whnf)
      first
      | refine Or.inl ?_
      | refine And.intro (Obl.out (?_ : Obl _)) ?_
      | refine ifB_intro (fun h => ?_) (fun h => ?_)
      | refine call_intro (hcall) (And.intro (And.intro rfl (And.intro rfl (And.intro rfl trivial))) (And.intro (And.intro rfl (And.intro rfl (And.intro rfl trivial))) trivial)) ?_
      | refine Exists.intro _ (And.intro rfl ?_)
      | rfl)
    all_goals try exact ⟨rfl⟩
    all_goals try exact ⟨trivial⟩
    all_goals try exact ⟨⟨trivial, trivial⟩⟩
    all_goals try exact ⟨⟨trivial, trivial, trivial⟩⟩
    all_goals try exact ⟨⟨trivial, trivial, trivial, trivial⟩⟩
    all_goals try exact ⟨by decide⟩
    conv => whnf
    refine ⟨⟨k + 1, by omega⟩, ?_, by dsimp only; omega⟩
    repeat' (
      (conv => whnf)
      first
      | refine Or.inl ?_
      | refine And.intro (Obl.out (?_ : Obl _)) ?_
      | refine ifB_intro (fun h => ?_) (fun h => ?_)
      | refine Exists.intro _ (And.intro rfl ?_)
      | rfl)
    all_goals try exact ⟨rfl⟩
    all_goals try exact ⟨trivial⟩
    all_goals try exact ⟨⟨trivial, trivial⟩⟩
    all_goals try exact ⟨⟨trivial, trivial, trivial⟩⟩
    all_goals try exact ⟨⟨trivial, trivial, trivial, trivial⟩⟩
    all_goals try exact ⟨by decide⟩
    exact ⟨by dsimp only; rw [IntWalk.i64_in _ (by omega)]; rfl⟩
theorem s_laws_toImage {row : List Tr} (ht : typed Γ 8 39 row) (hs : smallR 1048576 row) : Sim.Spec Try.prog 31 [.agg row] (.r (.agg (row.map resC))) := by
  obtain ⟨_, _, rfl, ⟨x2, rfl, w2⟩, _, _, rfl, ⟨x3, rfl, w3, e3⟩, rfl⟩ := ht
  simp only [List.cons_append, List.nil_append, smallR, smallT] at hs
  have t3 : ∀ r ∈ x3, typed Γ 8 61 r := fun r hr => typed_le (by decide) (e3 r hr)
  refine spec_of_W hΓ hmix Try.func31 rfl (by decide) rfl ?_
  repeat' (
    (conv => whnf)
    first
    | refine Or.inl ?_
    | refine And.intro (Obl.out (?_ : Obl _)) ?_
    | refine ifB_intro (fun h => ?_) (fun h => ?_)
    | refine call_intro ((s_laws_toSymbolS t3 (by simp_all))) (And.intro rfl trivial) ?_
    | refine Exists.intro _ (And.intro rfl ?_)
    | rfl)
  all_goals try exact ⟨rfl⟩
  all_goals try exact ⟨trivial⟩
  all_goals try exact ⟨⟨trivial, trivial⟩⟩
  all_goals try exact ⟨⟨trivial, trivial, trivial⟩⟩
  all_goals try exact ⟨⟨trivial, trivial, trivial, trivial⟩⟩
  all_goals try exact ⟨by decide⟩
theorem s_laws_eqImage {row : List Tr} (ht : typed Γ 8 39 row) (hs : smallR 1048576 row) : Sim.Spec Try.prog 33 [.agg row, .agg row] (rB true) := by
  obtain ⟨_, _, rfl, ⟨x2, rfl, w2⟩, _, _, rfl, ⟨x3, rfl, w3, e3⟩, rfl⟩ := ht
  simp only [List.cons_append, List.nil_append, smallR, smallT] at hs
  have t3 : ∀ r ∈ x3, typed Γ 8 61 r := fun r hr => typed_le (by decide) (e3 r hr)
  refine spec_of_W hΓ hmix Try.func33 rfl (by decide) rfl ?_
  repeat' (
    (conv => whnf)
    first
    | refine Or.inl ?_
    | refine And.intro (Obl.out (?_ : Obl _)) ?_
    | refine ifB_intro (fun h => ?_) (fun h => ?_)
    | refine call_intro ((s_laws_eqSymbolS t3 (by simp_all))) (And.intro rfl (And.intro rfl trivial)) ?_
    | refine Exists.intro _ (And.intro rfl ?_)
    | rfl)
  all_goals try exact ⟨rfl⟩
  all_goals try exact ⟨trivial⟩
  all_goals try exact ⟨⟨trivial, trivial⟩⟩
  all_goals try exact ⟨⟨trivial, trivial, trivial⟩⟩
  all_goals try exact ⟨⟨trivial, trivial, trivial, trivial⟩⟩
  all_goals try exact ⟨by decide⟩
  all_goals simp at *
theorem s_laws_szImage {row : List Tr} (ht : typed Γ 8 39 row) (left : Int) (hle0 : 0 ≤ left) (hle1 : left ≤ 1048576) : Sim.Spec Try.prog 29 [.agg row, tvI left] (rI (szR row left)) := by
  obtain ⟨_, _, rfl, ⟨x2, rfl, w2⟩, _, _, rfl, ⟨x3, rfl, w3, e3⟩, rfl⟩ := ht
  have t3 : ∀ r ∈ x3, typed Γ 8 61 r := fun r hr => typed_le (by decide) (e3 r hr)
  simp only [maxLen] at *
  obtain ⟨Z, hz0⟩ : ∃ Z, Z = szR [.str x2, .lst 3 x3] left := ⟨_, rfl⟩
  have hz := hz0
  refine spec_of_W hΓ hmix Try.func29 rfl (by decide) rfl ?_
  repeat' (
    (conv => whnf)
    first
    | refine Or.inl ?_
    | refine And.intro (Obl.out (?_ : Obl _)) ?_
    | refine ifB_intro (fun h => ?_) (fun h => ?_)
    | refine Exists.intro _ (And.intro rfl ?_)
    | rfl)
  all_goals try exact ⟨rfl⟩
  all_goals try exact ⟨trivial⟩
  all_goals try exact ⟨⟨trivial, trivial⟩⟩
  all_goals try exact ⟨⟨trivial, trivial, trivial⟩⟩
  all_goals try exact ⟨⟨trivial, trivial, trivial, trivial⟩⟩
  all_goals try exact ⟨by decide⟩
  · have h2 := of_decide_eq_true h
    rw [IntWalk.i64_in _ (by omega)] at h2
    exact ⟨congrArg (Tr.int _) (hz0.symm.trans (hz.trans (szR_str_neg h2))).symm⟩
  have g1 := of_decide_eq_false h
  rw [IntWalk.i64_in _ (by omega)] at g1
  clear h
  rw [IntWalk.i64_in (left - x2.length) (by omega)]
  rw [szR_str g1] at hz
  repeat' (
    (conv => whnf)
    first
    | refine Or.inl ?_
    | refine And.intro (Obl.out (?_ : Obl _)) ?_
    | refine ifB_intro (fun h => ?_) (fun h => ?_)
    | refine Exists.intro _ (And.intro rfl ?_)
    | rfl)
  all_goals try exact ⟨rfl⟩
  all_goals try exact ⟨trivial⟩
  all_goals try exact ⟨⟨trivial, trivial⟩⟩
  all_goals try exact ⟨⟨trivial, trivial, trivial⟩⟩
  all_goals try exact ⟨⟨trivial, trivial, trivial, trivial⟩⟩
  all_goals try exact ⟨by decide⟩
  repeat' (
    (conv => whnf)
    first
    | refine Or.inl ?_
    | refine And.intro (Obl.out (?_ : Obl _)) ?_
    | refine ifB_intro (fun h => ?_) (fun h => ?_)
    | refine call_intro ((s_laws_szSymbolS t3 (by simpa [maxLen] using w3) (left - x2.length) (by omega) (by omega))) (And.intro rfl (And.intro rfl trivial)) ?_
    | refine Exists.intro _ (And.intro rfl ?_)
    | rfl)
  all_goals try exact ⟨rfl⟩
  all_goals try exact ⟨trivial⟩
  all_goals try exact ⟨⟨trivial, trivial⟩⟩
  all_goals try exact ⟨⟨trivial, trivial, trivial⟩⟩
  all_goals try exact ⟨⟨trivial, trivial, trivial, trivial⟩⟩
  all_goals try exact ⟨by decide⟩
  · exact ⟨congrArg (Tr.int _) (hz0.symm.trans (hz.trans (szR_neg (of_decide_eq_true h)))).symm⟩
  have g2 := of_decide_eq_false h
  clear h
  rw [szR_pos g2] at hz
  have b2 := (szT_small (L := 1048576) _ _ (Int.not_lt.1 g2) (by omega)).2
  all_goals exact ⟨congrArg (Tr.int _) ((hz0.symm.trans (hz.trans (szR_nil _))).symm)⟩
end Go.Proofs.Ytcmmadfnhmngnaa
