/- ImageId in both texts. -/
import Derived.Test.YtcmmadfnhmngnaaAuxI
namespace Go.Proofs.Ytcmmadfnhmngnaa
open Go.Sim
set_option maxRecDepth 100000
def idStep (x : Int) (b : UInt8) : Int := (x * 257 + b.toNat + 1) % 1000000007
def idHash (s : List UInt8) : Int := s.foldl idStep 7
theorem id_step {x : Int} {b : UInt8} (h0 : 0 ≤ x) (h1 : x < 1000000007) : (IntKind.i64.wrap (IntKind.i64.wrap (IntKind.i64.wrap (x * 257) + IntKind.i64.wrap (b.toNat : Int)) + 1)).tmod 1000000007 = idStep x b := by
  have hb := b.toNat_lt
  rw [IntWalk.i64_in (x * 257) (by omega), IntWalk.i64_in (b.toNat : Int) (by omega), IntWalk.i64_in (x * 257 + b.toNat) (by omega), IntWalk.i64_in _ (by omega), Int.tmod_eq_emod_of_nonneg (by omega)]
  rfl
theorem s_impl_ImageId (code : List UInt8) (syms : List (List Tr)) (hs : code.length ≤ 1048576) : Sim.Spec Try.prog 32 [.agg [.str code, .lst 3 syms]] (rI (idHash code)) := by
  refine spec_of_W hΓ hmix Try.func32 rfl (by decide) rfl ?_
  repeat' (
    (conv => whnf)
    first
    | refine Or.inl ?_
    | refine And.intro (Obl.out (?_ : Obl _)) ?_
    | refine ifB_intro (fun h => ?_) (fun h => ?_)
    | refine Exists.intro _ (And.intro rfl ?_)
    | rfl)
  all_goals try exact ⟨rfl⟩
  all_goals try exact ⟨trivial⟩
  all_goals try exact ⟨⟨trivial, trivial⟩⟩
  all_goals try exact ⟨⟨trivial, trivial, trivial⟩⟩
  all_goals try exact ⟨⟨trivial, trivial, trivial, trivial⟩⟩
  all_goals try exact ⟨by decide⟩
  conv => whnf
  refine ⟨{ q : Nat × Int // q.1 ≤ code.length ∧ 0 ≤ q.2 ∧ q.2 < 1000000007 ∧ (code.drop q.1).foldl idStep q.2 = idHash code }, fun q => ⟨[(1, .r (.c (.ptr (1, 0, 0) 0))), (3, tI .i64 q.1.2), (4, tI .i64 (q.1.1 : Int))], [((1, 0, 0), some (.box [.t (.str code), .t (.lst 3 syms)]))], [1]⟩, fun q => code.length - q.1.1, ⟨(0, 7), by simp, by dsimp only; omega, by dsimp only; omega, by simp [idHash]⟩, ?_, ?_⟩
  · skip
    repeat' (
      (conv => whnf)
      first
      | refine Or.inl ?_
      | refine And.intro (Obl.out (?_ : Obl _)) ?_
      | refine ifB_intro (fun h => ?_) (fun h => ?_)
      | refine Exists.intro _ (And.intro rfl ?_)
      | rfl)
    all_goals try exact ⟨rfl⟩
    all_goals try exact ⟨trivial⟩
    all_goals try exact ⟨⟨trivial, trivial⟩⟩
    all_goals try exact ⟨⟨trivial, trivial, trivial⟩⟩
    all_goals try exact ⟨⟨trivial, trivial, trivial, trivial⟩⟩
    all_goals try exact ⟨by decide⟩
  intro ⟨⟨k, x⟩, hk, h0, h1, hf⟩
  dsimp only at hk h0 h1 hf ⊢
  repeat' (
    (conv => whnf)
    first
    | refine Or.inl ?_
    | refine And.intro (Obl.out (?_ : Obl _)) ?_
    | refine ifB_intro (fun h => ?_) (fun h => ?_)
    | refine Exists.intro _ (And.intro rfl ?_)
    | rfl)
  all_goals try exact ⟨rfl⟩
  all_goals try exact ⟨trivial⟩
  all_goals try exact ⟨⟨trivial, trivial⟩⟩
  all_goals try exact ⟨⟨trivial, trivial, trivial⟩⟩
  all_goals try exact ⟨⟨trivial, trivial, trivial, trivial⟩⟩
  all_goals try exact ⟨by decide⟩
  · have hlt : k < code.length := by have := of_decide_eq_true h; omega
    obtain ⟨b, hb⟩ := get_of_lt hlt
    rw [drop_at hb, List.foldl_cons] at hf
    conv => whnf
    refine ⟨k, b, rfl, hb, ?_⟩
    repeat' (
      (conv => whnf)
      first
      | refine Or.inl ?_
      | refine And.intro (Obl.out (?_ : Obl _)) ?_
      | refine ifB_intro (fun h => ?_) (fun h => ?_)
      | refine Exists.intro _ (And.intro rfl ?_)
      | rfl)
    all_goals try exact ⟨rfl⟩
    all_goals try exact ⟨trivial⟩
    all_goals try exact ⟨⟨trivial, trivial⟩⟩
    all_goals try exact ⟨⟨trivial, trivial, trivial⟩⟩
    all_goals try exact ⟨⟨trivial, trivial, trivial, trivial⟩⟩
    all_goals try exact ⟨by decide⟩
    rw [id_step h0 h1]
    have hm : 0 ≤ idStep x b ∧ idStep x b < 1000000007 := by unfold idStep; omega
    conv => whnf
    refine ⟨⟨(k + 1, idStep x b), by dsimp only; omega, hm.1, hm.2, hf⟩, ?_, by dsimp only; omega⟩
    repeat' (
      (conv => whnf)
      first
      | refine Or.inl ?_
      | refine And.intro (Obl.out (?_ : Obl _)) ?_
      | refine ifB_intro (fun h => ?_) (fun h => ?_)
      | refine Exists.intro _ (And.intro rfl ?_)
      | rfl)
    all_goals try exact ⟨rfl⟩
    all_goals try exact ⟨trivial⟩
    all_goals try exact ⟨⟨trivial, trivial⟩⟩
    all_goals try exact ⟨⟨trivial, trivial, trivial⟩⟩
    all_goals try exact ⟨⟨trivial, trivial, trivial, trivial⟩⟩
    all_goals try exact ⟨by decide⟩
    exact ⟨by dsimp only; rw [IntWalk.i64_in _ (by omega)]; rfl⟩
  · have hge : code.length ≤ k := by have := of_decide_eq_false h; omega
    rw [List.drop_eq_nil_of_le hge] at hf
    exact ⟨congrArg (Tr.int _) hf⟩
theorem s_spec_ImageId (code : List UInt8) (syms : List (List Tr)) (hs : code.length ≤ 1048576) : Sim.Spec Try.prog 30 [.agg [.str code, .lst 3 syms]] (rI (idHash code)) := by
  refine spec_of_W hΓ hmix Try.func30 rfl (by decide) rfl ?_
  repeat' (
    (conv => whnf)
    first
    | refine Or.inl ?_
    | refine And.intro (Obl.out (?_ : Obl _)) ?_
    | refine ifB_intro (fun h => ?_) (fun h => ?_)
    | refine Exists.intro _ (And.intro rfl ?_)
    | rfl)
  all_goals try exact ⟨rfl⟩
  all_goals try exact ⟨trivial⟩
  all_goals try exact ⟨⟨trivial, trivial⟩⟩
  all_goals try exact ⟨⟨trivial, trivial, trivial⟩⟩
  all_goals try exact ⟨⟨trivial, trivial, trivial, trivial⟩⟩
  all_goals try exact ⟨by decide⟩
  conv => whnf
  refine ⟨{ q : Nat × Int // q.1 ≤ code.length ∧ 0 ≤ q.2 ∧ q.2 < 1000000007 ∧ (code.drop q.1).foldl idStep q.2 = idHash code }, fun q => ⟨[(1, .r (.c (.ptr (1, 0, 0) 0))), (3, tI .i64 q.1.2), (4, tI .i64 (q.1.1 : Int))], [((1, 0, 0), some (.box [.t (.str code), .t (.lst 3 syms)]))], [1]⟩, fun q => code.length - q.1.1, ⟨(0, 7), by simp, by dsimp only; omega, by dsimp only; omega, by simp [idHash]⟩, ?_, ?_⟩
  · skip
    repeat' (
      (conv => whnf)
      first
      | refine Or.inl ?_
      | refine And.intro (Obl.out (?_ : Obl _)) ?_
      | refine ifB_intro (fun h => ?_) (fun h => ?_)
      | refine Exists.intro _ (And.intro rfl ?_)
      | rfl)
    all_goals try exact ⟨rfl⟩
    all_goals try exact ⟨trivial⟩
    all_goals try exact ⟨⟨trivial, trivial⟩⟩
    all_goals try exact ⟨⟨trivial, trivial, trivial⟩⟩
    all_goals try exact ⟨⟨trivial, trivial, trivial, trivial⟩⟩
    all_goals try exact ⟨by decide⟩
  intro ⟨⟨k, x⟩, hk, h0, h1, hf⟩
  dsimp only at hk h0 h1 hf ⊢
  repeat' (
    (conv => whnf)
    first
    | refine Or.inl ?_
    | refine And.intro (Obl.out (?_ : Obl _)) ?_
    | refine ifB_intro (fun h => ?_) (fun h => ?_)
    | refine Exists.intro _ (And.intro rfl ?_)
    | rfl)
  all_goals try exact ⟨rfl⟩
  all_goals try exact ⟨trivial⟩
  all_goals try exact ⟨⟨trivial, trivial⟩⟩
  all_goals try exact ⟨⟨trivial, trivial, trivial⟩⟩
  all_goals try exact ⟨⟨trivial, trivial, trivial, trivial⟩⟩
  all_goals try exact ⟨by decide⟩
  · have hlt : k < code.length := by have := of_decide_eq_true h; omega
    obtain ⟨b, hb⟩ := get_of_lt hlt
    rw [drop_at hb, List.foldl_cons] at hf
    conv => whnf
    refine ⟨k, b, rfl, hb, ?_⟩
    repeat' (
      (conv => whnf)
      first
      | refine Or.inl ?_
      | refine And.intro (Obl.out (?_ : Obl _)) ?_
      | refine ifB_intro (fun h => ?_) (fun h => ?_)
      | refine Exists.intro _ (And.intro rfl ?_)
      | rfl)
    all_goals try exact ⟨rfl⟩
    all_goals try exact ⟨trivial⟩
    all_goals try exact ⟨⟨trivial, trivial⟩⟩
    all_goals try exact ⟨⟨trivial, trivial, trivial⟩⟩
    all_goals try exact ⟨⟨trivial, trivial, trivial, trivial⟩⟩
    all_goals try exact ⟨by decide⟩
    rw [id_step h0 h1]
    have hm : 0 ≤ idStep x b ∧ idStep x b < 1000000007 := by unfold idStep; omega
    conv => whnf
    refine ⟨⟨(k + 1, idStep x b), by dsimp only; omega, hm.1, hm.2, hf⟩, ?_, by dsimp only; omega⟩
    repeat' (
      (conv => whnf)
      first
      | refine Or.inl ?_
      | refine And.intro (Obl.out (?_ : Obl _)) ?_
      | refine ifB_intro (fun h => ?_) (fun h => ?_)
      | refine Exists.intro _ (And.intro rfl ?_)
      | rfl)
    all_goals try exact ⟨rfl⟩
    all_goals try exact ⟨trivial⟩
    all_goals try exact ⟨⟨trivial, trivial⟩⟩
    all_goals try exact ⟨⟨trivial, trivial, trivial⟩⟩
    all_goals try exact ⟨⟨trivial, trivial, trivial, trivial⟩⟩
    all_goals try exact ⟨by decide⟩
    exact ⟨by dsimp only; rw [IntWalk.i64_in _ (by omega)]; rfl⟩
  · have hge : code.length ≤ k := by have := of_decide_eq_false h; omega
    rw [List.drop_eq_nil_of_le hge] at hf
    exact ⟨congrArg (Tr.int _) hf⟩
theorem s_laws_FnExactImageId {row : List Tr} (ht : typed Γ 8 39 row) : Sim.Spec Try.prog 10 [.agg row] (rB true) := by
  have hsz := s_laws_szImage ht 1048576 (by omega) (by omega)
  have hto := fun hs => s_laws_toImage ht hs
  have heq := fun hs => s_laws_eqImage ht hs
  have hsm := fun h => (szR_small (L := 1048576) row 1048576 h (by omega)).1
  obtain ⟨_, _, rfl, ⟨code, rfl, w2⟩, _, _, rfl, ⟨syms, rfl, w3, e3⟩, rfl⟩ := ht
  refine spec_of_W hΓ hmix Try.func10 rfl (by decide) rfl ?_
  repeat' (
    (conv => whnf)
    first
    | refine Or.inl ?_
    | refine And.intro (Obl.out (?_ : Obl _)) ?_
    | refine ifB_intro (fun h => ?_) (fun h => ?_)
    | refine call_intro (hsz) (And.intro (And.intro rfl (And.intro rfl trivial)) (And.intro rfl trivial)) ?_
    | refine Exists.intro _ (And.intro rfl ?_)
    | rfl)
  all_goals try exact ⟨rfl⟩
  all_goals try exact ⟨trivial⟩
  all_goals try exact ⟨⟨trivial, trivial⟩⟩
  all_goals try exact ⟨⟨trivial, trivial, trivial⟩⟩
  all_goals try exact ⟨⟨trivial, trivial, trivial, trivial⟩⟩
  all_goals try exact ⟨by decide⟩
  have hs := hsm (Int.not_lt.1 (of_decide_eq_false h))
  have hto := hto hs
  have heq := heq hs
  simp only [List.cons_append, List.nil_append, smallR, smallT] at hs
  have hspec := s_spec_ImageId code syms (by omega)
  have himpl := s_impl_ImageId code syms (by omega)
  repeat' (
    (conv => whnf)
    first
    | refine Or.inl ?_
    | refine And.intro (Obl.out (?_ : Obl _)) ?_
    | refine ifB_intro (fun h => ?_) (fun h => ?_)
    | refine call_intro (hto) (And.intro (And.intro rfl (And.intro rfl trivial)) trivial) ?_
    | refine call_intro (hspec) (And.intro (And.intro rfl (And.intro rfl trivial)) trivial) ?_
    | refine call_intro (himpl) (And.intro (And.intro rfl (And.intro rfl trivial)) trivial) ?_
    | refine call_intro (heq) (And.intro (And.intro rfl (And.intro rfl trivial)) (And.intro (And.intro rfl (And.intro rfl trivial)) trivial)) ?_
    | refine Exists.intro _ (And.intro rfl ?_)
    | rfl)
  all_goals try exact ⟨rfl⟩
  all_goals try exact ⟨trivial⟩
  all_goals try exact ⟨⟨trivial, trivial⟩⟩
  all_goals try exact ⟨⟨trivial, trivial, trivial⟩⟩
  all_goals try exact ⟨⟨trivial, trivial, trivial, trivial⟩⟩
  all_goals try exact ⟨by decide⟩
  all_goals simp at *
end Go.Proofs.Ytcmmadfnhmngnaa
