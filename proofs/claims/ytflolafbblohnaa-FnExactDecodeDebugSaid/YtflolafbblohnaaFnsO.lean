/- The bytes of a debug record: in both texts. -/
import Derived.Test.YtflolafbblohnaaFnsM
namespace Go.Proofs.Ytflolafbblohnaa
open Go.Sim
set_option maxRecDepth 100000
set_option maxHeartbeats 4000000
def sumB (s : List UInt8) : Nat := s.foldl (fun a b => a + b.toNat) 0
theorem s_impl_sumBytes (s : List UInt8) (hs : s.length ≤ 1125899906842624) : Sim.Spec Try.prog 181 [tvS s] (rI (sumB s : Nat)) := by
  refine spec_of_W hΓ hmix Try.func181 rfl (by decide) rfl ?_
  repeat' (
    (conv => whnf)
    first
    | refine Or.inl ?_
    | refine And.intro (Obl.out (?_ : Obl _)) ?_
    | refine ifB_intro (fun h => ?_) (fun h => ?_)
    | refine Exists.intro _ (And.intro rfl ?_)
    | ((with_reducible show _ = _); rfl))
  all_goals try (
    (with_reducible refine Obl.mk ?_)
    first
    | ((with_reducible show regOk _ _ = true); kernel_rfl)
    | ((with_reducible show eqTyOk _ _ = true); kernel_rfl)
    | rfl
    | exact trivial
    | ((repeat' (first | exact trivial | refine And.intro ?_ ?_)); done)
    | decide
    | (intro r hr; simp only [List.mem_cons, List.not_mem_nil, or_false] at hr; first | (subst hr; rfl) | (rcases hr with rfl | rfl <;> rfl) | (rcases hr with rfl | rfl | rfl <;> rfl) | (rcases hr with rfl | rfl | rfl | rfl <;> rfl))
    | (refine And.intro ?_ ?_ <;> simp only [List.length_map, List.length_append, List.length_cons, List.length_nil] <;> omega))
  conv => whnf
  refine ⟨{ q : Nat × Nat // q.1 ≤ s.length ∧ q.2 ≤ 256 * q.1 ∧ (s.drop q.1).foldl (fun a b => a + b.toNat) q.2 = sumB s }, fun q => ⟨[(0, tS s), (3, tI .i64 (q.1.2 : Int)), (4, tI .i64 (q.1.1 : Int))], [], []⟩, fun q => s.length - q.1.1, ⟨(0, 0), by simp, by simp, by simp [sumB]⟩, ?_, ?_⟩
  · skip
    repeat' (
      (conv => whnf)
      first
      | refine Or.inl ?_
      | refine And.intro (Obl.out (?_ : Obl _)) ?_
      | refine ifB_intro (fun h => ?_) (fun h => ?_)
      | refine Exists.intro _ (And.intro rfl ?_)
      | ((with_reducible show _ = _); rfl))
    all_goals try (
      (with_reducible refine Obl.mk ?_)
      first
      | ((with_reducible show regOk _ _ = true); kernel_rfl)
      | ((with_reducible show eqTyOk _ _ = true); kernel_rfl)
      | rfl
      | exact trivial
      | ((repeat' (first | exact trivial | refine And.intro ?_ ?_)); done)
      | decide
      | (intro r hr; simp only [List.mem_cons, List.not_mem_nil, or_false] at hr; first | (subst hr; rfl) | (rcases hr with rfl | rfl <;> rfl) | (rcases hr with rfl | rfl | rfl <;> rfl) | (rcases hr with rfl | rfl | rfl | rfl <;> rfl))
      | (refine And.intro ?_ ?_ <;> simp only [List.length_map, List.length_append, List.length_cons, List.length_nil] <;> omega))
  intro ⟨⟨k, x⟩, hk, h0, hf⟩
  dsimp only at hk h0 hf ⊢
  by_cases hlt : k < s.length
  · obtain ⟨b, hb⟩ := get_of_lt hlt
    rw [drop_at hb, List.foldl_cons] at hf
    have hb8 := b.toNat_lt
    repeat' (
      (conv => whnf)
      first
      | refine Or.inl ?_
      | refine And.intro (Obl.out (?_ : Obl _)) ?_
      | refine ifB_intro (fun h => ?_) (fun h => ?_)
      | refine ⟨k, b, rfl, hb, ?_⟩
      | refine Exists.intro _ (And.intro rfl ?_)
      | ((with_reducible show _ = _); rfl))
    all_goals try (
      (with_reducible refine Obl.mk ?_)
      first
      | ((with_reducible show regOk _ _ = true); kernel_rfl)
      | ((with_reducible show eqTyOk _ _ = true); kernel_rfl)
      | rfl
      | exact trivial
      | ((repeat' (first | exact trivial | refine And.intro ?_ ?_)); done)
      | decide
      | (intro r hr; simp only [List.mem_cons, List.not_mem_nil, or_false] at hr; first | (subst hr; rfl) | (rcases hr with rfl | rfl <;> rfl) | (rcases hr with rfl | rfl | rfl <;> rfl) | (rcases hr with rfl | rfl | rfl | rfl <;> rfl))
      | (refine And.intro ?_ ?_ <;> simp only [List.length_map, List.length_append, List.length_cons, List.length_nil] <;> omega))
    all_goals try (exfalso; simp only [decide_eq_false_iff_not, decide_eq_true_eq] at *; omega)
    conv => whnf
    refine ⟨⟨(k + 1, x + b.toNat), by dsimp only; omega, by dsimp only; omega, hf⟩, ?_, by dsimp only; omega⟩
    repeat' (
      (conv => whnf)
      first
      | refine Or.inl ?_
      | refine And.intro (Obl.out (?_ : Obl _)) ?_
      | refine ifB_intro (fun h => ?_) (fun h => ?_)
      | refine Exists.intro _ (And.intro rfl ?_)
      | ((with_reducible show _ = _); rfl))
    all_goals try (
      (with_reducible refine Obl.mk ?_)
      first
      | ((with_reducible show regOk _ _ = true); kernel_rfl)
      | ((with_reducible show eqTyOk _ _ = true); kernel_rfl)
      | rfl
      | exact trivial
      | ((repeat' (first | exact trivial | refine And.intro ?_ ?_)); done)
      | decide
      | (intro r hr; simp only [List.mem_cons, List.not_mem_nil, or_false] at hr; first | (subst hr; rfl) | (rcases hr with rfl | rfl <;> rfl) | (rcases hr with rfl | rfl | rfl <;> rfl) | (rcases hr with rfl | rfl | rfl | rfl <;> rfl))
      | (refine And.intro ?_ ?_ <;> simp only [List.length_map, List.length_append, List.length_cons, List.length_nil] <;> omega))
    all_goals try exact ⟨by dsimp only; rw [IntWalk.i64_in _ (by omega)]; rfl⟩
    all_goals exact ⟨by dsimp only; rw [IntWalk.i64_in (b.toNat : Int) (by omega), IntWalk.i64_in _ (by omega)]; rfl⟩
  · have hge : s.length ≤ k := by omega
    rw [List.drop_eq_nil_of_le hge] at hf
    repeat' (
      (conv => whnf)
      first
      | refine Or.inl ?_
      | refine And.intro (Obl.out (?_ : Obl _)) ?_
      | refine ifB_intro (fun h => ?_) (fun h => ?_)
      | refine Exists.intro _ (And.intro rfl ?_)
      | ((with_reducible show _ = _); rfl))
    all_goals try (
      (with_reducible refine Obl.mk ?_)
      first
      | ((with_reducible show regOk _ _ = true); kernel_rfl)
      | ((with_reducible show eqTyOk _ _ = true); kernel_rfl)
      | rfl
      | exact trivial
      | ((repeat' (first | exact trivial | refine And.intro ?_ ?_)); done)
      | decide
      | (intro r hr; simp only [List.mem_cons, List.not_mem_nil, or_false] at hr; first | (subst hr; rfl) | (rcases hr with rfl | rfl <;> rfl) | (rcases hr with rfl | rfl | rfl <;> rfl) | (rcases hr with rfl | rfl | rfl | rfl <;> rfl))
      | (refine And.intro ?_ ?_ <;> simp only [List.length_map, List.length_append, List.length_cons, List.length_nil] <;> omega))
    all_goals try (exfalso; simp only [decide_eq_false_iff_not, decide_eq_true_eq] at *; omega)
    all_goals exact ⟨congrArg (fun n : Nat => Tr.int .i64 n) hf⟩
theorem s_spec_l17Sum (s : List UInt8) (hs : s.length ≤ 1125899906842624) : Sim.Spec Try.prog 167 [tvS s] (rI (sumB s : Nat)) := by
  refine spec_of_W hΓ hmix Try.func167 rfl (by decide) rfl ?_
  repeat' (
    (conv => whnf)
    first
    | refine Or.inl ?_
    | refine And.intro (Obl.out (?_ : Obl _)) ?_
    | refine ifB_intro (fun h => ?_) (fun h => ?_)
    | refine Exists.intro _ (And.intro rfl ?_)
    | ((with_reducible show _ = _); rfl))
  all_goals try (
    (with_reducible refine Obl.mk ?_)
    first
    | ((with_reducible show regOk _ _ = true); kernel_rfl)
    | ((with_reducible show eqTyOk _ _ = true); kernel_rfl)
    | rfl
    | exact trivial
    | ((repeat' (first | exact trivial | refine And.intro ?_ ?_)); done)
    | decide
    | (intro r hr; simp only [List.mem_cons, List.not_mem_nil, or_false] at hr; first | (subst hr; rfl) | (rcases hr with rfl | rfl <;> rfl) | (rcases hr with rfl | rfl | rfl <;> rfl) | (rcases hr with rfl | rfl | rfl | rfl <;> rfl))
    | (refine And.intro ?_ ?_ <;> simp only [List.length_map, List.length_append, List.length_cons, List.length_nil] <;> omega))
  conv => whnf
  refine ⟨{ q : Nat × Nat // q.1 ≤ s.length ∧ q.2 ≤ 256 * q.1 ∧ (s.drop q.1).foldl (fun a b => a + b.toNat) q.2 = sumB s }, fun q => ⟨[(0, tS s), (3, tI .i64 (q.1.2 : Int)), (4, tI .i64 (q.1.1 : Int))], [], []⟩, fun q => s.length - q.1.1, ⟨(0, 0), by simp, by simp, by simp [sumB]⟩, ?_, ?_⟩
  · skip
    repeat' (
      (conv => whnf)
      first
      | refine Or.inl ?_
      | refine And.intro (Obl.out (?_ : Obl _)) ?_
      | refine ifB_intro (fun h => ?_) (fun h => ?_)
      | refine Exists.intro _ (And.intro rfl ?_)
      | ((with_reducible show _ = _); rfl))
    all_goals try (
      (with_reducible refine Obl.mk ?_)
      first
      | ((with_reducible show regOk _ _ = true); kernel_rfl)
      | ((with_reducible show eqTyOk _ _ = true); kernel_rfl)
      | rfl
      | exact trivial
      | ((repeat' (first | exact trivial | refine And.intro ?_ ?_)); done)
      | decide
      | (intro r hr; simp only [List.mem_cons, List.not_mem_nil, or_false] at hr; first | (subst hr; rfl) | (rcases hr with rfl | rfl <;> rfl) | (rcases hr with rfl | rfl | rfl <;> rfl) | (rcases hr with rfl | rfl | rfl | rfl <;> rfl))
      | (refine And.intro ?_ ?_ <;> simp only [List.length_map, List.length_append, List.length_cons, List.length_nil] <;> omega))
  intro ⟨⟨k, x⟩, hk, h0, hf⟩
  dsimp only at hk h0 hf ⊢
  by_cases hlt : k < s.length
  · obtain ⟨b, hb⟩ := get_of_lt hlt
    rw [drop_at hb, List.foldl_cons] at hf
    have hb8 := b.toNat_lt
    repeat' (
      (conv => whnf)
      first
      | refine Or.inl ?_
      | refine And.intro (Obl.out (?_ : Obl _)) ?_
      | refine ifB_intro (fun h => ?_) (fun h => ?_)
      | refine ⟨k, b, rfl, hb, ?_⟩
      | refine Exists.intro _ (And.intro rfl ?_)
      | ((with_reducible show _ = _); rfl))
    all_goals try (
      (with_reducible refine Obl.mk ?_)
      first
      | ((with_reducible show regOk _ _ = true); kernel_rfl)
      | ((with_reducible show eqTyOk _ _ = true); kernel_rfl)
      | rfl
      | exact trivial
      | ((repeat' (first | exact trivial | refine And.intro ?_ ?_)); done)
      | decide
      | (intro r hr; simp only [List.mem_cons, List.not_mem_nil, or_false] at hr; first | (subst hr; rfl) | (rcases hr with rfl | rfl <;> rfl) | (rcases hr with rfl | rfl | rfl <;> rfl) | (rcases hr with rfl | rfl | rfl | rfl <;> rfl))
      | (refine And.intro ?_ ?_ <;> simp only [List.length_map, List.length_append, List.length_cons, List.length_nil] <;> omega))
    all_goals try (exfalso; simp only [decide_eq_false_iff_not, decide_eq_true_eq] at *; omega)
    conv => whnf
    refine ⟨⟨(k + 1, x + b.toNat), by dsimp only; omega, by dsimp only; omega, hf⟩, ?_, by dsimp only; omega⟩
    repeat' (
      (conv => whnf)
      first
      | refine Or.inl ?_
      | refine And.intro (Obl.out (?_ : Obl _)) ?_
      | refine ifB_intro (fun h => ?_) (fun h => ?_)
      | refine Exists.intro _ (And.intro rfl ?_)
      | ((with_reducible show _ = _); rfl))
    all_goals try (
      (with_reducible refine Obl.mk ?_)
      first
      | ((with_reducible show regOk _ _ = true); kernel_rfl)
      | ((with_reducible show eqTyOk _ _ = true); kernel_rfl)
      | rfl
      | exact trivial
      | ((repeat' (first | exact trivial | refine And.intro ?_ ?_)); done)
      | decide
      | (intro r hr; simp only [List.mem_cons, List.not_mem_nil, or_false] at hr; first | (subst hr; rfl) | (rcases hr with rfl | rfl <;> rfl) | (rcases hr with rfl | rfl | rfl <;> rfl) | (rcases hr with rfl | rfl | rfl | rfl <;> rfl))
      | (refine And.intro ?_ ?_ <;> simp only [List.length_map, List.length_append, List.length_cons, List.length_nil] <;> omega))
    all_goals try exact ⟨by dsimp only; rw [IntWalk.i64_in _ (by omega)]; rfl⟩
    all_goals exact ⟨by dsimp only; rw [IntWalk.i64_in (b.toNat : Int) (by omega), IntWalk.i64_in _ (by omega)]; rfl⟩
  · have hge : s.length ≤ k := by omega
    rw [List.drop_eq_nil_of_le hge] at hf
    repeat' (
      (conv => whnf)
      first
      | refine Or.inl ?_
      | refine And.intro (Obl.out (?_ : Obl _)) ?_
      | refine ifB_intro (fun h => ?_) (fun h => ?_)
      | refine Exists.intro _ (And.intro rfl ?_)
      | ((with_reducible show _ = _); rfl))
    all_goals try (
      (with_reducible refine Obl.mk ?_)
      first
      | ((with_reducible show regOk _ _ = true); kernel_rfl)
      | ((with_reducible show eqTyOk _ _ = true); kernel_rfl)
      | rfl
      | exact trivial
      | ((repeat' (first | exact trivial | refine And.intro ?_ ?_)); done)
      | decide
      | (intro r hr; simp only [List.mem_cons, List.not_mem_nil, or_false] at hr; first | (subst hr; rfl) | (rcases hr with rfl | rfl <;> rfl) | (rcases hr with rfl | rfl | rfl <;> rfl) | (rcases hr with rfl | rfl | rfl | rfl <;> rfl))
      | (refine And.intro ?_ ?_ <;> simp only [List.length_map, List.length_append, List.length_cons, List.length_nil] <;> omega))
    all_goals try (exfalso; simp only [decide_eq_false_iff_not, decide_eq_true_eq] at *; omega)
    all_goals exact ⟨congrArg (fun n : Nat => Tr.int .i64 n) hf⟩
theorem s_impl_PackTextL (s : List UInt8) (hs : s.length ≤ 1125899906842624) : Sim.Spec Try.prog 179 [tvS s] (rS (enc s.length ++ s)) := by
  refine spec_of_W hΓ hmix Try.func179 rfl (by decide) rfl ?_
  repeat' (
    (conv => whnf)
    first
    | refine Or.inl ?_
    | refine And.intro (Obl.out (?_ : Obl _)) ?_
    | refine ifB_intro (fun h => ?_) (fun h => ?_)
    | refine call_intro (s_impl_EncodeVarint _) (And.intro rfl trivial) ?_
    | refine Exists.intro _ (And.intro rfl ?_)
    | ((with_reducible show _ = _); rfl))
  all_goals try (
    (with_reducible refine Obl.mk ?_)
    first
    | ((with_reducible show regOk _ _ = true); kernel_rfl)
    | ((with_reducible show eqTyOk _ _ = true); kernel_rfl)
    | rfl
    | exact trivial
    | ((repeat' (first | exact trivial | refine And.intro ?_ ?_)); done)
    | decide
    | (intro r hr; simp only [List.mem_cons, List.not_mem_nil, or_false] at hr; first | (subst hr; rfl) | (rcases hr with rfl | rfl <;> rfl) | (rcases hr with rfl | rfl | rfl <;> rfl) | (rcases hr with rfl | rfl | rfl | rfl <;> rfl))
    | (refine And.intro ?_ ?_ <;> simp only [List.length_map, List.length_append, List.length_cons, List.length_nil] <;> omega))
  · exact ⟨by have := enc_len s.length; omega⟩
theorem s_spec_PackTextL (s : List UInt8) (hs : s.length ≤ 1125899906842624) : Sim.Spec Try.prog 165 [tvS s] (rS (enc s.length ++ s)) := by
  refine spec_of_W hΓ hmix Try.func165 rfl (by decide) rfl ?_
  repeat' (
    (conv => whnf)
    first
    | refine Or.inl ?_
    | refine And.intro (Obl.out (?_ : Obl _)) ?_
    | refine ifB_intro (fun h => ?_) (fun h => ?_)
    | refine call_intro (s_spec_EncodeVarint _) (And.intro rfl trivial) ?_
    | refine Exists.intro _ (And.intro rfl ?_)
    | ((with_reducible show _ = _); rfl))
  all_goals try (
    (with_reducible refine Obl.mk ?_)
    first
    | ((with_reducible show regOk _ _ = true); kernel_rfl)
    | ((with_reducible show eqTyOk _ _ = true); kernel_rfl)
    | rfl
    | exact trivial
    | ((repeat' (first | exact trivial | refine And.intro ?_ ?_)); done)
    | decide
    | (intro r hr; simp only [List.mem_cons, List.not_mem_nil, or_false] at hr; first | (subst hr; rfl) | (rcases hr with rfl | rfl <;> rfl) | (rcases hr with rfl | rfl | rfl <;> rfl) | (rcases hr with rfl | rfl | rfl | rfl <;> rfl))
    | (refine And.intro ?_ ?_ <;> simp only [List.length_map, List.length_append, List.length_cons, List.length_nil] <;> omega))
  · exact ⟨by have := enc_len s.length; omega⟩
def encSym (x : TSymbol) : List UInt8 := (enc x.fName.length ++ x.fName) ++ packInts [x.fStart, x.fSize]
def symNear (x : TSymbol) : Bool := within x.fStart 0 1000000 && within x.fSize 0 1000000
def encSyms : List TSymbol → Option (List UInt8)
  | [] => some []
  | x :: l => if symNear x = true then (encSyms l).map (encSym x ++ ·) else none
def pack (s : List UInt8) : List UInt8 := enc s.length ++ s
def dbgTail (d : TDebug) : Option (List UInt8) → List UInt8
  | some s => (((s ++ pack (encodeRules d.fRules)) ++ pack (encodeRows d.fRows)) ++ pack (encodeInlines d.fInlines)) ++ enc (sumB (((s ++ pack (encodeRules d.fRules)) ++ pack (encodeRows d.fRows)) ++ pack (encodeInlines d.fInlines)))
  | none => []
def dbgHead (d : TDebug) : List UInt8 := enc d.fId ++ enc d.fSymbols.length
def encodeDebug (d : TDebug) : List UInt8 :=
  if within d.fId 0 1099511627775 = true then if rulesOk d.fRules = true then if rowsOk d.fRows = true then if inlinesOk d.fInlines = true then dbgTail d ((encSyms d.fSymbols).map (dbgHead d ++ ·)) else [] else [] else [] else []
structure DbgFits (d : TDebug) : Prop where
  syms : d.fSymbols.length ≤ 1048576
  names : ∀ x ∈ d.fSymbols, x.fName.length ≤ 1048576
  rules : d.fRules.length ≤ 1048576
  rows : d.fRows.length ≤ 1048576
  inl : d.fInlines.length ≤ 1048576
  inls : ∀ x ∈ d.fInlines, x.fName.length ≤ 1048576
theorem encSym_len {x : TSymbol} (h : x.fName.length ≤ 1048576) : (encSym x).length ≤ 1048620 := by
  unfold encSym
  have h1 := packInts_len [x.fStart, x.fSize]
  have h2 := enc_len x.fName.length
  simp only [List.length_append, List.length_cons, List.length_nil] at *
  omega
theorem encRules_lenO : ∀ (l : List TRule) (p : Int), (encRulesL p l).length = 4 * l.length
  | [], _ => rfl
  | x :: l, p => by rw [encRulesL]; simp only [List.length_cons, encRules_lenO l]; omega
theorem encodeRules_len {l : List TRule} (h : l.length ≤ 1048576) : (encodeRules l).length ≤ 33554432 := by
  unfold encodeRules
  split
  · have := packInts_len (encRulesL 0 l)
    rw [encRules_lenO] at this
    omega
  · simp
theorem encodeRows_len {l : List TRow} (h : l.length ≤ 1048576) : (encodeRows l).length ≤ 33554432 := by
  unfold encodeRows
  split
  · have := packInts_len (encRowsL row0 l)
    rw [encRowsL_len] at this
    omega
  · simp
theorem flat_len : ∀ (l : List TInline), (∀ x ∈ l, x.fName.length ≤ 1048576) → (l.flatMap encInl).length ≤ 1048620 * l.length
  | [], _ => by simp
  | x :: l, h => by
    have h1 := encInl_len (h x (by simp))
    have h2 := flat_len l fun y hy => h y (by simp [hy])
    simp only [List.flatMap_cons, List.length_append, List.length_cons]
    omega
theorem encodeInlines_len {l : List TInline} (h : l.length ≤ 1048576) (hn : ∀ x ∈ l, x.fName.length ≤ 1048576) : (encodeInlines l).length ≤ 1099558000000 := by
  unfold encodeInlines
  split
  · have h1 := flat_len l hn
    have h2 := enc_len l.length
    rw [List.length_append]
    omega
  · simp
theorem pack_len (s : List UInt8) : (pack s).length ≤ s.length + 6 := by
  unfold pack
  have := enc_len s.length
  rw [List.length_append]; omega
theorem encSyms_at {l : List TSymbol} {k : Nat} {x : TSymbol} {acc : List UInt8} (hx : l[k]? = some x) (hn : symNear x = true) : (encSyms (l.drop k)).map (acc ++ ·) = (encSyms (l.drop (k + 1))).map ((acc ++ encSym x) ++ ·) := by
  rw [drop_at hx, encSyms, if_pos hn]
  cases encSyms (l.drop (k + 1)) with
  | none => rfl
  | some y => simp
theorem encSyms_bad {l : List TSymbol} {k : Nat} {x : TSymbol} {acc : List UInt8} (hx : l[k]? = some x) (hn : symNear x = false) : (encSyms (l.drop k)).map (acc ++ ·) = none := by
  rw [drop_at hx, encSyms, if_neg (by simp [hn])]
  rfl
abbrev DbgIx (d : TDebug) (R : Option (List UInt8)) := { q : Nat × List UInt8 // q.1 ≤ d.fSymbols.length ∧ q.2.length ≤ 1048620 * (q.1 + 1) ∧ (encSyms (d.fSymbols.drop q.1)).map (q.2 ++ ·) = R }
theorem s_impl_EncodeDebug (d : TDebug) (hf : DbgFits d) : Sim.Spec Try.prog 93 [.agg d.tr] (rS (encodeDebug d)) := by
  refine spec_of_W hΓ hmix Try.func93 rfl (by decide) rfl ?_
  have hlen : (d.fSymbols.map TSymbol.tr).length = d.fSymbols.length := by simp
  have c1 := s_impl_between d.fId 0 1099511627775
  have c2 := s_impl_RulesOk d.fRules hf.rules
  have c3 := s_impl_RowsOk d.fRows hf.rows
  have c4 := s_impl_InlinesOk d.fInlines hf.inl fun x hx => by have := hf.inls x hx; omega
  have hsy := hf.syms
  have hel := enc_len ((d.fSymbols.map TSymbol.tr).length : Int)
  have hei := enc_len d.fId
  unfold encodeDebug
  cases h1 : within d.fId 0 1099511627775 with
  | false =>
    rw [h1] at c1
    repeat' (
      (conv => whnf)
      first
      | refine Or.inl ?_
      | refine And.intro (Obl.out (?_ : Obl _)) ?_
      | refine ifB_intro (fun h => ?_) (fun h => ?_)
      | refine call_intro (c1) (And.intro rfl (And.intro rfl (And.intro rfl trivial))) ?_
      | refine Exists.intro _ (And.intro rfl ?_)
      | ((with_reducible show _ = _); rfl))
    all_goals try (
      (with_reducible refine Obl.mk ?_)
      first
      | ((with_reducible show regOk _ _ = true); kernel_rfl)
      | ((with_reducible show eqTyOk _ _ = true); kernel_rfl)
      | rfl
      | exact trivial
      | ((repeat' (first | exact trivial | refine And.intro ?_ ?_)); done)
      | decide
      | (intro r hr; simp only [List.mem_cons, List.not_mem_nil, or_false] at hr; first | (subst hr; rfl) | (rcases hr with rfl | rfl <;> rfl) | (rcases hr with rfl | rfl | rfl <;> rfl) | (rcases hr with rfl | rfl | rfl | rfl <;> rfl))
      | (refine And.intro ?_ ?_ <;> simp only [List.length_map, List.length_append, List.length_cons, List.length_nil] <;> omega))
  | true =>
  rw [h1] at c1; rw [if_pos rfl]
  cases h2 : rulesOk d.fRules with
  | false =>
    rw [h2] at c2
    repeat' (
      (conv => whnf)
      first
      | refine Or.inl ?_
      | refine And.intro (Obl.out (?_ : Obl _)) ?_
      | refine ifB_intro (fun h => ?_) (fun h => ?_)
      | refine call_intro (c1) (And.intro rfl (And.intro rfl (And.intro rfl trivial))) ?_
      | refine call_intro (c2) (And.intro rfl trivial) ?_
      | refine Exists.intro _ (And.intro rfl ?_)
      | ((with_reducible show _ = _); rfl))
    all_goals try (
      (with_reducible refine Obl.mk ?_)
      first
      | ((with_reducible show regOk _ _ = true); kernel_rfl)
      | ((with_reducible show eqTyOk _ _ = true); kernel_rfl)
      | rfl
      | exact trivial
      | ((repeat' (first | exact trivial | refine And.intro ?_ ?_)); done)
      | decide
      | (intro r hr; simp only [List.mem_cons, List.not_mem_nil, or_false] at hr; first | (subst hr; rfl) | (rcases hr with rfl | rfl <;> rfl) | (rcases hr with rfl | rfl | rfl <;> rfl) | (rcases hr with rfl | rfl | rfl | rfl <;> rfl))
      | (refine And.intro ?_ ?_ <;> simp only [List.length_map, List.length_append, List.length_cons, List.length_nil] <;> omega))
  | true =>
  rw [h2] at c2; rw [if_pos rfl]
  cases h3 : rowsOk d.fRows with
  | false =>
    rw [h3] at c3
    repeat' (
      (conv => whnf)
      first
      | refine Or.inl ?_
      | refine And.intro (Obl.out (?_ : Obl _)) ?_
      | refine ifB_intro (fun h => ?_) (fun h => ?_)
      | refine call_intro (c1) (And.intro rfl (And.intro rfl (And.intro rfl trivial))) ?_
      | refine call_intro (c2) (And.intro rfl trivial) ?_
      | refine call_intro (c3) (And.intro rfl trivial) ?_
      | refine Exists.intro _ (And.intro rfl ?_)
      | ((with_reducible show _ = _); rfl))
    all_goals try (
      (with_reducible refine Obl.mk ?_)
      first
      | ((with_reducible show regOk _ _ = true); kernel_rfl)
      | ((with_reducible show eqTyOk _ _ = true); kernel_rfl)
      | rfl
      | exact trivial
      | ((repeat' (first | exact trivial | refine And.intro ?_ ?_)); done)
      | decide
      | (intro r hr; simp only [List.mem_cons, List.not_mem_nil, or_false] at hr; first | (subst hr; rfl) | (rcases hr with rfl | rfl <;> rfl) | (rcases hr with rfl | rfl | rfl <;> rfl) | (rcases hr with rfl | rfl | rfl | rfl <;> rfl))
      | (refine And.intro ?_ ?_ <;> simp only [List.length_map, List.length_append, List.length_cons, List.length_nil] <;> omega))
  | true =>
  rw [h3] at c3; rw [if_pos rfl]
  cases h4 : inlinesOk d.fInlines with
  | false =>
    rw [h4] at c4
    repeat' (
      (conv => whnf)
      first
      | refine Or.inl ?_
      | refine And.intro (Obl.out (?_ : Obl _)) ?_
      | refine ifB_intro (fun h => ?_) (fun h => ?_)
      | refine call_intro (c1) (And.intro rfl (And.intro rfl (And.intro rfl trivial))) ?_
      | refine call_intro (c2) (And.intro rfl trivial) ?_
      | refine call_intro (c3) (And.intro rfl trivial) ?_
      | refine call_intro (c4) (And.intro rfl trivial) ?_
      | refine Exists.intro _ (And.intro rfl ?_)
      | ((with_reducible show _ = _); rfl))
    all_goals try (
      (with_reducible refine Obl.mk ?_)
      first
      | ((with_reducible show regOk _ _ = true); kernel_rfl)
      | ((with_reducible show eqTyOk _ _ = true); kernel_rfl)
      | rfl
      | exact trivial
      | ((repeat' (first | exact trivial | refine And.intro ?_ ?_)); done)
      | decide
      | (intro r hr; simp only [List.mem_cons, List.not_mem_nil, or_false] at hr; first | (subst hr; rfl) | (rcases hr with rfl | rfl <;> rfl) | (rcases hr with rfl | rfl | rfl <;> rfl) | (rcases hr with rfl | rfl | rfl | rfl <;> rfl))
      | (refine And.intro ?_ ?_ <;> simp only [List.length_map, List.length_append, List.length_cons, List.length_nil] <;> omega))
  | true =>
  rw [h4] at c4; rw [if_pos rfl]
  obtain ⟨R, hR⟩ : ∃ R, (encSyms d.fSymbols).map (dbgHead d ++ ·) = R := ⟨_, rfl⟩
  rw [hR]
  repeat' (
    (conv => whnf)
    first
    | refine Or.inl ?_
    | refine And.intro (Obl.out (?_ : Obl _)) ?_
    | refine ifB_intro (fun h => ?_) (fun h => ?_)
    | refine call_intro (c1) (And.intro rfl (And.intro rfl (And.intro rfl trivial))) ?_
    | refine call_intro (c2) (And.intro rfl trivial) ?_
    | refine call_intro (c3) (And.intro rfl trivial) ?_
    | refine call_intro (c4) (And.intro rfl trivial) ?_
    | refine call_intro (s_impl_EncodeVarint _) (And.intro rfl trivial) ?_
    | refine call_intro (s_impl_EncodeVarint _) (And.intro rfl trivial) ?_
    | refine Exists.intro _ (And.intro rfl ?_)
    | ((with_reducible show _ = _); rfl))
  all_goals try (
    (with_reducible refine Obl.mk ?_)
    first
    | ((with_reducible show regOk _ _ = true); kernel_rfl)
    | ((with_reducible show eqTyOk _ _ = true); kernel_rfl)
    | rfl
    | exact trivial
    | ((repeat' (first | exact trivial | refine And.intro ?_ ?_)); done)
    | decide
    | (intro r hr; simp only [List.mem_cons, List.not_mem_nil, or_false] at hr; first | (subst hr; rfl) | (rcases hr with rfl | rfl <;> rfl) | (rcases hr with rfl | rfl | rfl <;> rfl) | (rcases hr with rfl | rfl | rfl | rfl <;> rfl))
    | (refine And.intro ?_ ?_ <;> simp only [List.length_map, List.length_append, List.length_cons, List.length_nil] <;> omega))
  · exact ⟨by omega⟩
  conv => whnf
  refine ⟨DbgIx d R, fun q => ⟨[(1, .r (.c (.ptr (1, 0, 0) 0))), (3, tS q.1.2), (37, .r (.c (.t (.lst 3 (d.fSymbols.map TSymbol.tr))))), (38, tI .i64 ((d.fSymbols.map TSymbol.tr).length : Int)), (39, tI .i64 (q.1.1 : Int))], [((1, 0, 0), some (.box [.t (.int .i64 d.fId), .t (.lst 3 (d.fSymbols.map TSymbol.tr)), .t (.lst 4 (d.fRules.map TRule.tr)), .t (.lst 3 (d.fRows.map TRow.tr)), .t (.lst 5 (d.fInlines.map TInline.tr))]))], [1]⟩, fun q => d.fSymbols.length - q.1.1, ⟨(0, dbgHead d), by simp, by unfold dbgHead; simp only [List.length_append]; rw [hlen] at hel; omega, hR⟩, ?_, ?_⟩
  · skip
    repeat' (
      (conv => whnf)
      first
      | refine Or.inl ?_
      | refine And.intro (Obl.out (?_ : Obl _)) ?_
      | refine ifB_intro (fun h => ?_) (fun h => ?_)
      | refine Exists.intro _ (And.intro rfl ?_)
      | ((with_reducible show _ = _); rfl))
    all_goals try (
      (with_reducible refine Obl.mk ?_)
      first
      | ((with_reducible show regOk _ _ = true); kernel_rfl)
      | ((with_reducible show eqTyOk _ _ = true); kernel_rfl)
      | rfl
      | exact trivial
      | ((repeat' (first | exact trivial | refine And.intro ?_ ?_)); done)
      | decide
      | (intro r hr; simp only [List.mem_cons, List.not_mem_nil, or_false] at hr; first | (subst hr; rfl) | (rcases hr with rfl | rfl <;> rfl) | (rcases hr with rfl | rfl | rfl <;> rfl) | (rcases hr with rfl | rfl | rfl | rfl <;> rfl))
      | (refine And.intro ?_ ?_ <;> simp only [List.length_map, List.length_append, List.length_cons, List.length_nil] <;> omega))
    all_goals exact ⟨congrArg Tr.str (show enc d.fId ++ enc ((d.fSymbols.map TSymbol.tr).length : Int) = enc d.fId ++ enc (d.fSymbols.length : Int) by rw [hlen])⟩
  intro ⟨⟨k, acc⟩, hk, hal, hr⟩
  dsimp only at hk hal hr ⊢
  by_cases hlt : k < d.fSymbols.length
  · obtain ⟨x, hx⟩ := get_of_lt hlt
    have hxn := hf.names x (List.mem_of_getElem? hx)
    have e1 := s_impl_between x.fStart 0 1000000
    have e2 := s_impl_between x.fSize 0 1000000
    cases m1 : within x.fStart 0 1000000 with
    | false =>
      rw [m1] at e1
      rw [encSyms_bad hx (by simp [symNear, m1])] at hr
      subst hr
      repeat' (
        (conv => whnf)
        first
        | refine Or.inl ?_
        | refine And.intro (Obl.out (?_ : Obl _)) ?_
        | refine ifB_intro (fun h => ?_) (fun h => ?_)
        | refine ⟨k, x.tr, rfl, map_get hx, ?_⟩
        | refine call_intro (e1) (And.intro rfl (And.intro rfl (And.intro rfl trivial))) ?_
        | refine Exists.intro _ (And.intro rfl ?_)
        | ((with_reducible show _ = _); rfl))
      all_goals try (
        (with_reducible refine Obl.mk ?_)
        first
        | ((with_reducible show regOk _ _ = true); kernel_rfl)
        | ((with_reducible show eqTyOk _ _ = true); kernel_rfl)
        | rfl
        | exact trivial
        | ((repeat' (first | exact trivial | refine And.intro ?_ ?_)); done)
        | decide
        | (intro r hr; simp only [List.mem_cons, List.not_mem_nil, or_false] at hr; first | (subst hr; rfl) | (rcases hr with rfl | rfl <;> rfl) | (rcases hr with rfl | rfl | rfl <;> rfl) | (rcases hr with rfl | rfl | rfl | rfl <;> rfl))
        | (refine And.intro ?_ ?_ <;> simp only [List.length_map, List.length_append, List.length_cons, List.length_nil] <;> omega))
      all_goals try (exfalso; simp only [decide_eq_false_iff_not, decide_eq_true_eq] at *; omega)
    | true =>
    rw [m1] at e1
    cases m2 : within x.fSize 0 1000000 with
    | false =>
      rw [m2] at e2
      rw [encSyms_bad hx (by simp [symNear, m2])] at hr
      subst hr
      repeat' (
        (conv => whnf)
        first
        | refine Or.inl ?_
        | refine And.intro (Obl.out (?_ : Obl _)) ?_
        | refine ifB_intro (fun h => ?_) (fun h => ?_)
        | refine ⟨k, x.tr, rfl, map_get hx, ?_⟩
        | refine call_intro (e1) (And.intro rfl (And.intro rfl (And.intro rfl trivial))) ?_
        | refine call_intro (e2) (And.intro rfl (And.intro rfl (And.intro rfl trivial))) ?_
        | refine Exists.intro _ (And.intro rfl ?_)
        | ((with_reducible show _ = _); rfl))
      all_goals try (
        (with_reducible refine Obl.mk ?_)
        first
        | ((with_reducible show regOk _ _ = true); kernel_rfl)
        | ((with_reducible show eqTyOk _ _ = true); kernel_rfl)
        | rfl
        | exact trivial
        | ((repeat' (first | exact trivial | refine And.intro ?_ ?_)); done)
        | decide
        | (intro r hr; simp only [List.mem_cons, List.not_mem_nil, or_false] at hr; first | (subst hr; rfl) | (rcases hr with rfl | rfl <;> rfl) | (rcases hr with rfl | rfl | rfl <;> rfl) | (rcases hr with rfl | rfl | rfl | rfl <;> rfl))
        | (refine And.intro ?_ ?_ <;> simp only [List.length_map, List.length_append, List.length_cons, List.length_nil] <;> omega))
      all_goals try (exfalso; simp only [decide_eq_false_iff_not, decide_eq_true_eq] at *; omega)
    | true =>
      rw [m2] at e2
      rw [encSyms_at hx (by simp [symNear, m1, m2])] at hr
      have hxl := encSym_len hxn
      have hP := s_impl_PackInts [x.fStart, x.fSize] (by simp)
      have hT := s_impl_PackText x.fName hxn
      have hxl2 := hxl
      unfold encSym at hxl2
      simp only [List.length_append] at hxl2
      repeat' (
        (conv => whnf)
        first
        | refine Or.inl ?_
        | refine And.intro (Obl.out (?_ : Obl _)) ?_
        | refine ifB_intro (fun h => ?_) (fun h => ?_)
        | refine ⟨k, x.tr, rfl, map_get hx, ?_⟩
        | refine call_intro (e1) (And.intro rfl (And.intro rfl (And.intro rfl trivial))) ?_
        | refine call_intro (e2) (And.intro rfl (And.intro rfl (And.intro rfl trivial))) ?_
        | refine call_intro (hP) (And.intro rfl trivial) ?_
        | refine call_intro (hT) (And.intro rfl trivial) ?_
        | refine Exists.intro _ (And.intro rfl ?_)
        | ((with_reducible show _ = _); rfl))
      all_goals try (
        (with_reducible refine Obl.mk ?_)
        first
        | ((with_reducible show regOk _ _ = true); kernel_rfl)
        | ((with_reducible show eqTyOk _ _ = true); kernel_rfl)
        | rfl
        | exact trivial
        | ((repeat' (first | exact trivial | refine And.intro ?_ ?_)); done)
        | decide
        | (intro r hr; simp only [List.mem_cons, List.not_mem_nil, or_false] at hr; first | (subst hr; rfl) | (rcases hr with rfl | rfl <;> rfl) | (rcases hr with rfl | rfl | rfl <;> rfl) | (rcases hr with rfl | rfl | rfl | rfl <;> rfl))
        | (refine And.intro ?_ ?_ <;> simp only [List.length_map, List.length_append, List.length_cons, List.length_nil] <;> omega))
      all_goals try (exfalso; simp only [decide_eq_false_iff_not, decide_eq_true_eq] at *; omega)
      all_goals try exact ⟨by (try simp only [List.length_append]); omega⟩
      conv => whnf
      refine ⟨⟨(k + 1, acc ++ encSym x), by dsimp only; omega, by rw [List.length_append]; dsimp only; omega, hr⟩, ?_, by dsimp only; omega⟩
      repeat' (
        (conv => whnf)
        first
        | refine Or.inl ?_
        | refine And.intro (Obl.out (?_ : Obl _)) ?_
        | refine ifB_intro (fun h => ?_) (fun h => ?_)
        | refine Exists.intro _ (And.intro rfl ?_)
        | ((with_reducible show _ = _); rfl))
      all_goals try (
        (with_reducible refine Obl.mk ?_)
        first
        | ((with_reducible show regOk _ _ = true); kernel_rfl)
        | ((with_reducible show eqTyOk _ _ = true); kernel_rfl)
        | rfl
        | exact trivial
        | ((repeat' (first | exact trivial | refine And.intro ?_ ?_)); done)
        | decide
        | (intro r hr; simp only [List.mem_cons, List.not_mem_nil, or_false] at hr; first | (subst hr; rfl) | (rcases hr with rfl | rfl <;> rfl) | (rcases hr with rfl | rfl | rfl <;> rfl) | (rcases hr with rfl | rfl | rfl | rfl <;> rfl))
        | (refine And.intro ?_ ?_ <;> simp only [List.length_map, List.length_append, List.length_cons, List.length_nil] <;> omega))
      all_goals try exact ⟨by dsimp only; rw [IntWalk.i64_in _ (by omega)]; rfl⟩
  · have hge : d.fSymbols.length ≤ k := by omega
    rw [List.drop_eq_nil_of_le hge] at hr
    simp only [encSyms, Option.map_some, List.append_nil] at hr
    subst hr
    have g1 := s_impl_EncodeRules d.fRules hf.rules
    have g2 := s_impl_EncodeRows d.fRows hf.rows
    have g3 := s_impl_EncodeInlines d.fInlines hf.inl hf.inls
    have l1 := encodeRules_len hf.rules
    have l2 := encodeRows_len hf.rows
    have l3 := encodeInlines_len hf.inl hf.inls
    have p1 : Sim.Spec Try.prog 179 _ (rS (pack _)) := s_impl_PackTextL (encodeRules d.fRules) (by omega)
    have p2 : Sim.Spec Try.prog 179 _ (rS (pack _)) := s_impl_PackTextL (encodeRows d.fRows) (by omega)
    have p3 : Sim.Spec Try.prog 179 _ (rS (pack _)) := s_impl_PackTextL (encodeInlines d.fInlines) (by omega)
    have n1 := pack_len (encodeRules d.fRules)
    have n2 := pack_len (encodeRows d.fRows)
    have n3 := pack_len (encodeInlines d.fInlines)
    have hX : acc ++ ((pack (encodeRules d.fRules) ++ pack (encodeRows d.fRows)) ++ pack (encodeInlines d.fInlines)) = ((acc ++ pack (encodeRules d.fRules)) ++ pack (encodeRows d.fRows)) ++ pack (encodeInlines d.fInlines) := by simp
    have hD : dbgTail d (some acc) = (acc ++ ((pack (encodeRules d.fRules) ++ pack (encodeRows d.fRows)) ++ pack (encodeInlines d.fInlines))) ++ enc (sumB (acc ++ ((pack (encodeRules d.fRules) ++ pack (encodeRows d.fRows)) ++ pack (encodeInlines d.fInlines)))) := by
      rw [hX]; rfl
    rw [hD]
    clear hD hX
    generalize pack (encodeRules d.fRules) = A at *
    generalize pack (encodeRows d.fRows) = B at *
    generalize pack (encodeInlines d.fInlines) = C at *
    have hXl : (acc ++ ((A ++ B) ++ C)).length ≤ 1125899906842624 := by simp only [List.length_append]; omega
    have hXe := enc_len (sumB (acc ++ ((A ++ B) ++ C)))
    have hS := s_impl_sumBytes _ hXl
    repeat' (
      (conv => whnf)
      first
      | refine Or.inl ?_
      | refine And.intro (Obl.out (?_ : Obl _)) ?_
      | refine ifB_intro (fun h => ?_) (fun h => ?_)
      | refine call_intro (g1) (And.intro rfl trivial) ?_
      | refine call_intro (p1) (And.intro rfl trivial) ?_
      | refine call_intro (g2) (And.intro rfl trivial) ?_
      | refine call_intro (p2) (And.intro rfl trivial) ?_
      | refine call_intro (g3) (And.intro rfl trivial) ?_
      | refine call_intro (p3) (And.intro rfl trivial) ?_
      | refine call_intro (hS) (And.intro rfl trivial) ?_
      | refine call_intro (s_impl_EncodeVarint _) (And.intro rfl trivial) ?_
      | refine Exists.intro _ (And.intro rfl ?_)
      | ((with_reducible show _ = _); rfl))
    all_goals try (
      (with_reducible refine Obl.mk ?_)
      first
      | ((with_reducible show regOk _ _ = true); kernel_rfl)
      | ((with_reducible show eqTyOk _ _ = true); kernel_rfl)
      | rfl
      | exact trivial
      | ((repeat' (first | exact trivial | refine And.intro ?_ ?_)); done)
      | decide
      | (intro r hr; simp only [List.mem_cons, List.not_mem_nil, or_false] at hr; first | (subst hr; rfl) | (rcases hr with rfl | rfl <;> rfl) | (rcases hr with rfl | rfl | rfl <;> rfl) | (rcases hr with rfl | rfl | rfl | rfl <;> rfl))
      | (refine And.intro ?_ ?_ <;> simp only [List.length_map, List.length_append, List.length_cons, List.length_nil] <;> omega))
    all_goals try (exfalso; simp only [decide_eq_false_iff_not, decide_eq_true_eq] at *; omega)
    all_goals try exact ⟨by (try simp only [List.length_append]); omega⟩
    all_goals try exact ⟨by simp only [List.length_append] at *; omega⟩
theorem s_spec_EncodeDebug (d : TDebug) (hf : DbgFits d) : Sim.Spec Try.prog 86 [.agg d.tr] (rS (encodeDebug d)) := by
  refine spec_of_W hΓ hmix Try.func86 rfl (by decide) rfl ?_
  have hlen : (d.fSymbols.map TSymbol.tr).length = d.fSymbols.length := by simp
  have c1 := s_spec_l01In d.fId 0 1099511627775
  have c2 := s_spec_RulesOk d.fRules hf.rules
  have c3 := s_spec_RowsOk d.fRows hf.rows
  have c4 := s_spec_InlinesOk d.fInlines hf.inl fun x hx => by have := hf.inls x hx; omega
  have hsy := hf.syms
  have hel := enc_len ((d.fSymbols.map TSymbol.tr).length : Int)
  have hei := enc_len d.fId
  unfold encodeDebug
  cases h1 : within d.fId 0 1099511627775 with
  | false =>
    rw [h1] at c1
    repeat' (
      (conv => whnf)
      first
      | refine Or.inl ?_
      | refine And.intro (Obl.out (?_ : Obl _)) ?_
      | refine ifB_intro (fun h => ?_) (fun h => ?_)
      | refine call_intro (c1) (And.intro rfl (And.intro rfl (And.intro rfl trivial))) ?_
      | refine Exists.intro _ (And.intro rfl ?_)
      | ((with_reducible show _ = _); rfl))
    all_goals try (
      (with_reducible refine Obl.mk ?_)
      first
      | ((with_reducible show regOk _ _ = true); kernel_rfl)
      | ((with_reducible show eqTyOk _ _ = true); kernel_rfl)
      | rfl
      | exact trivial
      | ((repeat' (first | exact trivial | refine And.intro ?_ ?_)); done)
      | decide
      | (intro r hr; simp only [List.mem_cons, List.not_mem_nil, or_false] at hr; first | (subst hr; rfl) | (rcases hr with rfl | rfl <;> rfl) | (rcases hr with rfl | rfl | rfl <;> rfl) | (rcases hr with rfl | rfl | rfl | rfl <;> rfl))
      | (refine And.intro ?_ ?_ <;> simp only [List.length_map, List.length_append, List.length_cons, List.length_nil] <;> omega))
  | true =>
  rw [h1] at c1; rw [if_pos rfl]
  cases h2 : rulesOk d.fRules with
  | false =>
    rw [h2] at c2
    repeat' (
      (conv => whnf)
      first
      | refine Or.inl ?_
      | refine And.intro (Obl.out (?_ : Obl _)) ?_
      | refine ifB_intro (fun h => ?_) (fun h => ?_)
      | refine call_intro (c1) (And.intro rfl (And.intro rfl (And.intro rfl trivial))) ?_
      | refine call_intro (c2) (And.intro rfl trivial) ?_
      | refine Exists.intro _ (And.intro rfl ?_)
      | ((with_reducible show _ = _); rfl))
    all_goals try (
      (with_reducible refine Obl.mk ?_)
      first
      | ((with_reducible show regOk _ _ = true); kernel_rfl)
      | ((with_reducible show eqTyOk _ _ = true); kernel_rfl)
      | rfl
      | exact trivial
      | ((repeat' (first | exact trivial | refine And.intro ?_ ?_)); done)
      | decide
      | (intro r hr; simp only [List.mem_cons, List.not_mem_nil, or_false] at hr; first | (subst hr; rfl) | (rcases hr with rfl | rfl <;> rfl) | (rcases hr with rfl | rfl | rfl <;> rfl) | (rcases hr with rfl | rfl | rfl | rfl <;> rfl))
      | (refine And.intro ?_ ?_ <;> simp only [List.length_map, List.length_append, List.length_cons, List.length_nil] <;> omega))
  | true =>
  rw [h2] at c2; rw [if_pos rfl]
  cases h3 : rowsOk d.fRows with
  | false =>
    rw [h3] at c3
    repeat' (
      (conv => whnf)
      first
      | refine Or.inl ?_
      | refine And.intro (Obl.out (?_ : Obl _)) ?_
      | refine ifB_intro (fun h => ?_) (fun h => ?_)
      | refine call_intro (c1) (And.intro rfl (And.intro rfl (And.intro rfl trivial))) ?_
      | refine call_intro (c2) (And.intro rfl trivial) ?_
      | refine call_intro (c3) (And.intro rfl trivial) ?_
      | refine Exists.intro _ (And.intro rfl ?_)
      | ((with_reducible show _ = _); rfl))
    all_goals try (
      (with_reducible refine Obl.mk ?_)
      first
      | ((with_reducible show regOk _ _ = true); kernel_rfl)
      | ((with_reducible show eqTyOk _ _ = true); kernel_rfl)
      | rfl
      | exact trivial
      | ((repeat' (first | exact trivial | refine And.intro ?_ ?_)); done)
      | decide
      | (intro r hr; simp only [List.mem_cons, List.not_mem_nil, or_false] at hr; first | (subst hr; rfl) | (rcases hr with rfl | rfl <;> rfl) | (rcases hr with rfl | rfl | rfl <;> rfl) | (rcases hr with rfl | rfl | rfl | rfl <;> rfl))
      | (refine And.intro ?_ ?_ <;> simp only [List.length_map, List.length_append, List.length_cons, List.length_nil] <;> omega))
  | true =>
  rw [h3] at c3; rw [if_pos rfl]
  cases h4 : inlinesOk d.fInlines with
  | false =>
    rw [h4] at c4
    repeat' (
      (conv => whnf)
      first
      | refine Or.inl ?_
      | refine And.intro (Obl.out (?_ : Obl _)) ?_
      | refine ifB_intro (fun h => ?_) (fun h => ?_)
      | refine call_intro (c1) (And.intro rfl (And.intro rfl (And.intro rfl trivial))) ?_
      | refine call_intro (c2) (And.intro rfl trivial) ?_
      | refine call_intro (c3) (And.intro rfl trivial) ?_
      | refine call_intro (c4) (And.intro rfl trivial) ?_
      | refine Exists.intro _ (And.intro rfl ?_)
      | ((with_reducible show _ = _); rfl))
    all_goals try (
      (with_reducible refine Obl.mk ?_)
      first
      | ((with_reducible show regOk _ _ = true); kernel_rfl)
      | ((with_reducible show eqTyOk _ _ = true); kernel_rfl)
      | rfl
      | exact trivial
      | ((repeat' (first | exact trivial | refine And.intro ?_ ?_)); done)
      | decide
      | (intro r hr; simp only [List.mem_cons, List.not_mem_nil, or_false] at hr; first | (subst hr; rfl) | (rcases hr with rfl | rfl <;> rfl) | (rcases hr with rfl | rfl | rfl <;> rfl) | (rcases hr with rfl | rfl | rfl | rfl <;> rfl))
      | (refine And.intro ?_ ?_ <;> simp only [List.length_map, List.length_append, List.length_cons, List.length_nil] <;> omega))
  | true =>
  rw [h4] at c4; rw [if_pos rfl]
  obtain ⟨R, hR⟩ : ∃ R, (encSyms d.fSymbols).map (dbgHead d ++ ·) = R := ⟨_, rfl⟩
  rw [hR]
  repeat' (
    (conv => whnf)
    first
    | refine Or.inl ?_
    | refine And.intro (Obl.out (?_ : Obl _)) ?_
    | refine ifB_intro (fun h => ?_) (fun h => ?_)
    | refine call_intro (c1) (And.intro rfl (And.intro rfl (And.intro rfl trivial))) ?_
    | refine call_intro (c2) (And.intro rfl trivial) ?_
    | refine call_intro (c3) (And.intro rfl trivial) ?_
    | refine call_intro (c4) (And.intro rfl trivial) ?_
    | refine call_intro (s_spec_EncodeVarint _) (And.intro rfl trivial) ?_
    | refine call_intro (s_spec_EncodeVarint _) (And.intro rfl trivial) ?_
    | refine Exists.intro _ (And.intro rfl ?_)
    | ((with_reducible show _ = _); rfl))
  all_goals try (
    (with_reducible refine Obl.mk ?_)
    first
    | ((with_reducible show regOk _ _ = true); kernel_rfl)
    | ((with_reducible show eqTyOk _ _ = true); kernel_rfl)
    | rfl
    | exact trivial
    | ((repeat' (first | exact trivial | refine And.intro ?_ ?_)); done)
    | decide
    | (intro r hr; simp only [List.mem_cons, List.not_mem_nil, or_false] at hr; first | (subst hr; rfl) | (rcases hr with rfl | rfl <;> rfl) | (rcases hr with rfl | rfl | rfl <;> rfl) | (rcases hr with rfl | rfl | rfl | rfl <;> rfl))
    | (refine And.intro ?_ ?_ <;> simp only [List.length_map, List.length_append, List.length_cons, List.length_nil] <;> omega))
  · exact ⟨by omega⟩
  conv => whnf
  refine ⟨DbgIx d R, fun q => ⟨[(1, .r (.c (.ptr (1, 0, 0) 0))), (3, tS q.1.2), (4, tI .i64 (q.1.1 : Int))], [((1, 0, 0), some (.box [.t (.int .i64 d.fId), .t (.lst 3 (d.fSymbols.map TSymbol.tr)), .t (.lst 4 (d.fRules.map TRule.tr)), .t (.lst 3 (d.fRows.map TRow.tr)), .t (.lst 5 (d.fInlines.map TInline.tr))]))], [1]⟩, fun q => d.fSymbols.length - q.1.1, ⟨(0, dbgHead d), by simp, by unfold dbgHead; simp only [List.length_append]; rw [hlen] at hel; omega, hR⟩, ?_, ?_⟩
  · skip
    repeat' (
      (conv => whnf)
      first
      | refine Or.inl ?_
      | refine And.intro (Obl.out (?_ : Obl _)) ?_
      | refine ifB_intro (fun h => ?_) (fun h => ?_)
      | refine Exists.intro _ (And.intro rfl ?_)
      | ((with_reducible show _ = _); rfl))
    all_goals try (
      (with_reducible refine Obl.mk ?_)
      first
      | ((with_reducible show regOk _ _ = true); kernel_rfl)
      | ((with_reducible show eqTyOk _ _ = true); kernel_rfl)
      | rfl
      | exact trivial
      | ((repeat' (first | exact trivial | refine And.intro ?_ ?_)); done)
      | decide
      | (intro r hr; simp only [List.mem_cons, List.not_mem_nil, or_false] at hr; first | (subst hr; rfl) | (rcases hr with rfl | rfl <;> rfl) | (rcases hr with rfl | rfl | rfl <;> rfl) | (rcases hr with rfl | rfl | rfl | rfl <;> rfl))
      | (refine And.intro ?_ ?_ <;> simp only [List.length_map, List.length_append, List.length_cons, List.length_nil] <;> omega))
    all_goals exact ⟨congrArg Tr.str (show enc d.fId ++ enc ((d.fSymbols.map TSymbol.tr).length : Int) = enc d.fId ++ enc (d.fSymbols.length : Int) by rw [hlen])⟩
  intro ⟨⟨k, acc⟩, hk, hal, hr⟩
  dsimp only at hk hal hr ⊢
  by_cases hlt : k < d.fSymbols.length
  · obtain ⟨x, hx⟩ := get_of_lt hlt
    have hxn := hf.names x (List.mem_of_getElem? hx)
    have e1 := s_spec_l01In x.fStart 0 1000000
    have e2 := s_spec_l01In x.fSize 0 1000000
    cases m1 : within x.fStart 0 1000000 with
    | false =>
      rw [m1] at e1
      rw [encSyms_bad hx (by simp [symNear, m1])] at hr
      subst hr
      repeat' (
        (conv => whnf)
        first
        | refine Or.inl ?_
        | refine And.intro (Obl.out (?_ : Obl _)) ?_
        | refine ifB_intro (fun h => ?_) (fun h => ?_)
        | refine ⟨k, x.tr, rfl, map_get hx, ?_⟩
        | refine call_intro (e1) (And.intro rfl (And.intro rfl (And.intro rfl trivial))) ?_
        | refine Exists.intro _ (And.intro rfl ?_)
        | ((with_reducible show _ = _); rfl))
      all_goals try (
        (with_reducible refine Obl.mk ?_)
        first
        | ((with_reducible show regOk _ _ = true); kernel_rfl)
        | ((with_reducible show eqTyOk _ _ = true); kernel_rfl)
        | rfl
        | exact trivial
        | ((repeat' (first | exact trivial | refine And.intro ?_ ?_)); done)
        | decide
        | (intro r hr; simp only [List.mem_cons, List.not_mem_nil, or_false] at hr; first | (subst hr; rfl) | (rcases hr with rfl | rfl <;> rfl) | (rcases hr with rfl | rfl | rfl <;> rfl) | (rcases hr with rfl | rfl | rfl | rfl <;> rfl))
        | (refine And.intro ?_ ?_ <;> simp only [List.length_map, List.length_append, List.length_cons, List.length_nil] <;> omega))
      all_goals try (exfalso; simp only [decide_eq_false_iff_not, decide_eq_true_eq] at *; omega)
    | true =>
    rw [m1] at e1
    cases m2 : within x.fSize 0 1000000 with
    | false =>
      rw [m2] at e2
      rw [encSyms_bad hx (by simp [symNear, m2])] at hr
      subst hr
      repeat' (
        (conv => whnf)
        first
        | refine Or.inl ?_
        | refine And.intro (Obl.out (?_ : Obl _)) ?_
        | refine ifB_intro (fun h => ?_) (fun h => ?_)
        | refine ⟨k, x.tr, rfl, map_get hx, ?_⟩
        | refine call_intro (e1) (And.intro rfl (And.intro rfl (And.intro rfl trivial))) ?_
        | refine call_intro (e2) (And.intro rfl (And.intro rfl (And.intro rfl trivial))) ?_
        | refine Exists.intro _ (And.intro rfl ?_)
        | ((with_reducible show _ = _); rfl))
      all_goals try (
        (with_reducible refine Obl.mk ?_)
        first
        | ((with_reducible show regOk _ _ = true); kernel_rfl)
        | ((with_reducible show eqTyOk _ _ = true); kernel_rfl)
        | rfl
        | exact trivial
        | ((repeat' (first | exact trivial | refine And.intro ?_ ?_)); done)
        | decide
        | (intro r hr; simp only [List.mem_cons, List.not_mem_nil, or_false] at hr; first | (subst hr; rfl) | (rcases hr with rfl | rfl <;> rfl) | (rcases hr with rfl | rfl | rfl <;> rfl) | (rcases hr with rfl | rfl | rfl | rfl <;> rfl))
        | (refine And.intro ?_ ?_ <;> simp only [List.length_map, List.length_append, List.length_cons, List.length_nil] <;> omega))
      all_goals try (exfalso; simp only [decide_eq_false_iff_not, decide_eq_true_eq] at *; omega)
    | true =>
      rw [m2] at e2
      rw [encSyms_at hx (by simp [symNear, m1, m2])] at hr
      have hxl := encSym_len hxn
      have hP := s_spec_PackInts [x.fStart, x.fSize] (by simp)
      have hT := s_spec_PackText x.fName hxn
      have hxl2 := hxl
      unfold encSym at hxl2
      simp only [List.length_append] at hxl2
      repeat' (
        (conv => whnf)
        first
        | refine Or.inl ?_
        | refine And.intro (Obl.out (?_ : Obl _)) ?_
        | refine ifB_intro (fun h => ?_) (fun h => ?_)
        | refine ⟨k, x.tr, rfl, map_get hx, ?_⟩
        | refine call_intro (e1) (And.intro rfl (And.intro rfl (And.intro rfl trivial))) ?_
        | refine call_intro (e2) (And.intro rfl (And.intro rfl (And.intro rfl trivial))) ?_
        | refine call_intro (hP) (And.intro rfl trivial) ?_
        | refine call_intro (hT) (And.intro rfl trivial) ?_
        | refine Exists.intro _ (And.intro rfl ?_)
        | ((with_reducible show _ = _); rfl))
      all_goals try (
        (with_reducible refine Obl.mk ?_)
        first
        | ((with_reducible show regOk _ _ = true); kernel_rfl)
        | ((with_reducible show eqTyOk _ _ = true); kernel_rfl)
        | rfl
        | exact trivial
        | ((repeat' (first | exact trivial | refine And.intro ?_ ?_)); done)
        | decide
        | (intro r hr; simp only [List.mem_cons, List.not_mem_nil, or_false] at hr; first | (subst hr; rfl) | (rcases hr with rfl | rfl <;> rfl) | (rcases hr with rfl | rfl | rfl <;> rfl) | (rcases hr with rfl | rfl | rfl | rfl <;> rfl))
        | (refine And.intro ?_ ?_ <;> simp only [List.length_map, List.length_append, List.length_cons, List.length_nil] <;> omega))
      all_goals try (exfalso; simp only [decide_eq_false_iff_not, decide_eq_true_eq] at *; omega)
      all_goals try exact ⟨by (try simp only [List.length_append]); omega⟩
      conv => whnf
      refine ⟨⟨(k + 1, acc ++ encSym x), by dsimp only; omega, by rw [List.length_append]; dsimp only; omega, hr⟩, ?_, by dsimp only; omega⟩
      repeat' (
        (conv => whnf)
        first
        | refine Or.inl ?_
        | refine And.intro (Obl.out (?_ : Obl _)) ?_
        | refine ifB_intro (fun h => ?_) (fun h => ?_)
        | refine Exists.intro _ (And.intro rfl ?_)
        | ((with_reducible show _ = _); rfl))
      all_goals try (
        (with_reducible refine Obl.mk ?_)
        first
        | ((with_reducible show regOk _ _ = true); kernel_rfl)
        | ((with_reducible show eqTyOk _ _ = true); kernel_rfl)
        | rfl
        | exact trivial
        | ((repeat' (first | exact trivial | refine And.intro ?_ ?_)); done)
        | decide
        | (intro r hr; simp only [List.mem_cons, List.not_mem_nil, or_false] at hr; first | (subst hr; rfl) | (rcases hr with rfl | rfl <;> rfl) | (rcases hr with rfl | rfl | rfl <;> rfl) | (rcases hr with rfl | rfl | rfl | rfl <;> rfl))
        | (refine And.intro ?_ ?_ <;> simp only [List.length_map, List.length_append, List.length_cons, List.length_nil] <;> omega))
      all_goals try exact ⟨by dsimp only; rw [IntWalk.i64_in _ (by omega)]; rfl⟩
      all_goals exact ⟨congrArg Tr.str (by dsimp only; unfold encSym; simp only [List.append_assoc])⟩
  · have hge : d.fSymbols.length ≤ k := by omega
    rw [List.drop_eq_nil_of_le hge] at hr
    simp only [encSyms, Option.map_some, List.append_nil] at hr
    subst hr
    have g1 := s_spec_EncodeRules d.fRules hf.rules
    have g2 := s_spec_EncodeRows d.fRows hf.rows
    have g3 := s_spec_EncodeInlines d.fInlines hf.inl hf.inls
    have l1 := encodeRules_len hf.rules
    have l2 := encodeRows_len hf.rows
    have l3 := encodeInlines_len hf.inl hf.inls
    have p1 : Sim.Spec Try.prog 165 _ (rS (pack _)) := s_spec_PackTextL (encodeRules d.fRules) (by omega)
    have p2 : Sim.Spec Try.prog 165 _ (rS (pack _)) := s_spec_PackTextL (encodeRows d.fRows) (by omega)
    have p3 : Sim.Spec Try.prog 165 _ (rS (pack _)) := s_spec_PackTextL (encodeInlines d.fInlines) (by omega)
    have n1 := pack_len (encodeRules d.fRules)
    have n2 := pack_len (encodeRows d.fRows)
    have n3 := pack_len (encodeInlines d.fInlines)
    have hD : dbgTail d (some acc) = (((acc ++ pack (encodeRules d.fRules)) ++ pack (encodeRows d.fRows)) ++ pack (encodeInlines d.fInlines)) ++ enc (sumB (((acc ++ pack (encodeRules d.fRules)) ++ pack (encodeRows d.fRows)) ++ pack (encodeInlines d.fInlines))) := rfl
    rw [hD]
    clear hD
    generalize pack (encodeRules d.fRules) = A at *
    generalize pack (encodeRows d.fRows) = B at *
    generalize pack (encodeInlines d.fInlines) = C at *
    have hXl : (((acc ++ A) ++ B) ++ C).length ≤ 1125899906842624 := by simp only [List.length_append]; omega
    have hXe := enc_len (sumB (((acc ++ A) ++ B) ++ C))
    have hS := s_spec_l17Sum _ hXl
    repeat' (
      (conv => whnf)
      first
      | refine Or.inl ?_
      | refine And.intro (Obl.out (?_ : Obl _)) ?_
      | refine ifB_intro (fun h => ?_) (fun h => ?_)
      | refine call_intro (g1) (And.intro rfl trivial) ?_
      | refine call_intro (p1) (And.intro rfl trivial) ?_
      | refine call_intro (g2) (And.intro rfl trivial) ?_
      | refine call_intro (p2) (And.intro rfl trivial) ?_
      | refine call_intro (g3) (And.intro rfl trivial) ?_
      | refine call_intro (p3) (And.intro rfl trivial) ?_
      | refine call_intro (hS) (And.intro rfl trivial) ?_
      | refine call_intro (s_spec_EncodeVarint _) (And.intro rfl trivial) ?_
      | refine Exists.intro _ (And.intro rfl ?_)
      | ((with_reducible show _ = _); rfl))
    all_goals try (
      (with_reducible refine Obl.mk ?_)
      first
      | ((with_reducible show regOk _ _ = true); kernel_rfl)
      | ((with_reducible show eqTyOk _ _ = true); kernel_rfl)
      | rfl
      | exact trivial
      | ((repeat' (first | exact trivial | refine And.intro ?_ ?_)); done)
      | decide
      | (intro r hr; simp only [List.mem_cons, List.not_mem_nil, or_false] at hr; first | (subst hr; rfl) | (rcases hr with rfl | rfl <;> rfl) | (rcases hr with rfl | rfl | rfl <;> rfl) | (rcases hr with rfl | rfl | rfl | rfl <;> rfl))
      | (refine And.intro ?_ ?_ <;> simp only [List.length_map, List.length_append, List.length_cons, List.length_nil] <;> omega))
    all_goals try (exfalso; simp only [decide_eq_false_iff_not, decide_eq_true_eq] at *; omega)
    all_goals try exact ⟨by (try simp only [List.length_append]); omega⟩
    all_goals try exact ⟨by simp only [List.length_append] at *; omega⟩
end Go.Proofs.Ytflolafbblohnaa
