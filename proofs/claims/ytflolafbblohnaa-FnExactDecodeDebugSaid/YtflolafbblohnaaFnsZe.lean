/- A reader of bytes, and DecodeDebug of the program. -/
import Derived.Test.YtflolafbblohnaaFnsO
import Derived.Test.YtflolafbblohnaaFnsT
namespace Go.Proofs.Ytflolafbblohnaa
open Go.Sim
set_option maxRecDepth 100000
set_option maxHeartbeats 4000000
abbrev rdBox (s : List UInt8) (p : Int) (bad : Bool) : AO := .box [.t (.str s), .t (.int .i64 p), .t (.bool bad)]
abbrev rdP : AV := .r (.c (.ptr (0, 0, 0) 0))
theorem g_impl_step (s : List UInt8) (p n : Int) (bad ok : Bool) (h : p + n ≤ 9223372036854775807 ∧ 0 ≤ p ∧ 0 ≤ n) : SpecG Try.prog 169 [rdP, tI .i64 n, tB ok] [((0, 0, 0), rdBox s p bad)] (.tup []) [((0, 0, 0), rdBox s (p + n) (bad || !ok))] := by
  refine specG_of_W hΓ hmix Try.func169 rfl (by decide) rfl rfl ?_
  have hw : IntKind.i64.wrap (p + n) = p + n := IntWalk.i64_in _ (by omega)
  cases bad <;> cases ok
  all_goals
    repeat' (
      (conv => whnf)
      first
      | refine Or.inl ?_
      | refine And.intro (Obl.out (?_ : Obl _)) ?_
      | refine ifB_intro (fun h => ?_) (fun h => ?_)
      | refine Exists.intro _ (And.intro rfl ?_)
      | ((with_reducible show _ = _); rfl))
    all_goals try (
      (with_reducible refine Obl.mk ?_)
      first
      | ((with_reducible show regOk _ _ = true); kernel_rfl)
      | ((with_reducible show eqTyOk _ _ = true); kernel_rfl)
      | rfl
      | exact trivial
      | ((repeat' (first | exact trivial | refine And.intro ?_ ?_)); done)
      | decide
      | (intro r hr; simp only [List.mem_cons, List.not_mem_nil, or_false] at hr; first | (subst hr; rfl) | (rcases hr with rfl | rfl <;> rfl) | (rcases hr with rfl | rfl | rfl <;> rfl) | (rcases hr with rfl | rfl | rfl | rfl <;> rfl))
      | (refine And.intro ?_ ?_ <;> simp only [List.length_map, List.length_append, List.length_cons, List.length_nil] <;> omega))
    all_goals (first | (exact ⟨by rw [hw]⟩) | skip)
theorem g_impl_number (s : List UInt8) (p : Nat) (bad : Bool) (hs : s.length ≤ 1048576) (hp : p ≤ s.length) : SpecG Try.prog 87 [rdP] [((0, 0, 0), rdBox s p bad)] (tI .i64 (decN (dec s p))) [((0, 0, 0), rdBox s (p + decK (dec s p)) (bad || !(dec s p).isSome))] := by
  refine specG_of_W hΓ hmix Try.func87 rfl (by decide) rfl rfl ?_
  have hD := s_impl_DecodeVarint s p hs
  have hk : 0 ≤ decK (dec s p) ∧ decK (dec s p) ≤ 6 := by
    match hd : dec s p with
    | none => simp [decK]
    | some (a, b) => have := dec_some hd; simp only [decK]; omega
  have hS := g_impl_step s p (decK (dec s p)) bad (dec s p).isSome (by omega)
  repeat' (
    (conv => whnf)
    first
    | refine callG_intro (hS) ?_
    | refine seq_inl ?_
    | refine And.intro (Obl.out (?_ : Obl _)) ?_
    | refine ifB_intro (fun h => ?_) (fun h => ?_)
    | refine Or.inl (call_intro (hD) (And.intro rfl (And.intro rfl trivial)) ?_)
    | refine Exists.intro _ (And.intro rfl ?_)
    | ((with_reducible show _ = _); rfl))
  all_goals try (
    (with_reducible refine Obl.mk ?_)
    first
    | ((with_reducible show regOk _ _ = true); kernel_rfl)
    | ((with_reducible show eqTyOk _ _ = true); kernel_rfl)
    | rfl
    | exact trivial
    | ((repeat' (first | exact trivial | refine And.intro ?_ ?_)); done)
    | decide
    | (intro r hr; simp only [List.mem_cons, List.not_mem_nil, or_false] at hr; first | (subst hr; rfl) | (rcases hr with rfl | rfl <;> rfl) | (rcases hr with rfl | rfl | rfl <;> rfl) | (rcases hr with rfl | rfl | rfl | rfl <;> rfl))
    | (refine And.intro ?_ ?_ <;> simp only [List.length_map, List.length_append, List.length_cons, List.length_nil] <;> omega))
theorem g_impl_text (s : List UInt8) (p : Nat) (bad : Bool) (hs : s.length ≤ 1048576) (hp : p ≤ s.length) : SpecG Try.prog 88 [rdP] [((0, 0, 0), rdBox s p bad)] (tS (unS (unpackT s p))) [((0, 0, 0), rdBox s (p + unK (unpackT s p)) (bad || !(unpackT s p).isSome))] := by
  refine specG_of_W hΓ hmix Try.func88 rfl (by decide) rfl rfl ?_
  have hD := s_impl_UnpackText s p hs (by omega)
  have hk : 0 ≤ unK (unpackT s p) ∧ unK (unpackT s p) ≤ 1048576 := by
    match hd : unpackT s p with
    | none => simp [unK]
    | some (a, b) => have := unT_z hd; simp only [unK]; omega
  have hS := g_impl_step s p (unK (unpackT s p)) bad (unpackT s p).isSome (by omega)
  repeat' (
    (conv => whnf)
    first
    | refine callG_intro (hS) ?_
    | refine seq_inl ?_
    | refine And.intro (Obl.out (?_ : Obl _)) ?_
    | refine ifB_intro (fun h => ?_) (fun h => ?_)
    | refine Or.inl (call_intro (hD) (And.intro rfl (And.intro rfl trivial)) ?_)
    | refine Exists.intro _ (And.intro rfl ?_)
    | ((with_reducible show _ = _); rfl))
  all_goals try (
    (with_reducible refine Obl.mk ?_)
    first
    | ((with_reducible show regOk _ _ = true); kernel_rfl)
    | ((with_reducible show eqTyOk _ _ = true); kernel_rfl)
    | rfl
    | exact trivial
    | ((repeat' (first | exact trivial | refine And.intro ?_ ?_)); done)
    | decide
    | (intro r hr; simp only [List.mem_cons, List.not_mem_nil, or_false] at hr; first | (subst hr; rfl) | (rcases hr with rfl | rfl <;> rfl) | (rcases hr with rfl | rfl | rfl <;> rfl) | (rcases hr with rfl | rfl | rfl | rfl <;> rfl))
    | (refine And.intro ?_ ?_ <;> simp only [List.length_map, List.length_append, List.length_cons, List.length_nil] <;> omega))
def intsOk (o : Option (List Int × Nat)) (c : Nat) : Bool := o.isSome && decide (((upL o).length : Int) = c)
theorem g_impl_ints (s : List UInt8) (p : Nat) (bad : Bool) (c : Nat) (hc : c ≤ 10) (hs : s.length ≤ 1048576) (hp : p ≤ s.length) : SpecG Try.prog 89 [rdP, tI .i64 c] [((0, 0, 0), rdBox s p bad)] (.r (.c (.own (1, 0, 0)))) [((0, 0, 0), rdBox s (p + upZ (unpackInts s p)) (bad || !(intsOk (unpackInts s p) c))), ((1, 0, 0), .arr true 1 ((if (bad || !(intsOk (unpackInts s p) c)) = true then List.replicate c 0 else upL (unpackInts s p)).map intRow))] := by
  have hD := s_impl_UnpackInts s p hs (by omega)
  refine specG_of_W hΓ hmix Try.func89 rfl (by decide) rfl rfl ?_
  match hu : unpackInts s p with
  | none =>
    rw [hu] at hD
    dsimp only [rUnp, upL, upZ, Option.isSome] at hD
    have hS := g_impl_step s p 0 bad false (by omega)
    have hb : (bad || !(intsOk none c)) = true := by cases bad <;> rfl
    rw [hb, if_pos rfl]
    rw [show (bad || !false) = true by cases bad <;> rfl] at hS
    repeat' (
      (conv => whnf)
      first
      | refine callG_intro (hS) ?_
      | refine seq_inl ?_
      | refine And.intro (Obl.out (?_ : Obl _)) ?_
      | refine ifB_intro (fun h => ?_) (fun h => ?_)
      | refine Or.inl (call_intro (hD) (And.intro rfl (And.intro rfl trivial)) ?_)
      | refine Exists.intro _ (And.intro rfl ?_)
      | ((with_reducible show _ = _); rfl))
    all_goals try (
      (with_reducible refine Obl.mk ?_)
      first
      | ((with_reducible show regOk _ _ = true); kernel_rfl)
      | ((with_reducible show eqTyOk _ _ = true); kernel_rfl)
      | rfl
      | exact trivial
      | ((repeat' (first | exact trivial | refine And.intro ?_ ?_)); done)
      | decide
      | (intro r hr; simp only [List.mem_cons, List.not_mem_nil, or_false] at hr; first | (subst hr; rfl) | (rcases hr with rfl | rfl <;> rfl) | (rcases hr with rfl | rfl | rfl <;> rfl) | (rcases hr with rfl | rfl | rfl | rfl <;> rfl))
      | (refine And.intro ?_ ?_ <;> simp only [List.length_map, List.length_append, List.length_cons, List.length_nil] <;> omega))
    all_goals first
      | exact ⟨by omega⟩
      | exact ⟨by show c * 8 ≤ 140737488355328; omega⟩
      | exact ⟨by rw [List.map_replicate]; rfl⟩
      | exact ⟨by rw [if_pos h, List.map_replicate]; rfl⟩
      | exact ⟨by rw [if_neg (by rw [h]; simp)]; rfl⟩
  | some (ns, z) =>
    rw [hu] at hD
    dsimp only [rUnp, upL, upZ, Option.isSome] at hD
    have hz := un_z hu
    have hlen : (ns.map intRow).length = ns.length := by simp
    have hS := g_impl_step s p z bad (((ns.map intRow).length : Int) == (c : Int)) (by omega)
    have hb : (bad || !(intsOk (some (ns, z)) c)) = (bad || !(((ns.map intRow).length : Int) == (c : Int))) := by
      rw [hlen]; rfl
    rw [hb]
    generalize (bad || !(((ns.map intRow).length : Int) == (c : Int))) = B at *
    repeat' (
      (conv => whnf)
      first
      | refine callG_intro (hS) ?_
      | refine seq_inl ?_
      | refine And.intro (Obl.out (?_ : Obl _)) ?_
      | refine ifB_intro (fun h => ?_) (fun h => ?_)
      | refine Or.inl (call_intro (hD) (And.intro rfl (And.intro rfl trivial)) ?_)
      | refine Exists.intro _ (And.intro rfl ?_)
      | ((with_reducible show _ = _); rfl))
    all_goals try (
      (with_reducible refine Obl.mk ?_)
      first
      | ((with_reducible show regOk _ _ = true); kernel_rfl)
      | ((with_reducible show eqTyOk _ _ = true); kernel_rfl)
      | rfl
      | exact trivial
      | ((repeat' (first | exact trivial | refine And.intro ?_ ?_)); done)
      | decide
      | (intro r hr; simp only [List.mem_cons, List.not_mem_nil, or_false] at hr; first | (subst hr; rfl) | (rcases hr with rfl | rfl <;> rfl) | (rcases hr with rfl | rfl | rfl <;> rfl) | (rcases hr with rfl | rfl | rfl | rfl <;> rfl))
      | (refine And.intro ?_ ?_ <;> simp only [List.length_map, List.length_append, List.length_cons, List.length_nil] <;> omega))
    all_goals first
      | exact ⟨by omega⟩
      | exact ⟨by show c * 8 ≤ 140737488355328; omega⟩
      | exact ⟨by rw [List.map_replicate]; rfl⟩
      | exact ⟨by rw [if_pos h, List.map_replicate]; rfl⟩
      | exact ⟨by rw [if_neg (by rw [h]; simp)]; rfl⟩
theorem number_gen (s : List UInt8) (p : Nat) (bad : Bool) (hs : s.length ≤ 1048576) (hp : p ≤ s.length) : ∃ (n k : Nat) (b : Bool), ((dec s p = none ∧ n = 0 ∧ k = 0 ∧ b = true) ∨ (dec s p = some (n, k) ∧ b = false)) ∧ p + k ≤ s.length ∧ n ≤ 1099511627775 ∧
    SpecG Try.prog 87 [rdP] [((0, 0, 0), rdBox s p bad)] (tI .i64 (n : Int)) [((0, 0, 0), rdBox s ((p + k : Nat) : Int) (bad || b))] := by
  have h := g_impl_number s p bad hs hp
  match hd : dec s p with
  | none =>
    rw [hd] at h
    exact ⟨0, 0, true, .inl ⟨rfl, rfl, rfl, rfl⟩, by omega, by omega, by simpa [decN, decK] using h⟩
  | some (n, k) =>
    rw [hd] at h
    have := dec_some hd
    rw [Int.toNat_natCast] at this
    exact ⟨n, k, false, .inr ⟨rfl, rfl⟩, by omega, by omega, by simpa [decN, decK] using h⟩
theorem text_gen (s : List UInt8) (p : Nat) (bad : Bool) (hs : s.length ≤ 1048576) (hp : p ≤ s.length) : ∃ (t : List UInt8) (k : Nat) (b : Bool), ((unpackT s p = none ∧ b = true) ∨ (unpackT s p = some (t, k) ∧ b = false)) ∧ p + k ≤ s.length ∧ t.length ≤ s.length ∧
    SpecG Try.prog 88 [rdP] [((0, 0, 0), rdBox s p bad)] (tS t) [((0, 0, 0), rdBox s ((p + k : Nat) : Int) (bad || b))] := by
  have h := g_impl_text s p bad hs hp
  match hd : unpackT s p with
  | none =>
    rw [hd] at h
    exact ⟨[], 0, true, .inl ⟨rfl, rfl⟩, by omega, by simp, by simpa [unS, unK] using h⟩
  | some (t, k) =>
    rw [hd] at h
    have := unT_z hd
    exact ⟨t, k, false, .inr ⟨rfl, rfl⟩, by omega, by omega, by simpa [unS, unK] using h⟩
theorem ints_gen (s : List UInt8) (p : Nat) (bad : Bool) (hs : s.length ≤ 1048576) (hp : p ≤ s.length) : ∃ (x y : Int) (k : Nat) (b : Bool), (((∀ ns z, unpackInts s p = some (ns, z) → ns.length ≠ 2) ∧ b = true) ∨ (unpackInts s p = some ([x, y], k) ∧ b = false ∧ 1 ≤ k)) ∧ p + k ≤ s.length ∧
    SpecG Try.prog 89 [rdP, tI .i64 2] [((0, 0, 0), rdBox s p bad)] (.r (.c (.own (1, 0, 0)))) [((0, 0, 0), rdBox s ((p + k : Nat) : Int) (bad || b)), ((1, 0, 0), .arr true 1 [intRow (if bad || b then 0 else x), intRow (if bad || b then 0 else y)])] := by
  have h := g_impl_ints s p bad 2 (by omega) hs hp
  match hd : unpackInts s p with
  | none =>
    rw [hd] at h
    refine ⟨0, 0, 0, true, .inl ⟨fun ns z e => (by cases e), rfl⟩, by omega, ?_⟩
    simpa [intsOk, upL, upZ] using h
  | some (ns, z) =>
    rw [hd] at h
    have hz := un_z hd
    by_cases h2 : ns.length = 2
    · match ns, h2 with
      | [x, y], _ =>
        refine ⟨x, y, z, false, .inr ⟨rfl, rfl, hz.1⟩, by omega, ?_⟩
        cases bad <;> simpa [intsOk, upL, upZ] using h
    · refine ⟨0, 0, z, true, .inl ⟨fun ns' z' e => by injection e with e; injection e with e1 e2; subst e1; exact h2, rfl⟩, by omega, ?_⟩
      have hf : intsOk (some (ns, z)) 2 = false := by
        simp only [intsOk, upL, Option.isSome, Bool.true_and]
        exact decide_eq_false (by omega)
      rw [hf] at h
      simpa [upL, upZ] using h
def decSyms (s : List UInt8) : Nat → Nat → Option (List TSymbol × Nat)
  | 0, p => some ([], p)
  | c + 1, p => match unpackT s (p : Int) with
    | some (nm, y) => (match unpackInts s ((p + y : Nat) : Int) with
      | some ([a, b], z) => (decSyms s c (p + y + z)).map fun r => (⟨nm, a, b⟩ :: r.1, r.2)
      | _ => none)
    | none => none
def dec3 (s : List UInt8) (p : Nat) : Option (List UInt8 × List UInt8 × List UInt8) :=
  match unpackT s (p : Int) with
  | some (t1, y1) => (match unpackT s ((p + y1 : Nat) : Int) with
    | some (t2, y2) => (match unpackT s ((p + y1 + y2 : Nat) : Int) with
      | some (t3, _) => some (t1, t2, t3)
      | none => none)
    | none => none)
  | none => none
def decTail (s : List UInt8) (id : Int) (syms : List TSymbol) (p : Nat) : Option TDebug := match dec3 s p with
  | some (t1, t2, t3) => (match decodeRules t1, decodeRows t2, decodeInlines t3 with
    | some a, some b, some c => some ⟨id, syms, a, b, c⟩
    | _, _, _ => none)
  | none => none
def decRest (s : List UInt8) (id : Int) (c p : Nat) (acc : List TSymbol) : Option TDebug := match decSyms s c p with
  | some (l, p') => decTail s id (acc ++ l) p'
  | none => none
def decParts (s : List UInt8) : Option TDebug :=
  match dec s 0 with
  | some (id, k0) => (match dec s (k0 : Nat) with
    | some (n, k1) => decRest s id n (k0 + k1) []
    | none => none)
  | none => none
def dbgFin (s : List UInt8) : Option TDebug → Option TDebug
  | some d => if encodeDebug d = s then some d else none
  | none => none
theorem dbgFin_yes {s : List UInt8} {d : TDebug} (h : encodeDebug d = s) : dbgFin s (some d) = some d := by rw [dbgFin, if_pos h]
theorem dbgFin_no {s : List UInt8} {d : TDebug} (h : ¬ encodeDebug d = s) : dbgFin s (some d) = none := by rw [dbgFin, if_neg h]
def decodeDebug (s : List UInt8) : Option TDebug := dbgFin s (decParts s)
def zeroD : TDebug := ⟨0, [], [], [], []⟩
def oD (o : Option TDebug) : TDebug := match o with | some d => d | none => zeroD
theorem rest_good {s : List UInt8} {id : Int} {c p : Nat} {acc : List TSymbol} {nm : List UInt8} {y z : Nat} {a b : Int} (h1 : unpackT s (p : Int) = some (nm, y)) (h2 : unpackInts s ((p + y : Nat) : Int) = some ([a, b], z)) : decRest s id (c + 1) p acc = decRest s id c (p + y + z) (acc ++ [⟨nm, a, b⟩]) := by
  unfold decRest
  rw [decSyms, h1]
  dsimp only
  rw [h2]
  dsimp only
  cases decSyms s c (p + y + z) with
  | none => rfl
  | some r => simp [List.append_assoc]
theorem rest_bad1 {s : List UInt8} {id : Int} {c p : Nat} {acc : List TSymbol} (h1 : unpackT s (p : Int) = none) : decRest s id (c + 1) p acc = none := by
  unfold decRest; rw [decSyms, h1]
theorem rest_bad2 {s : List UInt8} {id : Int} {c p : Nat} {acc : List TSymbol} {nm : List UInt8} {y : Nat} (h1 : unpackT s (p : Int) = some (nm, y)) (h2 : ∀ ns z, unpackInts s ((p + y : Nat) : Int) = some (ns, z) → ns.length ≠ 2) : decRest s id (c + 1) p acc = none := by
  unfold decRest
  rw [decSyms, h1]
  dsimp only
  match hu : unpackInts s ((p + y : Nat) : Int) with
  | none => rfl
  | some (ns, z) =>
    have := h2 ns z hu
    match ns, this with
    | [], _ => rfl
    | [_], _ => rfl
    | [_, _], h => exact absurd rfl h
    | _ :: _ :: _ :: _, _ => rfl
structure DdIx (s : List UInt8) (id : Int) (R : Option TDebug) where
  k : Nat
  p : Nat
  acc : List TSymbol
  bad : Bool
  hk : k ≤ 1099511627775
  hp : p ≤ s.length
  hl : acc.length ≤ p + (if bad then 1 else 0)
  hn : ∀ x ∈ acc, x.fName.length ≤ s.length
  hr : (bad = true → R = none) ∧ (bad = false → decRest s id k p acc = R)
theorem s_impl_DecodeDebug (s : List UInt8) (hs : s.length ≤ 1048576) : Sim.Spec Try.prog 29 [tvS s] (.tup [.agg ((oD (decodeDebug s)).tr.map resC), .c (.t (.bool (decodeDebug s).isSome))]) := by
  refine spec_of_W hΓ hmix Try.func29 rfl (by decide) rfl ?_
  obtain ⟨id, k0, b0, hc0, hk0, hi0, h0⟩ := number_gen s 0 false hs (Nat.zero_le _)
  obtain ⟨n, k1, b1, hc1, hk1, hi1, h1⟩ := number_gen s (0 + k0) (false || b0) hs hk0
  unfold decodeDebug
  obtain ⟨R, hR⟩ : ∃ R, decParts s = R := ⟨_, rfl⟩
  rw [hR]
  repeat' (
    (conv => whnf)
    first
    | refine seq_inl ?_
    | refine And.intro (Obl.out (?_ : Obl _)) ?_
    | refine ifB_intro (fun h => ?_) (fun h => ?_)
    | refine Exists.intro _ (And.intro rfl ?_)
    | ((with_reducible show _ = _); rfl))
  all_goals try (
    (with_reducible refine Obl.mk ?_)
    first
    | ((with_reducible show regOk _ _ = true); kernel_rfl)
    | ((with_reducible show eqTyOk _ _ = true); kernel_rfl)
    | rfl
    | exact trivial
    | ((repeat' (first | exact trivial | refine And.intro ?_ ?_)); done)
    | decide
    | (intro r hr; simp only [List.mem_cons, List.not_mem_nil, or_false] at hr; first | (subst hr; rfl) | (rcases hr with rfl | rfl <;> rfl) | (rcases hr with rfl | rfl | rfl <;> rfl) | (rcases hr with rfl | rfl | rfl | rfl <;> rfl))
    | (refine And.intro ?_ ?_ <;> simp only [List.length_map, List.length_append, List.length_cons, List.length_nil] <;> omega))
  refine callG_intro (h0) ?_
  repeat' (
    (conv => whnf)
    first
    | refine seq_inl ?_
    | refine And.intro (Obl.out (?_ : Obl _)) ?_
    | refine ifB_intro (fun h => ?_) (fun h => ?_)
    | refine Exists.intro _ (And.intro rfl ?_)
    | ((with_reducible show _ = _); rfl))
  all_goals try (
    (with_reducible refine Obl.mk ?_)
    first
    | ((with_reducible show regOk _ _ = true); kernel_rfl)
    | ((with_reducible show eqTyOk _ _ = true); kernel_rfl)
    | rfl
    | exact trivial
    | ((repeat' (first | exact trivial | refine And.intro ?_ ?_)); done)
    | decide
    | (intro r hr; simp only [List.mem_cons, List.not_mem_nil, or_false] at hr; first | (subst hr; rfl) | (rcases hr with rfl | rfl <;> rfl) | (rcases hr with rfl | rfl | rfl <;> rfl) | (rcases hr with rfl | rfl | rfl | rfl <;> rfl))
    | (refine And.intro ?_ ?_ <;> simp only [List.length_map, List.length_append, List.length_cons, List.length_nil] <;> omega))
  refine callG_intro (h1) ?_
  repeat' (
    (conv => whnf)
    first
    | refine seq_inl ?_
    | refine And.intro (Obl.out (?_ : Obl _)) ?_
    | refine ifB_intro (fun h => ?_) (fun h => ?_)
    | refine Exists.intro _ (And.intro rfl ?_)
    | ((with_reducible show _ = _); rfl))
  all_goals try (
    (with_reducible refine Obl.mk ?_)
    first
    | ((with_reducible show regOk _ _ = true); kernel_rfl)
    | ((with_reducible show eqTyOk _ _ = true); kernel_rfl)
    | rfl
    | exact trivial
    | ((repeat' (first | exact trivial | refine And.intro ?_ ?_)); done)
    | decide
    | (intro r hr; simp only [List.mem_cons, List.not_mem_nil, or_false] at hr; first | (subst hr; rfl) | (rcases hr with rfl | rfl <;> rfl) | (rcases hr with rfl | rfl | rfl <;> rfl) | (rcases hr with rfl | rfl | rfl | rfl <;> rfl))
    | (refine And.intro ?_ ?_ <;> simp only [List.length_map, List.length_append, List.length_cons, List.length_nil] <;> omega))
  conv => whnf
  refine ⟨DdIx s id R, fun q => ⟨[(0, tS s), (2, .r (.c (.ptr (2, 0, 0) 0))), (3, tB false), (4, .r (.c (.ptr (17, 0, 0) 0))), (5, .r (.c (.ptr (5, 0, 0) 0))), (6, tI .i64 (q.k : Int))],
    [((17, 0, 0), some (rdBox s (q.p : Int) q.bad)), ((5, 0, 0), some (.box [.t (.int .i64 (id : Int)), .own (5, 0, 1), .nils 0, .nils 0, .nils 0])), ((5, 0, 1), some (.arr true 3 (q.acc.map TSymbol.tr))), ((2, 0, 0), some (.box [.t (.int .i64 0), .nils 0, .nils 0, .nils 0, .nils 0]))], [22, 5, 19, 17, 2]⟩, fun q => q.k + (if q.bad then 0 else 1),
    ⟨n, 0 + k0 + k1, [], false || b0 || b1, hi1, hk1, by simp, by simp, ?_⟩, ?_, ?_⟩
  · subst hR
    unfold decParts
    rcases hc0 with ⟨e0, _, rfl, rfl⟩ | ⟨e0, rfl⟩
    · rw [show ((0 : Nat) : Int) = 0 from rfl] at e0
      exact ⟨fun _ => by rw [e0], fun h => by simp at h⟩
    · rw [show ((0 : Nat) : Int) = 0 from rfl] at e0
      rw [Nat.zero_add] at hc1
      rcases hc1 with ⟨e1, _, rfl, rfl⟩ | ⟨e1, rfl⟩
      · exact ⟨fun _ => by rw [e0]; dsimp only; rw [e1], fun h => by simp at h⟩
      · exact ⟨fun h => by simp at h, fun _ => by rw [e0]; dsimp only; rw [e1]; dsimp only; rw [Nat.zero_add]⟩
  · skip
    repeat' (
      (conv => whnf)
      first
      | refine Or.inl ?_
      | refine And.intro (Obl.out (?_ : Obl _)) ?_
      | refine ifB_intro (fun h => ?_) (fun h => ?_)
      | refine Exists.intro _ (And.intro rfl ?_)
      | ((with_reducible show _ = _); rfl))
    all_goals try (
      (with_reducible refine Obl.mk ?_)
      first
      | ((with_reducible show regOk _ _ = true); kernel_rfl)
      | ((with_reducible show eqTyOk _ _ = true); kernel_rfl)
      | rfl
      | exact trivial
      | ((repeat' (first | exact trivial | refine And.intro ?_ ?_)); done)
      | decide
      | (intro r hr; simp only [List.mem_cons, List.not_mem_nil, or_false] at hr; first | (subst hr; rfl) | (rcases hr with rfl | rfl <;> rfl) | (rcases hr with rfl | rfl | rfl <;> rfl) | (rcases hr with rfl | rfl | rfl | rfl <;> rfl))
      | (refine And.intro ?_ ?_ <;> simp only [List.length_map, List.length_append, List.length_cons, List.length_nil] <;> omega))
  intro ⟨k, p, acc, bad, hk, hp, hl, hn, hr⟩
  dsimp only at hk hp hl hn hr ⊢
  cases bad with
  | true =>
    obtain ⟨t1, y1, c1, _, ht1, hl1, g1⟩ := text_gen s p true hs hp
    obtain ⟨t2, y2, c2, _, ht2, hl2, g2⟩ := text_gen s (p + y1) (true || c1) hs ht1
    obtain ⟨t3, y3, c3, _, ht3, hl3, g3⟩ := text_gen s (p + y1 + y2) (true || c1 || c2) hs ht2
    have d1 := s_impl_DecodeRules t1 (by omega)
    have d2 := s_impl_DecodeRows t2 (by omega)
    have d3 := s_impl_DecodeInlines t3 (by omega)
    have hR := hr.1 rfl
    subst hR
    repeat' (
      (conv => whnf)
      first
      | refine seq_inl ?_
      | refine And.intro (Obl.out (?_ : Obl _)) ?_
      | refine ifB_intro (fun h => ?_) (fun h => ?_)
      | refine Exists.intro _ (And.intro rfl ?_)
      | ((with_reducible show _ = _); rfl))
    all_goals try (
      (with_reducible refine Obl.mk ?_)
      first
      | ((with_reducible show regOk _ _ = true); kernel_rfl)
      | ((with_reducible show eqTyOk _ _ = true); kernel_rfl)
      | rfl
      | exact trivial
      | ((repeat' (first | exact trivial | refine And.intro ?_ ?_)); done)
      | decide
      | (intro r hr; simp only [List.mem_cons, List.not_mem_nil, or_false] at hr; first | (subst hr; rfl) | (rcases hr with rfl | rfl <;> rfl) | (rcases hr with rfl | rfl | rfl <;> rfl) | (rcases hr with rfl | rfl | rfl | rfl <;> rfl))
      | (refine And.intro ?_ ?_ <;> simp only [List.length_map, List.length_append, List.length_cons, List.length_nil] <;> omega))
    all_goals
      refine callG_intro (g1) ?_
      repeat' (
        (conv => whnf)
        first
        | refine seq_inl ?_
        | refine And.intro (Obl.out (?_ : Obl _)) ?_
        | refine ifB_intro (fun h => ?_) (fun h => ?_)
        | refine Or.inl (call_intro (d1) (And.intro rfl trivial) ?_)
        | refine Exists.intro _ (And.intro rfl ?_)
        | ((with_reducible show _ = _); rfl))
      all_goals try (
        (with_reducible refine Obl.mk ?_)
        first
        | ((with_reducible show regOk _ _ = true); kernel_rfl)
        | ((with_reducible show eqTyOk _ _ = true); kernel_rfl)
        | rfl
        | exact trivial
        | ((repeat' (first | exact trivial | refine And.intro ?_ ?_)); done)
        | decide
        | (intro r hr; simp only [List.mem_cons, List.not_mem_nil, or_false] at hr; first | (subst hr; rfl) | (rcases hr with rfl | rfl <;> rfl) | (rcases hr with rfl | rfl | rfl <;> rfl) | (rcases hr with rfl | rfl | rfl | rfl <;> rfl))
        | (refine And.intro ?_ ?_ <;> simp only [List.length_map, List.length_append, List.length_cons, List.length_nil] <;> omega))
      refine callG_intro (g2) ?_
      repeat' (
        (conv => whnf)
        first
        | refine seq_inl ?_
        | refine And.intro (Obl.out (?_ : Obl _)) ?_
        | refine ifB_intro (fun h => ?_) (fun h => ?_)
        | refine Or.inl (call_intro (d2) (And.intro rfl trivial) ?_)
        | refine Exists.intro _ (And.intro rfl ?_)
        | ((with_reducible show _ = _); rfl))
      all_goals try (
        (with_reducible refine Obl.mk ?_)
        first
        | ((with_reducible show regOk _ _ = true); kernel_rfl)
        | ((with_reducible show eqTyOk _ _ = true); kernel_rfl)
        | rfl
        | exact trivial
        | ((repeat' (first | exact trivial | refine And.intro ?_ ?_)); done)
        | decide
        | (intro r hr; simp only [List.mem_cons, List.not_mem_nil, or_false] at hr; first | (subst hr; rfl) | (rcases hr with rfl | rfl <;> rfl) | (rcases hr with rfl | rfl | rfl <;> rfl) | (rcases hr with rfl | rfl | rfl | rfl <;> rfl))
        | (refine And.intro ?_ ?_ <;> simp only [List.length_map, List.length_append, List.length_cons, List.length_nil] <;> omega))
      refine callG_intro (g3) ?_
      repeat' (
        (conv => whnf)
        first
        | refine seq_inl ?_
        | refine And.intro (Obl.out (?_ : Obl _)) ?_
        | refine ifB_intro (fun h => ?_) (fun h => ?_)
        | refine Or.inl (call_intro (d3) (And.intro rfl trivial) ?_)
        | refine Exists.intro _ (And.intro rfl ?_)
        | ((with_reducible show _ = _); rfl))
      all_goals try (
        (with_reducible refine Obl.mk ?_)
        first
        | ((with_reducible show regOk _ _ = true); kernel_rfl)
        | ((with_reducible show eqTyOk _ _ = true); kernel_rfl)
        | rfl
        | exact trivial
        | ((repeat' (first | exact trivial | refine And.intro ?_ ?_)); done)
        | decide
        | (intro r hr; simp only [List.mem_cons, List.not_mem_nil, or_false] at hr; first | (subst hr; rfl) | (rcases hr with rfl | rfl <;> rfl) | (rcases hr with rfl | rfl | rfl <;> rfl) | (rcases hr with rfl | rfl | rfl | rfl <;> rfl))
        | (refine And.intro ?_ ?_ <;> simp only [List.length_map, List.length_append, List.length_cons, List.length_nil] <;> omega))
    all_goals try (exfalso; simp at h; done)
  | false =>
    cases k with
    | zero =>
      obtain ⟨t1, y1, c1, w1, ht1, hl1, g1⟩ := text_gen s p false hs hp
      obtain ⟨t2, y2, c2, w2, ht2, hl2, g2⟩ := text_gen s (p + y1) (false || c1) hs ht1
      obtain ⟨t3, y3, c3, w3, ht3, hl3, g3⟩ := text_gen s (p + y1 + y2) (false || c1 || c2) hs ht2
      have d1 := s_impl_DecodeRules t1 (by omega)
      have d2 := s_impl_DecodeRows t2 (by omega)
      have d3 := s_impl_DecodeInlines t3 (by omega)
      have hrr := hr.2 rfl
      unfold decRest at hrr
      rw [decSyms] at hrr
      dsimp only at hrr
      rw [List.append_nil] at hrr
      unfold decTail dec3 at hrr
      rcases w1 with ⟨e1, rfl⟩ | ⟨e1, rfl⟩
      · rw [e1] at hrr
        dsimp only at hrr
        subst hrr
        repeat' (
          (conv => whnf)
          first
          | refine seq_inl ?_
          | refine And.intro (Obl.out (?_ : Obl _)) ?_
          | refine ifB_intro (fun h => ?_) (fun h => ?_)
          | refine Exists.intro _ (And.intro rfl ?_)
          | ((with_reducible show _ = _); rfl))
        all_goals try (
          (with_reducible refine Obl.mk ?_)
          first
          | ((with_reducible show regOk _ _ = true); kernel_rfl)
          | ((with_reducible show eqTyOk _ _ = true); kernel_rfl)
          | rfl
          | exact trivial
          | ((repeat' (first | exact trivial | refine And.intro ?_ ?_)); done)
          | decide
          | (intro r hr; simp only [List.mem_cons, List.not_mem_nil, or_false] at hr; first | (subst hr; rfl) | (rcases hr with rfl | rfl <;> rfl) | (rcases hr with rfl | rfl | rfl <;> rfl) | (rcases hr with rfl | rfl | rfl | rfl <;> rfl))
          | (refine And.intro ?_ ?_ <;> simp only [List.length_map, List.length_append, List.length_cons, List.length_nil] <;> omega))
        refine callG_intro (g1) ?_
        repeat' (
          (conv => whnf)
          first
          | refine seq_inl ?_
          | refine And.intro (Obl.out (?_ : Obl _)) ?_
          | refine ifB_intro (fun h => ?_) (fun h => ?_)
          | refine Or.inl (call_intro (d1) (And.intro rfl trivial) ?_)
          | refine Exists.intro _ (And.intro rfl ?_)
          | ((with_reducible show _ = _); rfl))
        all_goals try (
          (with_reducible refine Obl.mk ?_)
          first
          | ((with_reducible show regOk _ _ = true); kernel_rfl)
          | ((with_reducible show eqTyOk _ _ = true); kernel_rfl)
          | rfl
          | exact trivial
          | ((repeat' (first | exact trivial | refine And.intro ?_ ?_)); done)
          | decide
          | (intro r hr; simp only [List.mem_cons, List.not_mem_nil, or_false] at hr; first | (subst hr; rfl) | (rcases hr with rfl | rfl <;> rfl) | (rcases hr with rfl | rfl | rfl <;> rfl) | (rcases hr with rfl | rfl | rfl | rfl <;> rfl))
          | (refine And.intro ?_ ?_ <;> simp only [List.length_map, List.length_append, List.length_cons, List.length_nil] <;> omega))
        refine callG_intro (g2) ?_
        repeat' (
          (conv => whnf)
          first
          | refine seq_inl ?_
          | refine And.intro (Obl.out (?_ : Obl _)) ?_
          | refine ifB_intro (fun h => ?_) (fun h => ?_)
          | refine Or.inl (call_intro (d2) (And.intro rfl trivial) ?_)
          | refine Exists.intro _ (And.intro rfl ?_)
          | ((with_reducible show _ = _); rfl))
        all_goals try (
          (with_reducible refine Obl.mk ?_)
          first
          | ((with_reducible show regOk _ _ = true); kernel_rfl)
          | ((with_reducible show eqTyOk _ _ = true); kernel_rfl)
          | rfl
          | exact trivial
          | ((repeat' (first | exact trivial | refine And.intro ?_ ?_)); done)
          | decide
          | (intro r hr; simp only [List.mem_cons, List.not_mem_nil, or_false] at hr; first | (subst hr; rfl) | (rcases hr with rfl | rfl <;> rfl) | (rcases hr with rfl | rfl | rfl <;> rfl) | (rcases hr with rfl | rfl | rfl | rfl <;> rfl))
          | (refine And.intro ?_ ?_ <;> simp only [List.length_map, List.length_append, List.length_cons, List.length_nil] <;> omega))
        refine callG_intro (g3) ?_
        repeat' (
          (conv => whnf)
          first
          | refine seq_inl ?_
          | refine And.intro (Obl.out (?_ : Obl _)) ?_
          | refine ifB_intro (fun h => ?_) (fun h => ?_)
          | refine Or.inl (call_intro (d3) (And.intro rfl trivial) ?_)
          | refine Exists.intro _ (And.intro rfl ?_)
          | ((with_reducible show _ = _); rfl))
        all_goals try (
          (with_reducible refine Obl.mk ?_)
          first
          | ((with_reducible show regOk _ _ = true); kernel_rfl)
          | ((with_reducible show eqTyOk _ _ = true); kernel_rfl)
          | rfl
          | exact trivial
          | ((repeat' (first | exact trivial | refine And.intro ?_ ?_)); done)
          | decide
          | (intro r hr; simp only [List.mem_cons, List.not_mem_nil, or_false] at hr; first | (subst hr; rfl) | (rcases hr with rfl | rfl <;> rfl) | (rcases hr with rfl | rfl | rfl <;> rfl) | (rcases hr with rfl | rfl | rfl | rfl <;> rfl))
          | (refine And.intro ?_ ?_ <;> simp only [List.length_map, List.length_append, List.length_cons, List.length_nil] <;> omega))
        all_goals try (exfalso; first | (simp at h; done) | (have h' := of_decide_eq_true h; simp at h'; done))
      · rcases w2 with ⟨e2, rfl⟩ | ⟨e2, rfl⟩
        · rw [e1] at hrr
          dsimp only at hrr
          rw [e2] at hrr
          dsimp only at hrr
          subst hrr
          repeat' (
            (conv => whnf)
            first
            | refine seq_inl ?_
            | refine And.intro (Obl.out (?_ : Obl _)) ?_
            | refine ifB_intro (fun h => ?_) (fun h => ?_)
            | refine Exists.intro _ (And.intro rfl ?_)
            | ((with_reducible show _ = _); rfl))
          all_goals try (
            (with_reducible refine Obl.mk ?_)
            first
            | ((with_reducible show regOk _ _ = true); kernel_rfl)
            | ((with_reducible show eqTyOk _ _ = true); kernel_rfl)
            | rfl
            | exact trivial
            | ((repeat' (first | exact trivial | refine And.intro ?_ ?_)); done)
            | decide
            | (intro r hr; simp only [List.mem_cons, List.not_mem_nil, or_false] at hr; first | (subst hr; rfl) | (rcases hr with rfl | rfl <;> rfl) | (rcases hr with rfl | rfl | rfl <;> rfl) | (rcases hr with rfl | rfl | rfl | rfl <;> rfl))
            | (refine And.intro ?_ ?_ <;> simp only [List.length_map, List.length_append, List.length_cons, List.length_nil] <;> omega))
          refine callG_intro (g1) ?_
          repeat' (
            (conv => whnf)
            first
            | refine seq_inl ?_
            | refine And.intro (Obl.out (?_ : Obl _)) ?_
            | refine ifB_intro (fun h => ?_) (fun h => ?_)
            | refine Or.inl (call_intro (d1) (And.intro rfl trivial) ?_)
            | refine Exists.intro _ (And.intro rfl ?_)
            | ((with_reducible show _ = _); rfl))
          all_goals try (
            (with_reducible refine Obl.mk ?_)
            first
            | ((with_reducible show regOk _ _ = true); kernel_rfl)
            | ((with_reducible show eqTyOk _ _ = true); kernel_rfl)
            | rfl
            | exact trivial
            | ((repeat' (first | exact trivial | refine And.intro ?_ ?_)); done)
            | decide
            | (intro r hr; simp only [List.mem_cons, List.not_mem_nil, or_false] at hr; first | (subst hr; rfl) | (rcases hr with rfl | rfl <;> rfl) | (rcases hr with rfl | rfl | rfl <;> rfl) | (rcases hr with rfl | rfl | rfl | rfl <;> rfl))
            | (refine And.intro ?_ ?_ <;> simp only [List.length_map, List.length_append, List.length_cons, List.length_nil] <;> omega))
          refine callG_intro (g2) ?_
          repeat' (
            (conv => whnf)
            first
            | refine seq_inl ?_
            | refine And.intro (Obl.out (?_ : Obl _)) ?_
            | refine ifB_intro (fun h => ?_) (fun h => ?_)
            | refine Or.inl (call_intro (d2) (And.intro rfl trivial) ?_)
            | refine Exists.intro _ (And.intro rfl ?_)
            | ((with_reducible show _ = _); rfl))
          all_goals try (
            (with_reducible refine Obl.mk ?_)
            first
            | ((with_reducible show regOk _ _ = true); kernel_rfl)
            | ((with_reducible show eqTyOk _ _ = true); kernel_rfl)
            | rfl
            | exact trivial
            | ((repeat' (first | exact trivial | refine And.intro ?_ ?_)); done)
            | decide
            | (intro r hr; simp only [List.mem_cons, List.not_mem_nil, or_false] at hr; first | (subst hr; rfl) | (rcases hr with rfl | rfl <;> rfl) | (rcases hr with rfl | rfl | rfl <;> rfl) | (rcases hr with rfl | rfl | rfl | rfl <;> rfl))
            | (refine And.intro ?_ ?_ <;> simp only [List.length_map, List.length_append, List.length_cons, List.length_nil] <;> omega))
          refine callG_intro (g3) ?_
          repeat' (
            (conv => whnf)
            first
            | refine seq_inl ?_
            | refine And.intro (Obl.out (?_ : Obl _)) ?_
            | refine ifB_intro (fun h => ?_) (fun h => ?_)
            | refine Or.inl (call_intro (d3) (And.intro rfl trivial) ?_)
            | refine Exists.intro _ (And.intro rfl ?_)
            | ((with_reducible show _ = _); rfl))
          all_goals try (
            (with_reducible refine Obl.mk ?_)
            first
            | ((with_reducible show regOk _ _ = true); kernel_rfl)
            | ((with_reducible show eqTyOk _ _ = true); kernel_rfl)
            | rfl
            | exact trivial
            | ((repeat' (first | exact trivial | refine And.intro ?_ ?_)); done)
            | decide
            | (intro r hr; simp only [List.mem_cons, List.not_mem_nil, or_false] at hr; first | (subst hr; rfl) | (rcases hr with rfl | rfl <;> rfl) | (rcases hr with rfl | rfl | rfl <;> rfl) | (rcases hr with rfl | rfl | rfl | rfl <;> rfl))
            | (refine And.intro ?_ ?_ <;> simp only [List.length_map, List.length_append, List.length_cons, List.length_nil] <;> omega))
          all_goals try (exfalso; first | (simp at h; done) | (have h' := of_decide_eq_true h; simp at h'; done))
        · rcases w3 with ⟨e3, rfl⟩ | ⟨e3, rfl⟩
          · rw [e1] at hrr
            dsimp only at hrr
            rw [e2] at hrr
            dsimp only at hrr
            rw [e3] at hrr
            dsimp only at hrr
            subst hrr
            repeat' (
              (conv => whnf)
              first
              | refine seq_inl ?_
              | refine And.intro (Obl.out (?_ : Obl _)) ?_
              | refine ifB_intro (fun h => ?_) (fun h => ?_)
              | refine Exists.intro _ (And.intro rfl ?_)
              | ((with_reducible show _ = _); rfl))
            all_goals try (
              (with_reducible refine Obl.mk ?_)
              first
              | ((with_reducible show regOk _ _ = true); kernel_rfl)
              | ((with_reducible show eqTyOk _ _ = true); kernel_rfl)
              | rfl
              | exact trivial
              | ((repeat' (first | exact trivial | refine And.intro ?_ ?_)); done)
              | decide
              | (intro r hr; simp only [List.mem_cons, List.not_mem_nil, or_false] at hr; first | (subst hr; rfl) | (rcases hr with rfl | rfl <;> rfl) | (rcases hr with rfl | rfl | rfl <;> rfl) | (rcases hr with rfl | rfl | rfl | rfl <;> rfl))
              | (refine And.intro ?_ ?_ <;> simp only [List.length_map, List.length_append, List.length_cons, List.length_nil] <;> omega))
            refine callG_intro (g1) ?_
            repeat' (
              (conv => whnf)
              first
              | refine seq_inl ?_
              | refine And.intro (Obl.out (?_ : Obl _)) ?_
              | refine ifB_intro (fun h => ?_) (fun h => ?_)
              | refine Or.inl (call_intro (d1) (And.intro rfl trivial) ?_)
              | refine Exists.intro _ (And.intro rfl ?_)
              | ((with_reducible show _ = _); rfl))
            all_goals try (
              (with_reducible refine Obl.mk ?_)
              first
              | ((with_reducible show regOk _ _ = true); kernel_rfl)
              | ((with_reducible show eqTyOk _ _ = true); kernel_rfl)
              | rfl
              | exact trivial
              | ((repeat' (first | exact trivial | refine And.intro ?_ ?_)); done)
              | decide
              | (intro r hr; simp only [List.mem_cons, List.not_mem_nil, or_false] at hr; first | (subst hr; rfl) | (rcases hr with rfl | rfl <;> rfl) | (rcases hr with rfl | rfl | rfl <;> rfl) | (rcases hr with rfl | rfl | rfl | rfl <;> rfl))
              | (refine And.intro ?_ ?_ <;> simp only [List.length_map, List.length_append, List.length_cons, List.length_nil] <;> omega))
            refine callG_intro (g2) ?_
            repeat' (
              (conv => whnf)
              first
              | refine seq_inl ?_
              | refine And.intro (Obl.out (?_ : Obl _)) ?_
              | refine ifB_intro (fun h => ?_) (fun h => ?_)
              | refine Or.inl (call_intro (d2) (And.intro rfl trivial) ?_)
              | refine Exists.intro _ (And.intro rfl ?_)
              | ((with_reducible show _ = _); rfl))
            all_goals try (
              (with_reducible refine Obl.mk ?_)
              first
              | ((with_reducible show regOk _ _ = true); kernel_rfl)
              | ((with_reducible show eqTyOk _ _ = true); kernel_rfl)
              | rfl
              | exact trivial
              | ((repeat' (first | exact trivial | refine And.intro ?_ ?_)); done)
              | decide
              | (intro r hr; simp only [List.mem_cons, List.not_mem_nil, or_false] at hr; first | (subst hr; rfl) | (rcases hr with rfl | rfl <;> rfl) | (rcases hr with rfl | rfl | rfl <;> rfl) | (rcases hr with rfl | rfl | rfl | rfl <;> rfl))
              | (refine And.intro ?_ ?_ <;> simp only [List.length_map, List.length_append, List.length_cons, List.length_nil] <;> omega))
            refine callG_intro (g3) ?_
            repeat' (
              (conv => whnf)
              first
              | refine seq_inl ?_
              | refine And.intro (Obl.out (?_ : Obl _)) ?_
              | refine ifB_intro (fun h => ?_) (fun h => ?_)
              | refine Or.inl (call_intro (d3) (And.intro rfl trivial) ?_)
              | refine Exists.intro _ (And.intro rfl ?_)
              | ((with_reducible show _ = _); rfl))
            all_goals try (
              (with_reducible refine Obl.mk ?_)
              first
              | ((with_reducible show regOk _ _ = true); kernel_rfl)
              | ((with_reducible show eqTyOk _ _ = true); kernel_rfl)
              | rfl
              | exact trivial
              | ((repeat' (first | exact trivial | refine And.intro ?_ ?_)); done)
              | decide
              | (intro r hr; simp only [List.mem_cons, List.not_mem_nil, or_false] at hr; first | (subst hr; rfl) | (rcases hr with rfl | rfl <;> rfl) | (rcases hr with rfl | rfl | rfl <;> rfl) | (rcases hr with rfl | rfl | rfl | rfl <;> rfl))
              | (refine And.intro ?_ ?_ <;> simp only [List.length_map, List.length_append, List.length_cons, List.length_nil] <;> omega))
            all_goals try (exfalso; first | (simp at h; done) | (have h' := of_decide_eq_true h; simp at h'; done))
          · rw [e1] at hrr
            dsimp only at hrr
            rw [e2] at hrr
            dsimp only at hrr
            rw [e3] at hrr
            dsimp only at hrr
            match q1 : decodeRules t1 with
            | none =>
              rw [q1] at hrr d1
              dsimp only at hrr
              subst hrr
              repeat' (
                (conv => whnf)
                first
                | refine seq_inl ?_
                | refine And.intro (Obl.out (?_ : Obl _)) ?_
                | refine ifB_intro (fun h => ?_) (fun h => ?_)
                | refine Exists.intro _ (And.intro rfl ?_)
                | ((with_reducible show _ = _); rfl))
              all_goals try (
                (with_reducible refine Obl.mk ?_)
                first
                | ((with_reducible show regOk _ _ = true); kernel_rfl)
                | ((with_reducible show eqTyOk _ _ = true); kernel_rfl)
                | rfl
                | exact trivial
                | ((repeat' (first | exact trivial | refine And.intro ?_ ?_)); done)
                | decide
                | (intro r hr; simp only [List.mem_cons, List.not_mem_nil, or_false] at hr; first | (subst hr; rfl) | (rcases hr with rfl | rfl <;> rfl) | (rcases hr with rfl | rfl | rfl <;> rfl) | (rcases hr with rfl | rfl | rfl | rfl <;> rfl))
                | (refine And.intro ?_ ?_ <;> simp only [List.length_map, List.length_append, List.length_cons, List.length_nil] <;> omega))
              refine callG_intro (g1) ?_
              repeat' (
                (conv => whnf)
                first
                | refine seq_inl ?_
                | refine And.intro (Obl.out (?_ : Obl _)) ?_
                | refine ifB_intro (fun h => ?_) (fun h => ?_)
                | refine Or.inl (call_intro (d1) (And.intro rfl trivial) ?_)
                | refine Exists.intro _ (And.intro rfl ?_)
                | ((with_reducible show _ = _); rfl))
              all_goals try (
                (with_reducible refine Obl.mk ?_)
                first
                | ((with_reducible show regOk _ _ = true); kernel_rfl)
                | ((with_reducible show eqTyOk _ _ = true); kernel_rfl)
                | rfl
                | exact trivial
                | ((repeat' (first | exact trivial | refine And.intro ?_ ?_)); done)
                | decide
                | (intro r hr; simp only [List.mem_cons, List.not_mem_nil, or_false] at hr; first | (subst hr; rfl) | (rcases hr with rfl | rfl <;> rfl) | (rcases hr with rfl | rfl | rfl <;> rfl) | (rcases hr with rfl | rfl | rfl | rfl <;> rfl))
                | (refine And.intro ?_ ?_ <;> simp only [List.length_map, List.length_append, List.length_cons, List.length_nil] <;> omega))
              refine callG_intro (g2) ?_
              repeat' (
                (conv => whnf)
                first
                | refine seq_inl ?_
                | refine And.intro (Obl.out (?_ : Obl _)) ?_
                | refine ifB_intro (fun h => ?_) (fun h => ?_)
                | refine Or.inl (call_intro (d2) (And.intro rfl trivial) ?_)
                | refine Exists.intro _ (And.intro rfl ?_)
                | ((with_reducible show _ = _); rfl))
              all_goals try (
                (with_reducible refine Obl.mk ?_)
                first
                | ((with_reducible show regOk _ _ = true); kernel_rfl)
                | ((with_reducible show eqTyOk _ _ = true); kernel_rfl)
                | rfl
                | exact trivial
                | ((repeat' (first | exact trivial | refine And.intro ?_ ?_)); done)
                | decide
                | (intro r hr; simp only [List.mem_cons, List.not_mem_nil, or_false] at hr; first | (subst hr; rfl) | (rcases hr with rfl | rfl <;> rfl) | (rcases hr with rfl | rfl | rfl <;> rfl) | (rcases hr with rfl | rfl | rfl | rfl <;> rfl))
                | (refine And.intro ?_ ?_ <;> simp only [List.length_map, List.length_append, List.length_cons, List.length_nil] <;> omega))
              refine callG_intro (g3) ?_
              repeat' (
                (conv => whnf)
                first
                | refine seq_inl ?_
                | refine And.intro (Obl.out (?_ : Obl _)) ?_
                | refine ifB_intro (fun h => ?_) (fun h => ?_)
                | refine Or.inl (call_intro (d3) (And.intro rfl trivial) ?_)
                | refine Exists.intro _ (And.intro rfl ?_)
                | ((with_reducible show _ = _); rfl))
              all_goals try (
                (with_reducible refine Obl.mk ?_)
                first
                | ((with_reducible show regOk _ _ = true); kernel_rfl)
                | ((with_reducible show eqTyOk _ _ = true); kernel_rfl)
                | rfl
                | exact trivial
                | ((repeat' (first | exact trivial | refine And.intro ?_ ?_)); done)
                | decide
                | (intro r hr; simp only [List.mem_cons, List.not_mem_nil, or_false] at hr; first | (subst hr; rfl) | (rcases hr with rfl | rfl <;> rfl) | (rcases hr with rfl | rfl | rfl <;> rfl) | (rcases hr with rfl | rfl | rfl | rfl <;> rfl))
                | (refine And.intro ?_ ?_ <;> simp only [List.length_map, List.length_append, List.length_cons, List.length_nil] <;> omega))
              all_goals try (exfalso; first | (simp at h; done) | (have h' := of_decide_eq_true h; simp at h'; done))
            | some ru =>
              match q2 : decodeRows t2 with
              | none =>
                rw [q1, q2] at hrr
                rw [q1] at d1
                rw [q2] at d2
                dsimp only at hrr
                subst hrr
                repeat' (
                  (conv => whnf)
                  first
                  | refine seq_inl ?_
                  | refine And.intro (Obl.out (?_ : Obl _)) ?_
                  | refine ifB_intro (fun h => ?_) (fun h => ?_)
                  | refine Exists.intro _ (And.intro rfl ?_)
                  | ((with_reducible show _ = _); rfl))
                all_goals try (
                  (with_reducible refine Obl.mk ?_)
                  first
                  | ((with_reducible show regOk _ _ = true); kernel_rfl)
                  | ((with_reducible show eqTyOk _ _ = true); kernel_rfl)
                  | rfl
                  | exact trivial
                  | ((repeat' (first | exact trivial | refine And.intro ?_ ?_)); done)
                  | decide
                  | (intro r hr; simp only [List.mem_cons, List.not_mem_nil, or_false] at hr; first | (subst hr; rfl) | (rcases hr with rfl | rfl <;> rfl) | (rcases hr with rfl | rfl | rfl <;> rfl) | (rcases hr with rfl | rfl | rfl | rfl <;> rfl))
                  | (refine And.intro ?_ ?_ <;> simp only [List.length_map, List.length_append, List.length_cons, List.length_nil] <;> omega))
                refine callG_intro (g1) ?_
                repeat' (
                  (conv => whnf)
                  first
                  | refine seq_inl ?_
                  | refine And.intro (Obl.out (?_ : Obl _)) ?_
                  | refine ifB_intro (fun h => ?_) (fun h => ?_)
                  | refine Or.inl (call_intro (d1) (And.intro rfl trivial) ?_)
                  | refine Exists.intro _ (And.intro rfl ?_)
                  | ((with_reducible show _ = _); rfl))
                all_goals try (
                  (with_reducible refine Obl.mk ?_)
                  first
                  | ((with_reducible show regOk _ _ = true); kernel_rfl)
                  | ((with_reducible show eqTyOk _ _ = true); kernel_rfl)
                  | rfl
                  | exact trivial
                  | ((repeat' (first | exact trivial | refine And.intro ?_ ?_)); done)
                  | decide
                  | (intro r hr; simp only [List.mem_cons, List.not_mem_nil, or_false] at hr; first | (subst hr; rfl) | (rcases hr with rfl | rfl <;> rfl) | (rcases hr with rfl | rfl | rfl <;> rfl) | (rcases hr with rfl | rfl | rfl | rfl <;> rfl))
                  | (refine And.intro ?_ ?_ <;> simp only [List.length_map, List.length_append, List.length_cons, List.length_nil] <;> omega))
                refine callG_intro (g2) ?_
                repeat' (
                  (conv => whnf)
                  first
                  | refine seq_inl ?_
                  | refine And.intro (Obl.out (?_ : Obl _)) ?_
                  | refine ifB_intro (fun h => ?_) (fun h => ?_)
                  | refine Or.inl (call_intro (d2) (And.intro rfl trivial) ?_)
                  | refine Exists.intro _ (And.intro rfl ?_)
                  | ((with_reducible show _ = _); rfl))
                all_goals try (
                  (with_reducible refine Obl.mk ?_)
                  first
                  | ((with_reducible show regOk _ _ = true); kernel_rfl)
                  | ((with_reducible show eqTyOk _ _ = true); kernel_rfl)
                  | rfl
                  | exact trivial
                  | ((repeat' (first | exact trivial | refine And.intro ?_ ?_)); done)
                  | decide
                  | (intro r hr; simp only [List.mem_cons, List.not_mem_nil, or_false] at hr; first | (subst hr; rfl) | (rcases hr with rfl | rfl <;> rfl) | (rcases hr with rfl | rfl | rfl <;> rfl) | (rcases hr with rfl | rfl | rfl | rfl <;> rfl))
                  | (refine And.intro ?_ ?_ <;> simp only [List.length_map, List.length_append, List.length_cons, List.length_nil] <;> omega))
                refine callG_intro (g3) ?_
                repeat' (
                  (conv => whnf)
                  first
                  | refine seq_inl ?_
                  | refine And.intro (Obl.out (?_ : Obl _)) ?_
                  | refine ifB_intro (fun h => ?_) (fun h => ?_)
                  | refine Or.inl (call_intro (d3) (And.intro rfl trivial) ?_)
                  | refine Exists.intro _ (And.intro rfl ?_)
                  | ((with_reducible show _ = _); rfl))
                all_goals try (
                  (with_reducible refine Obl.mk ?_)
                  first
                  | ((with_reducible show regOk _ _ = true); kernel_rfl)
                  | ((with_reducible show eqTyOk _ _ = true); kernel_rfl)
                  | rfl
                  | exact trivial
                  | ((repeat' (first | exact trivial | refine And.intro ?_ ?_)); done)
                  | decide
                  | (intro r hr; simp only [List.mem_cons, List.not_mem_nil, or_false] at hr; first | (subst hr; rfl) | (rcases hr with rfl | rfl <;> rfl) | (rcases hr with rfl | rfl | rfl <;> rfl) | (rcases hr with rfl | rfl | rfl | rfl <;> rfl))
                  | (refine And.intro ?_ ?_ <;> simp only [List.length_map, List.length_append, List.length_cons, List.length_nil] <;> omega))
                all_goals try (exfalso; first | (simp at h; done) | (have h' := of_decide_eq_true h; simp at h'; done))
              | some ro =>
                match q3 : decodeInlines t3 with
                | none =>
                  rw [q1, q2, q3] at hrr
                  rw [q1] at d1
                  rw [q2] at d2
                  rw [q3] at d3
                  dsimp only at hrr
                  subst hrr
                  repeat' (
                    (conv => whnf)
                    first
                    | refine seq_inl ?_
                    | refine And.intro (Obl.out (?_ : Obl _)) ?_
                    | refine ifB_intro (fun h => ?_) (fun h => ?_)
                    | refine Exists.intro _ (And.intro rfl ?_)
                    | ((with_reducible show _ = _); rfl))
                  all_goals try (
                    (with_reducible refine Obl.mk ?_)
                    first
                    | ((with_reducible show regOk _ _ = true); kernel_rfl)
                    | ((with_reducible show eqTyOk _ _ = true); kernel_rfl)
                    | rfl
                    | exact trivial
                    | ((repeat' (first | exact trivial | refine And.intro ?_ ?_)); done)
                    | decide
                    | (intro r hr; simp only [List.mem_cons, List.not_mem_nil, or_false] at hr; first | (subst hr; rfl) | (rcases hr with rfl | rfl <;> rfl) | (rcases hr with rfl | rfl | rfl <;> rfl) | (rcases hr with rfl | rfl | rfl | rfl <;> rfl))
                    | (refine And.intro ?_ ?_ <;> simp only [List.length_map, List.length_append, List.length_cons, List.length_nil] <;> omega))
                  refine callG_intro (g1) ?_
                  repeat' (
                    (conv => whnf)
                    first
                    | refine seq_inl ?_
                    | refine And.intro (Obl.out (?_ : Obl _)) ?_
                    | refine ifB_intro (fun h => ?_) (fun h => ?_)
                    | refine Or.inl (call_intro (d1) (And.intro rfl trivial) ?_)
                    | refine Exists.intro _ (And.intro rfl ?_)
                    | ((with_reducible show _ = _); rfl))
                  all_goals try (
                    (with_reducible refine Obl.mk ?_)
                    first
                    | ((with_reducible show regOk _ _ = true); kernel_rfl)
                    | ((with_reducible show eqTyOk _ _ = true); kernel_rfl)
                    | rfl
                    | exact trivial
                    | ((repeat' (first | exact trivial | refine And.intro ?_ ?_)); done)
                    | decide
                    | (intro r hr; simp only [List.mem_cons, List.not_mem_nil, or_false] at hr; first | (subst hr; rfl) | (rcases hr with rfl | rfl <;> rfl) | (rcases hr with rfl | rfl | rfl <;> rfl) | (rcases hr with rfl | rfl | rfl | rfl <;> rfl))
                    | (refine And.intro ?_ ?_ <;> simp only [List.length_map, List.length_append, List.length_cons, List.length_nil] <;> omega))
                  refine callG_intro (g2) ?_
                  repeat' (
                    (conv => whnf)
                    first
                    | refine seq_inl ?_
                    | refine And.intro (Obl.out (?_ : Obl _)) ?_
                    | refine ifB_intro (fun h => ?_) (fun h => ?_)
                    | refine Or.inl (call_intro (d2) (And.intro rfl trivial) ?_)
                    | refine Exists.intro _ (And.intro rfl ?_)
                    | ((with_reducible show _ = _); rfl))
                  all_goals try (
                    (with_reducible refine Obl.mk ?_)
                    first
                    | ((with_reducible show regOk _ _ = true); kernel_rfl)
                    | ((with_reducible show eqTyOk _ _ = true); kernel_rfl)
                    | rfl
                    | exact trivial
                    | ((repeat' (first | exact trivial | refine And.intro ?_ ?_)); done)
                    | decide
                    | (intro r hr; simp only [List.mem_cons, List.not_mem_nil, or_false] at hr; first | (subst hr; rfl) | (rcases hr with rfl | rfl <;> rfl) | (rcases hr with rfl | rfl | rfl <;> rfl) | (rcases hr with rfl | rfl | rfl | rfl <;> rfl))
                    | (refine And.intro ?_ ?_ <;> simp only [List.length_map, List.length_append, List.length_cons, List.length_nil] <;> omega))
                  refine callG_intro (g3) ?_
                  repeat' (
                    (conv => whnf)
                    first
                    | refine seq_inl ?_
                    | refine And.intro (Obl.out (?_ : Obl _)) ?_
                    | refine ifB_intro (fun h => ?_) (fun h => ?_)
                    | refine Or.inl (call_intro (d3) (And.intro rfl trivial) ?_)
                    | refine Exists.intro _ (And.intro rfl ?_)
                    | ((with_reducible show _ = _); rfl))
                  all_goals try (
                    (with_reducible refine Obl.mk ?_)
                    first
                    | ((with_reducible show regOk _ _ = true); kernel_rfl)
                    | ((with_reducible show eqTyOk _ _ = true); kernel_rfl)
                    | rfl
                    | exact trivial
                    | ((repeat' (first | exact trivial | refine And.intro ?_ ?_)); done)
                    | decide
                    | (intro r hr; simp only [List.mem_cons, List.not_mem_nil, or_false] at hr; first | (subst hr; rfl) | (rcases hr with rfl | rfl <;> rfl) | (rcases hr with rfl | rfl | rfl <;> rfl) | (rcases hr with rfl | rfl | rfl | rfl <;> rfl))
                    | (refine And.intro ?_ ?_ <;> simp only [List.length_map, List.length_append, List.length_cons, List.length_nil] <;> omega))
                  all_goals try (exfalso; first | (simp at h; done) | (have h' := of_decide_eq_true h; simp at h'; done))
                | some ri =>
                  rw [q1, q2, q3] at hrr
                  rw [q1] at d1
                  rw [q2] at d2
                  rw [q3] at d3
                  dsimp only at hrr
                  subst hrr
                  have f1 := decodeRules_len (s := t1) (by omega)
                  have f2 := decodeRows_len (s := t2) (by omega)
                  have f3 := decodeInlines_small (s := t3) (by omega)
                  rw [q1] at f1
                  rw [q2] at f2
                  rw [q3] at f3
                  have hE := s_impl_EncodeDebug ⟨id, acc, ru, ro, ri⟩ ⟨by dsimp only; simp at hl; omega, fun x hx => Nat.le_trans (hn x hx) hs, f1, f2, small_nat f3, inl_short f3⟩
                  by_cases hen : encodeDebug ⟨id, acc, ru, ro, ri⟩ = s
                  · rw [dbgFin_yes hen]
                    rw [hen] at hE
                    repeat' (
                      (conv => whnf)
                      first
                      | refine seq_inl ?_
                      | refine And.intro (Obl.out (?_ : Obl _)) ?_
                      | refine ifB_intro (fun h => ?_) (fun h => ?_)
                      | refine Exists.intro _ (And.intro rfl ?_)
                      | ((with_reducible show _ = _); rfl))
                    all_goals try (
                      (with_reducible refine Obl.mk ?_)
                      first
                      | ((with_reducible show regOk _ _ = true); kernel_rfl)
                      | ((with_reducible show eqTyOk _ _ = true); kernel_rfl)
                      | rfl
                      | exact trivial
                      | ((repeat' (first | exact trivial | refine And.intro ?_ ?_)); done)
                      | decide
                      | (intro r hr; simp only [List.mem_cons, List.not_mem_nil, or_false] at hr; first | (subst hr; rfl) | (rcases hr with rfl | rfl <;> rfl) | (rcases hr with rfl | rfl | rfl <;> rfl) | (rcases hr with rfl | rfl | rfl | rfl <;> rfl))
                      | (refine And.intro ?_ ?_ <;> simp only [List.length_map, List.length_append, List.length_cons, List.length_nil] <;> omega))
                    refine callG_intro (g1) ?_
                    repeat' (
                      (conv => whnf)
                      first
                      | refine seq_inl ?_
                      | refine And.intro (Obl.out (?_ : Obl _)) ?_
                      | refine ifB_intro (fun h => ?_) (fun h => ?_)
                      | refine Or.inl (call_intro (d1) (And.intro rfl trivial) ?_)
                      | refine Exists.intro _ (And.intro rfl ?_)
                      | ((with_reducible show _ = _); rfl))
                    all_goals try (
                      (with_reducible refine Obl.mk ?_)
                      first
                      | ((with_reducible show regOk _ _ = true); kernel_rfl)
                      | ((with_reducible show eqTyOk _ _ = true); kernel_rfl)
                      | rfl
                      | exact trivial
                      | ((repeat' (first | exact trivial | refine And.intro ?_ ?_)); done)
                      | decide
                      | (intro r hr; simp only [List.mem_cons, List.not_mem_nil, or_false] at hr; first | (subst hr; rfl) | (rcases hr with rfl | rfl <;> rfl) | (rcases hr with rfl | rfl | rfl <;> rfl) | (rcases hr with rfl | rfl | rfl | rfl <;> rfl))
                      | (refine And.intro ?_ ?_ <;> simp only [List.length_map, List.length_append, List.length_cons, List.length_nil] <;> omega))
                    refine callG_intro (g2) ?_
                    repeat' (
                      (conv => whnf)
                      first
                      | refine seq_inl ?_
                      | refine And.intro (Obl.out (?_ : Obl _)) ?_
                      | refine ifB_intro (fun h => ?_) (fun h => ?_)
                      | refine Or.inl (call_intro (d2) (And.intro rfl trivial) ?_)
                      | refine Exists.intro _ (And.intro rfl ?_)
                      | ((with_reducible show _ = _); rfl))
                    all_goals try (
                      (with_reducible refine Obl.mk ?_)
                      first
                      | ((with_reducible show regOk _ _ = true); kernel_rfl)
                      | ((with_reducible show eqTyOk _ _ = true); kernel_rfl)
                      | rfl
                      | exact trivial
                      | ((repeat' (first | exact trivial | refine And.intro ?_ ?_)); done)
                      | decide
                      | (intro r hr; simp only [List.mem_cons, List.not_mem_nil, or_false] at hr; first | (subst hr; rfl) | (rcases hr with rfl | rfl <;> rfl) | (rcases hr with rfl | rfl | rfl <;> rfl) | (rcases hr with rfl | rfl | rfl | rfl <;> rfl))
                      | (refine And.intro ?_ ?_ <;> simp only [List.length_map, List.length_append, List.length_cons, List.length_nil] <;> omega))
                    refine callG_intro (g3) ?_
                    repeat' (
                      (conv => whnf)
                      first
                      | refine seq_inl ?_
                      | refine And.intro (Obl.out (?_ : Obl _)) ?_
                      | refine ifB_intro (fun h => ?_) (fun h => ?_)
                      | refine Or.inl (call_intro (d3) (And.intro rfl trivial) ?_)
                      | refine Or.inl (call_intro (hE) (And.intro (And.intro rfl (And.intro rfl (And.intro rfl (And.intro rfl (And.intro rfl trivial))))) trivial) ?_)
                      | refine Exists.intro _ (And.intro rfl ?_)
                      | ((with_reducible show _ = _); rfl))
                    all_goals try (
                      (with_reducible refine Obl.mk ?_)
                      first
                      | ((with_reducible show regOk _ _ = true); kernel_rfl)
                      | ((with_reducible show eqTyOk _ _ = true); kernel_rfl)
                      | rfl
                      | exact trivial
                      | ((repeat' (first | exact trivial | refine And.intro ?_ ?_)); done)
                      | decide
                      | (intro r hr; simp only [List.mem_cons, List.not_mem_nil, or_false] at hr; first | (subst hr; rfl) | (rcases hr with rfl | rfl <;> rfl) | (rcases hr with rfl | rfl | rfl <;> rfl) | (rcases hr with rfl | rfl | rfl | rfl <;> rfl))
                      | (refine And.intro ?_ ?_ <;> simp only [List.length_map, List.length_append, List.length_cons, List.length_nil] <;> omega))
                    all_goals try (exfalso; first | (simp at h; done) | (have h' := of_decide_eq_true h; simp at h'; done))
                  · rw [dbgFin_no hen]
                    have hne : (encodeDebug ⟨id, acc, ru, ro, ri⟩ == s) = false := by simpa using hen
                    repeat' (
                      (conv => whnf)
                      first
                      | refine seq_inl ?_
                      | refine And.intro (Obl.out (?_ : Obl _)) ?_
                      | refine ifB_intro (fun h => ?_) (fun h => ?_)
                      | refine Exists.intro _ (And.intro rfl ?_)
                      | ((with_reducible show _ = _); rfl))
                    all_goals try (
                      (with_reducible refine Obl.mk ?_)
                      first
                      | ((with_reducible show regOk _ _ = true); kernel_rfl)
                      | ((with_reducible show eqTyOk _ _ = true); kernel_rfl)
                      | rfl
                      | exact trivial
                      | ((repeat' (first | exact trivial | refine And.intro ?_ ?_)); done)
                      | decide
                      | (intro r hr; simp only [List.mem_cons, List.not_mem_nil, or_false] at hr; first | (subst hr; rfl) | (rcases hr with rfl | rfl <;> rfl) | (rcases hr with rfl | rfl | rfl <;> rfl) | (rcases hr with rfl | rfl | rfl | rfl <;> rfl))
                      | (refine And.intro ?_ ?_ <;> simp only [List.length_map, List.length_append, List.length_cons, List.length_nil] <;> omega))
                    refine callG_intro (g1) ?_
                    repeat' (
                      (conv => whnf)
                      first
                      | refine seq_inl ?_
                      | refine And.intro (Obl.out (?_ : Obl _)) ?_
                      | refine ifB_intro (fun h => ?_) (fun h => ?_)
                      | refine Or.inl (call_intro (d1) (And.intro rfl trivial) ?_)
                      | refine Exists.intro _ (And.intro rfl ?_)
                      | ((with_reducible show _ = _); rfl))
                    all_goals try (
                      (with_reducible refine Obl.mk ?_)
                      first
                      | ((with_reducible show regOk _ _ = true); kernel_rfl)
                      | ((with_reducible show eqTyOk _ _ = true); kernel_rfl)
                      | rfl
                      | exact trivial
                      | ((repeat' (first | exact trivial | refine And.intro ?_ ?_)); done)
                      | decide
                      | (intro r hr; simp only [List.mem_cons, List.not_mem_nil, or_false] at hr; first | (subst hr; rfl) | (rcases hr with rfl | rfl <;> rfl) | (rcases hr with rfl | rfl | rfl <;> rfl) | (rcases hr with rfl | rfl | rfl | rfl <;> rfl))
                      | (refine And.intro ?_ ?_ <;> simp only [List.length_map, List.length_append, List.length_cons, List.length_nil] <;> omega))
                    refine callG_intro (g2) ?_
                    repeat' (
                      (conv => whnf)
                      first
                      | refine seq_inl ?_
                      | refine And.intro (Obl.out (?_ : Obl _)) ?_
                      | refine ifB_intro (fun h => ?_) (fun h => ?_)
                      | refine Or.inl (call_intro (d2) (And.intro rfl trivial) ?_)
                      | refine Exists.intro _ (And.intro rfl ?_)
                      | ((with_reducible show _ = _); rfl))
                    all_goals try (
                      (with_reducible refine Obl.mk ?_)
                      first
                      | ((with_reducible show regOk _ _ = true); kernel_rfl)
                      | ((with_reducible show eqTyOk _ _ = true); kernel_rfl)
                      | rfl
                      | exact trivial
                      | ((repeat' (first | exact trivial | refine And.intro ?_ ?_)); done)
                      | decide
                      | (intro r hr; simp only [List.mem_cons, List.not_mem_nil, or_false] at hr; first | (subst hr; rfl) | (rcases hr with rfl | rfl <;> rfl) | (rcases hr with rfl | rfl | rfl <;> rfl) | (rcases hr with rfl | rfl | rfl | rfl <;> rfl))
                      | (refine And.intro ?_ ?_ <;> simp only [List.length_map, List.length_append, List.length_cons, List.length_nil] <;> omega))
                    refine callG_intro (g3) ?_
                    repeat' (
                      (conv => whnf)
                      first
                      | refine seq_inl ?_
                      | refine And.intro (Obl.out (?_ : Obl _)) ?_
                      | refine ifB_intro (fun h => ?_) (fun h => ?_)
                      | refine Or.inl (call_intro (d3) (And.intro rfl trivial) ?_)
                      | refine Or.inl (call_intro (hE) (And.intro (And.intro rfl (And.intro rfl (And.intro rfl (And.intro rfl (And.intro rfl trivial))))) trivial) ?_)
                      | refine Exists.intro _ (And.intro rfl ?_)
                      | ((with_reducible show _ = _); rfl))
                    all_goals try (
                      (with_reducible refine Obl.mk ?_)
                      first
                      | ((with_reducible show regOk _ _ = true); kernel_rfl)
                      | ((with_reducible show eqTyOk _ _ = true); kernel_rfl)
                      | rfl
                      | exact trivial
                      | ((repeat' (first | exact trivial | refine And.intro ?_ ?_)); done)
                      | decide
                      | (intro r hr; simp only [List.mem_cons, List.not_mem_nil, or_false] at hr; first | (subst hr; rfl) | (rcases hr with rfl | rfl <;> rfl) | (rcases hr with rfl | rfl | rfl <;> rfl) | (rcases hr with rfl | rfl | rfl | rfl <;> rfl))
                      | (refine And.intro ?_ ?_ <;> simp only [List.length_map, List.length_append, List.length_cons, List.length_nil] <;> omega))
                    all_goals try (exfalso; first | (simp at h; done) | (have h' := of_decide_eq_true h; simp at h'; done))
                    all_goals try (exfalso; have h' := h; rw [show (encodeDebug ⟨id, acc, ru, ro, ri⟩ != s) = !(encodeDebug ⟨id, acc, ru, ro, ri⟩ == s) from rfl, hne] at h'; simp at h'; done)
                    all_goals try (exfalso; rw [hne] at h; simp at h; done)
    | succ k =>
      obtain ⟨nm, y, c1, w1, ht1, hl1, g1⟩ := text_gen s p false hs hp
      obtain ⟨x0, x1, z, c2, w2, ht2, g2⟩ := ints_gen s (p + y) (false || c1) hs ht1
      have hrr := hr.2 rfl
      repeat' (
        (conv => whnf)
        first
        | refine seq_inl ?_
        | refine And.intro (Obl.out (?_ : Obl _)) ?_
        | refine ifB_intro (fun h => ?_) (fun h => ?_)
        | refine Exists.intro _ (And.intro rfl ?_)
        | ((with_reducible show _ = _); rfl))
      all_goals try (
        (with_reducible refine Obl.mk ?_)
        first
        | ((with_reducible show regOk _ _ = true); kernel_rfl)
        | ((with_reducible show eqTyOk _ _ = true); kernel_rfl)
        | rfl
        | exact trivial
        | ((repeat' (first | exact trivial | refine And.intro ?_ ?_)); done)
        | decide
        | (intro r hr; simp only [List.mem_cons, List.not_mem_nil, or_false] at hr; first | (subst hr; rfl) | (rcases hr with rfl | rfl <;> rfl) | (rcases hr with rfl | rfl | rfl <;> rfl) | (rcases hr with rfl | rfl | rfl | rfl <;> rfl))
        | (refine And.intro ?_ ?_ <;> simp only [List.length_map, List.length_append, List.length_cons, List.length_nil] <;> omega))
      refine callG_intro (g1) ?_
      repeat' (
        (conv => whnf)
        first
        | refine seq_inl ?_
        | refine And.intro (Obl.out (?_ : Obl _)) ?_
        | refine ifB_intro (fun h => ?_) (fun h => ?_)
        | refine Exists.intro _ (And.intro rfl ?_)
        | ((with_reducible show _ = _); rfl))
      all_goals try (
        (with_reducible refine Obl.mk ?_)
        first
        | ((with_reducible show regOk _ _ = true); kernel_rfl)
        | ((with_reducible show eqTyOk _ _ = true); kernel_rfl)
        | rfl
        | exact trivial
        | ((repeat' (first | exact trivial | refine And.intro ?_ ?_)); done)
        | decide
        | (intro r hr; simp only [List.mem_cons, List.not_mem_nil, or_false] at hr; first | (subst hr; rfl) | (rcases hr with rfl | rfl <;> rfl) | (rcases hr with rfl | rfl | rfl <;> rfl) | (rcases hr with rfl | rfl | rfl | rfl <;> rfl))
        | (refine And.intro ?_ ?_ <;> simp only [List.length_map, List.length_append, List.length_cons, List.length_nil] <;> omega))
      refine callG_intro (g2) ?_
      repeat' (
        (conv => whnf)
        first
        | refine seq_inl ?_
        | refine And.intro (Obl.out (?_ : Obl _)) ?_
        | refine ifB_intro (fun h => ?_) (fun h => ?_)
        | refine ⟨0, rfl, ?_⟩
        | refine ⟨1, rfl, ?_⟩
        | refine Exists.intro _ (And.intro rfl ?_)
        | ((with_reducible show _ = _); rfl))
      all_goals try (
        (with_reducible refine Obl.mk ?_)
        first
        | ((with_reducible show regOk _ _ = true); kernel_rfl)
        | ((with_reducible show eqTyOk _ _ = true); kernel_rfl)
        | rfl
        | exact trivial
        | ((repeat' (first | exact trivial | refine And.intro ?_ ?_)); done)
        | decide
        | (intro r hr; simp only [List.mem_cons, List.not_mem_nil, or_false] at hr; first | (subst hr; rfl) | (rcases hr with rfl | rfl <;> rfl) | (rcases hr with rfl | rfl | rfl <;> rfl) | (rcases hr with rfl | rfl | rfl | rfl <;> rfl))
        | (refine And.intro ?_ ?_ <;> simp only [List.length_map, List.length_append, List.length_cons, List.length_nil] <;> omega))
      all_goals try (refine ⟨?_⟩; simp; done)
      all_goals try (refine ⟨?_⟩; simp only [List.length_map, List.length_cons, List.length_nil]; simp at hl; exact ⟨by omega, by omega⟩)
      all_goals try (exfalso; first | (simp at h; done) | (have h' := of_decide_eq_false h; omega))
      conv => whnf
      refine ⟨⟨k, p + y + z, acc ++ [⟨nm, if (false || c1 || c2) = true then 0 else x0, if (false || c1 || c2) = true then 0 else x1⟩], false || c1 || c2, by omega, ht2, ?_, ?_, ?_⟩, ?_, by dsimp only; simp only [Bool.false_eq_true, if_false]; split <;> omega⟩
      · simp only [List.length_append, List.length_cons, List.length_nil, Bool.false_or]
        simp at hl
        rcases w1 with ⟨e1, rfl⟩ | ⟨e1, rfl⟩
        · simp only [Bool.true_or, if_true]; omega
        · rcases w2 with ⟨e2, rfl⟩ | ⟨e2, rfl, hz⟩
          · simp only [Bool.or_true, if_true]; omega
          · simp; omega
      · intro x hx
        rcases List.mem_append.1 hx with hx | hx
        · exact hn x hx
        · rw [List.mem_singleton.1 hx]; exact hl1
      · rcases w1 with ⟨e1, rfl⟩ | ⟨e1, rfl⟩
        · rw [rest_bad1 e1] at hrr
          exact ⟨fun _ => hrr.symm, fun h => by simp at h⟩
        · rcases w2 with ⟨e2, rfl⟩ | ⟨e2, rfl, hz⟩
          · rw [rest_bad2 e1 e2] at hrr
            exact ⟨fun _ => hrr.symm, fun h => by simp at h⟩
          · rw [rest_good e1 e2] at hrr
            exact ⟨fun h => by simp at h, fun _ => hrr⟩
      repeat' (
        (conv => whnf)
        first
        | refine Or.inl ?_
        | refine And.intro (Obl.out (?_ : Obl _)) ?_
        | refine ifB_intro (fun h => ?_) (fun h => ?_)
        | refine Exists.intro _ (And.intro rfl ?_)
        | ((with_reducible show _ = _); rfl))
      all_goals try (
        (with_reducible refine Obl.mk ?_)
        first
        | ((with_reducible show regOk _ _ = true); kernel_rfl)
        | ((with_reducible show eqTyOk _ _ = true); kernel_rfl)
        | rfl
        | exact trivial
        | ((repeat' (first | exact trivial | refine And.intro ?_ ?_)); done)
        | decide
        | (intro r hr; simp only [List.mem_cons, List.not_mem_nil, or_false] at hr; first | (subst hr; rfl) | (rcases hr with rfl | rfl <;> rfl) | (rcases hr with rfl | rfl | rfl <;> rfl) | (rcases hr with rfl | rfl | rfl | rfl <;> rfl))
        | (refine And.intro ?_ ?_ <;> simp only [List.length_map, List.length_append, List.length_cons, List.length_nil] <;> omega))
      all_goals first
        | (refine ⟨?_⟩; dsimp only; rw [IntWalk.i64_in _ (by omega)]; congr 1; omega)
        | (refine ⟨?_⟩; dsimp only; rw [List.map_append]; rfl)
end Go.Proofs.Ytflolafbblohnaa
