/- The other operations that leave memory alone. -/
import Derived.Test.YtehniaekfijmiaaSimE
import Derived.Laws.StructEq
namespace Go.Sim
open Go.RowKit
section
variable {P : Program} {Γ : Env} {N B : Nat} {M : Nat → Prop} {w0 : Start} {ρ : Rho} {s : F_} {a : Act} {w : World} {o : Oper} {ev : Operand → AV} {H : Id → Option AO} {K : Eff → Prop} {KV : AV → Prop}
theorem sound_bin {op : BinOp} {T yt : TypeId} {x y : Operand} (ho : o.op = .binOp op T x y yt) (h : semBin op (ev x) (ev y) KV) : ∃ v, KV v ∧ Good P o ev H (.val v []) := by
  obtain ⟨t, hK, hr⟩ := semBin_ok h
  refine ⟨_, hK, good_val fun N B M w0 ρ s a w hc hop hR => ?_⟩
  have h1 := (hc.eval x).1
  have h2 := (hc.eval y).1
  rw [hop x (by simp [ho, Op.operands])] at h1
  rw [hop y (by simp [ho, Op.operands])] at h2
  obtain ⟨z, e1, e2⟩ := hr P B ρ w (okB ρ s.H w) T x y _ _ h1 h2
  have e : execOp a.eval o = (do eqGuard op T x y (a.eval x) (a.eval y); binOp op T (a.eval x) (a.eval y)) >>= fun v => pure (.value v) := by unfold execOp; rw [ho]
  exact ⟨z, by rw [e, Sem.run_bind, e1]; rfl, e2, by simp [AV.ids, AR.ids, AC.ids]⟩
theorem run_equalIn_bool {T : TypeId} (hu : P.underlying T = some .bool) (p q : Bool) (n : Nat) : (Op.equalIn (n + 1) T (.bool p) (.bool q)).run P w = .ok (p == q) w := by
  simp [Op.equalIn, run_underlying hu]
theorem run_equal_bool {T : TypeId} (hu : P.underlying T = some .bool) (p q : Bool) : (Op.equal T (.bool p) (.bool q)).run P w = .ok (p == q) w := run_equalIn_bool hu p q 9999
theorem sound_bool {op : BinOp} {T yt : TypeId} {x y : Operand} {ti : TI} (hΓ : Γ.chk P = true) (hT : Γ.get T = some ti) (hb : ti.bool = true) (ho : o.op = .binOp op T x y yt) (h : semBool op (ev x) (ev y) KV) : ∃ v, KV v ∧ Good P o ev H (.val v []) := by
  obtain ⟨ii, d, fit⟩ := Env.fit hΓ hT
  have hd : d = .bool := by have := fit.bool; rw [hb] at this; cases d <;> simp [dBool] at this ⊢
  subst hd
  unfold semBool at h
  split at h
  · rename_i p q hx hy
    split at h
    · refine ⟨_, h, good_val fun N B M w0 ρ s a w hc hop hR => ?_⟩
      have h1 := (hc.eval x).1
      have h2 := (hc.eval y).1
      rw [hop x (by simp [ho, Op.operands]), hx] at h1
      rw [hop y (by simp [ho, Op.operands]), hy] at h2
      have e1 := inv_bool h1
      have e2 := inv_bool h2
      exact ⟨.bool (p == q), by simp only [execOp, ho, e1, e2, Sem.run_bind, run_eqGuard_bool, Result.andThen_ok, binOp, run_equal_bool fit.und, Sem.run_pure], .bool _, by simp [AV.ids, AR.ids, AC.ids]⟩
    · refine ⟨_, h, good_val fun N B M w0 ρ s a w hc hop hR => ?_⟩
      have h1 := (hc.eval x).1
      have h2 := (hc.eval y).1
      rw [hop x (by simp [ho, Op.operands]), hx] at h1
      rw [hop y (by simp [ho, Op.operands]), hy] at h2
      have e1 := inv_bool h1
      have e2 := inv_bool h2
      exact ⟨.bool (!(p == q)), by simp only [execOp, ho, e1, e2, Sem.run_bind, run_eqGuard_bool, Result.andThen_ok, binOp, run_equal_bool fit.und, Sem.run_pure], .bool _, by simp [AV.ids, AR.ids, AC.ids]⟩
    · exact h.elim
  · exact h.elim
theorem run_part_one {P : Program} {e : TypeId} {d : TypeDesc} (w : World) (hu : P.underlying e = some d) (ha : dAgg d = false) {xs : Array Value} {off : Nat} {v : Value} (hx : xs[off]? = some v) : (part e xs off).run P w = .ok v w := by
  cases d <;> simp [dAgg] at ha <;> simp [part, isAgg, run_underlying hu, hx]
theorem plainS_inv {P : Program} {Γ : Env} (hΓ : Γ.chk P = true) {t : TypeId} {k : Nat} (h : plainS Γ t = some k) : ∃ d, P.underlying t = some d ∧ dAgg d = false ∧ ((k = 0 ∧ ∃ q, d = .int q) ∨ (k = 1 ∧ d = .bool) ∨ (k = 2 ∧ d = .string)) := by
  unfold plainS at h
  cases hT : Γ.get t with
  | none => rw [hT] at h; cases h
  | some ti =>
    rw [hT] at h
    dsimp only at h
    obtain ⟨ii, d, fit⟩ := Env.fit hΓ hT
    have h1 := fit.agg
    have h2 := fit.kind
    have h3 := fit.bool
    have h4 := fit.str
    refine ⟨d, fit.und, ?_, ?_⟩
    · rw [h1]; split at h <;> first | assumption | (cases h; done) | simp_all
    · split at h
      · rename_i e1 e2
        rw [e2] at h2
        cases d <;> simp [dKind] at h2
        injection h with h; exact .inl ⟨h.symm, _, rfl⟩
      · rename_i e1 e2 e3
        rw [e3] at h3
        cases d <;> simp [dBool] at h3
        injection h with h; exact .inr (.inl ⟨h.symm, rfl⟩)
      · rename_i e1 e2 e3 e4
        rw [e4] at h4
        cases d <;> simp [dStr] at h4
        injection h with h; exact .inr (.inr ⟨h.symm, rfl⟩)
      · cases h
theorem drop_head {i : Nat} {U : Array Value} {u : Value} {us : List Value} (h : U.toList.drop i = u :: us) : U[i]? = some u ∧ U.toList.drop (i + 1) = us := by
  have h0 := congrArg (·[0]?) h
  simp only [List.getElem?_cons_zero, List.getElem?_drop, Nat.add_zero] at h0
  refine ⟨by simpa using h0, ?_⟩
  have := congrArg (·.drop 1) h
  simpa [List.drop_drop, Nat.add_comm] using this
theorem eqCs_ok {P : Program} {Γ : Env} (hΓ : Γ.chk P = true) : ∀ (l : List (Nat × Nat × TypeId)) (i : Nat) (xs ys : List AC) (K : Bool → Prop), eqCs Γ i l xs ys K → ∃ r, K r ∧
    ∀ (fs : List Field) (U V : Array Value) (B : Nat) (ρ : Rho) (w : World) (ok : Nat → Prop) (us vs : List Value), fs.map (fun f => (f.offset, P.cellsOf f.type, f.type)) = l → (∀ f ∈ fs, f.name ≠ "_") → U.toList.drop i = us → V.toList.drop i = vs → RCs B ρ w ok us xs → RCs B ρ w ok vs ys →
      ∀ (d : Nat) (w' : World), (Op.eqFields (d + 1) U V fs).run P w' = .ok r w'
  | [], i, [], [], K, h => ⟨true, h, fun fs U V B ρ w ok us vs hf _ _ _ _ _ d w' => by
      rw [List.map_eq_nil_iff] at hf; subst hf; simp [Op.eqFields]⟩
  | [], _, _ :: _, _, _, h => by simp [eqCs] at h
  | [], _, [], _ :: _, _, h => by simp [eqCs] at h
  | _ :: _, _, [], _, _, h => by simp [eqCs] at h
  | _ :: _, _, _ :: _, [], _, h => by simp [eqCs] at h
  | (off, sz, ft) :: l, i, x :: xs, y :: ys, K, h => by
    have key : ∀ (b : Bool), (∃ r, K (b && r) ∧ ∀ (fs : List Field) (U V : Array Value) (B : Nat) (ρ : Rho) (w : World) (ok : Nat → Prop) (us vs : List Value), fs.map (fun f => (f.offset, P.cellsOf f.type, f.type)) = l → (∀ f ∈ fs, f.name ≠ "_") → U.toList.drop (i + 1) = us → V.toList.drop (i + 1) = vs → RCs B ρ w ok us xs → RCs B ρ w ok vs ys →
        ∀ (d : Nat) (w' : World), (Op.eqFields (d + 1) U V fs).run P w' = .ok r w') → off = i →
        (∀ (B : Nat) (ρ : Rho) (w : World) (ok : Nat → Prop) (u v : Value), RC B ρ w ok u x → RC B ρ w ok v y → ∀ (U V : Array Value), U[i]? = some u → V[i]? = some v → ∀ (d : Nat) (w' : World), (part ft U i).run P w' = .ok u w' ∧ (part ft V i).run P w' = .ok v w' ∧ (Op.equalIn (d + 1) ft u v).run P w' = .ok b w') →
        ∃ r, K r ∧ ∀ (fs : List Field) (U V : Array Value) (B : Nat) (ρ : Rho) (w : World) (ok : Nat → Prop) (us vs : List Value), fs.map (fun f => (f.offset, P.cellsOf f.type, f.type)) = (off, sz, ft) :: l → (∀ f ∈ fs, f.name ≠ "_") → U.toList.drop i = us → V.toList.drop i = vs → RCs B ρ w ok us (x :: xs) → RCs B ρ w ok vs (y :: ys) →
          ∀ (d : Nat) (w' : World), (Op.eqFields (d + 1) U V fs).run P w' = .ok r w' := by
      rintro b ⟨r, hK, hr⟩ rfl hc
      refine ⟨b && r, hK, ?_⟩
      intro fs U V B ρ w ok us vs hf hn hU hV hu hv d w'
      match fs, hf, hn with
      | [], hf, _ => simp at hf
      | f :: fs, hf, hn =>
        simp only [List.map_cons, List.cons.injEq, Prod.mk.injEq] at hf
        obtain ⟨⟨f1, f2, f3⟩, hf⟩ := hf
        match us, vs, hu, hv with
        | u :: us, v :: vs, hu, hv =>
          obtain ⟨a1, a2⟩ := drop_head hU
          obtain ⟨b1, b2⟩ := drop_head hV
          obtain ⟨c1, c2, c3⟩ := hc B ρ w ok u v hu.1 hv.1 U V a1 b1 d w'
          have hrest := hr fs U V B ρ w ok us vs hf (fun g hg => hn g (by simp [hg])) a2 b2 hu.2 hv.2 d w'
          have hname : f.name ≠ "_" := hn f (by simp)
          simp only [Op.eqFields, if_pos hname, Sem.run_bind, f1, f3, c1, c2, c3, Result.andThen_ok]
          cases b
          · simp
          · simp only [Bool.not_true, Bool.false_eq_true, if_false, Bool.true_and]
            exact hrest
    rw [eqCs.eq_def] at h
    dsimp only at h
    split at h
    · rename_i k a k' b e1 e2
      obtain ⟨rfl, h⟩ := h
      obtain ⟨r, h1, h2⟩ := eqCs_ok hΓ l (i + 1) xs ys _ h
      obtain ⟨D, hu, hag, hD⟩ := plainS_inv hΓ e2
      refine key (a == b) ⟨r, h1, h2⟩ (Nat.eq_of_beq_eq_true e1) ?_
      intro B ρ w ok u v hu' hv' U V hU hV d w'
      have q1 : u = .int k a := by cases hu'; rfl
      have q2 : v = .int k b := by cases hv'; rfl
      subst q1; subst q2
      rcases hD with ⟨_, q, rfl⟩ | ⟨h0, _⟩ | ⟨h0, _⟩
      · exact ⟨run_part_one w' hu hag hU, run_part_one w' hu hag hV, run_equalIn_int w' d ft k q a b hu⟩
      · cases h0
      · cases h0
    · rename_i a b e1 e2
      obtain ⟨r, h1, h2⟩ := eqCs_ok hΓ l (i + 1) xs ys _ h
      obtain ⟨D, hu, hag, hD⟩ := plainS_inv hΓ e2
      refine key (a == b) ⟨r, h1, h2⟩ (Nat.eq_of_beq_eq_true e1) ?_
      intro B ρ w ok u v hu' hv' U V hU hV d w'
      have q1 : u = .bool a := by cases hu'; rfl
      have q2 : v = .bool b := by cases hv'; rfl
      subst q1; subst q2
      rcases hD with ⟨h0, _⟩ | ⟨_, rfl⟩ | ⟨h0, _⟩
      · cases h0
      · exact ⟨run_part_one w' hu hag hU, run_part_one w' hu hag hV, run_equalIn_bool' w' d ft a b hu⟩
      · cases h0
    · rename_i a b e1 e2
      obtain ⟨r, h1, h2⟩ := eqCs_ok hΓ l (i + 1) xs ys _ h
      obtain ⟨D, hu, hag, hD⟩ := plainS_inv hΓ e2
      refine key (a == b) ⟨r, h1, h2⟩ (Nat.eq_of_beq_eq_true e1) ?_
      intro B ρ w ok u v hu' hv' U V hU hV d w'
      have q1 : u = .string ⟨a.toArray⟩ := by cases hu'; rfl
      have q2 : v = .string ⟨b.toArray⟩ := by cases hv'; rfl
      subst q1; subst q2
      rcases hD with ⟨h0, _⟩ | ⟨h0, _⟩ | ⟨_, rfl⟩
      · cases h0
      · cases h0
      · refine ⟨run_part_one w' hu hag hU, run_part_one w' hu hag hV, ?_⟩
        rw [run_equalIn_string w' d ft _ _ hu]
        simp [ByteArray.toList_eq]
    · exact h.elim
theorem sound_eqS {op : BinOp} {T yt : TypeId} {x y : Operand} {ti : TI} {xs : List AC} (hΓ : Γ.chk P = true) (hT : Γ.get T = some ti) (ho : o.op = .binOp op T x y yt) (hx : ev x = .r (.agg xs)) (hok : eqTyOk P T = true)
    (h : semEqS Γ ti.fields op xs (ev y) KV) : ∃ v, KV v ∧ Good P o ev H (.val v []) := by
  obtain ⟨ii, d, fit⟩ := Env.fit hΓ hT
  unfold eqTyOk at hok
  rw [fit.und] at hok
  split at hok
  · rename_i fs hd
    injection hd with hd
    subst hd
    simp only [Bool.and_eq_true, List.all_eq_true, bne_iff_ne, Bool.not_eq_true'] at hok
    obtain ⟨⟨hn, hs⟩, hg⟩ := hok
    have hfs := fit.fields
    simp only [dFields, Bool.and_eq_true, decide_eq_true_eq] at hfs
    have hfo : P.fieldsOf T = fs := by unfold Program.fieldsOf; rw [fit.und]
    have hund : P.underlying T = some (.struct (P.fieldsOf T)) := by rw [hfo]; exact fit.und
    unfold semEqS at h
    split at h
    · rename_i ys hy
      split at h
      · obtain ⟨r, hK, hr⟩ := eqCs_ok hΓ _ _ _ _ _ h
        refine ⟨_, hK, good_val fun N B M w0 ρ s a w hc hop hR => ?_⟩
        have h1 := (hc.eval x).1
        have h2 := (hc.eval y).1
        rw [hop x (by simp [ho, Op.operands]), hx] at h1
        rw [hop y (by simp [ho, Op.operands]), hy] at h2
        obtain ⟨us, e1, c1⟩ := h1
        obtain ⟨vs, e2, c2⟩ := h2
        have hrun := hr fs.toList us vs B ρ w _ us.toList vs.toList hfs.1 hn (by simp) (by simp) c1 c2 9998 w
        exact ⟨.bool r, by simp only [execOp, ho, e1, e2, Sem.run_bind, run_eqGuard_agg w _ _ _ _ _ _ hg, Result.andThen_ok, run_eql_struct, run_equalIn_struct w 9999 T us vs hund hs, hfo, hrun, Sem.run_pure], .bool _, by simp [AV.ids, AR.ids, AC.ids]⟩
      · obtain ⟨r, hK, hr⟩ := eqCs_ok hΓ _ _ _ _ _ h
        refine ⟨_, hK, good_val fun N B M w0 ρ s a w hc hop hR => ?_⟩
        have h1 := (hc.eval x).1
        have h2 := (hc.eval y).1
        rw [hop x (by simp [ho, Op.operands]), hx] at h1
        rw [hop y (by simp [ho, Op.operands]), hy] at h2
        obtain ⟨us, e1, c1⟩ := h1
        obtain ⟨vs, e2, c2⟩ := h2
        have hrun := hr fs.toList us vs B ρ w _ us.toList vs.toList hfs.1 hn (by simp) (by simp) c1 c2 9998 w
        exact ⟨.bool (!r), by simp only [execOp, ho, e1, e2, Sem.run_bind, run_eqGuard_agg w _ _ _ _ _ _ hg, Result.andThen_ok, run_neq_struct, run_equalIn_struct w 9999 T us vs hund hs, hfo, hrun, Sem.run_pure], .bool _, by simp [AV.ids, AR.ids, AC.ids]⟩
      · exact h.elim
    · exact h.elim
  · cases hok
theorem sound_un {op : UnOp} {T : TypeId} {x : Operand} (ho : o.op = .unOp op T x) (h : semUn op (ev x) KV) : ∃ v, KV v ∧ Good P o ev H (.val v []) := by
  unfold semUn at h
  split at h
  · rename_i b hx
    refine ⟨_, h, good_val fun N B M w0 ρ s a w hc hop hR => ?_⟩
    have h1 := (hc.eval x).1
    rw [hop x (by simp [ho, Op.operands]), hx] at h1
    have e1 := inv_bool h1
    exact ⟨.bool (!b), by simp [execOp, ho, e1, Op.unary], .bool _, by simp [AV.ids, AR.ids, AC.ids]⟩
  · rename_i k n hx
    refine ⟨_, h, good_val fun N B M w0 ρ s a w hc hop hR => ?_⟩
    have h1 := (hc.eval x).1
    rw [hop x (by simp [ho, Op.operands]), hx] at h1
    have e1 := inv_int h1
    exact ⟨.int k (k.wrap (0 - n)), by simp [execOp, ho, e1, Op.unary, Op.intArith], .int _ _, by simp [AV.ids, AR.ids, AC.ids]⟩
  · exact h.elim
theorem sound_extract {i : Nat} {x : Operand} (ho : o.op = .extract x i) (h : semExtract i (ev x) KV) : ∃ v, KV v ∧ Good P o ev H (.val v []) := by
  unfold semExtract at h
  split at h
  · rename_i xs hx
    split at h
    · rename_i r hr
      refine ⟨_, h, good_val fun N B M w0 ρ s a w hc hop hR => ?_⟩
      have h1 := hc.eval x
      rw [hop x (by simp [ho, Op.operands]), hx] at h1
      obtain ⟨⟨us, e1, e2⟩, e3⟩ := h1
      have key : ∀ (us : List Value) (xs : List AR) (i : Nat), RRs B ρ w (okB ρ s.H w) us xs → xs[i]? = some r → ∃ u, us[i]? = some u ∧ RR B ρ w (okB ρ s.H w) u r := by
        intro us
        induction us with
        | nil => intro xs i g hi; cases xs with
          | nil => simp at hi
          | cons => exact g.elim
        | cons u us ih => intro xs i g hi; cases xs with
          | nil => exact g.elim
          | cons y ys => cases i with
            | zero => simp at hi; subst hi; exact ⟨u, by simp, g.1⟩
            | succ i => obtain ⟨u', g1, g2⟩ := ih ys i g.2 (by simpa using hi); exact ⟨u', by simpa using g1, g2⟩
      obtain ⟨u, g1, g2⟩ := key us.toList xs i e2 hr
      refine ⟨u, ?_, g2, fun id hid => e3 id (List.mem_flatMap.2 ⟨r, List.mem_of_getElem? hr, hid⟩)⟩
      have : us[i]? = some u := by simpa using g1
      simp [execOp, ho, e1, Instr.extract, this]
    · exact h.elim
  · exact h.elim
theorem sound_nil {x : Operand} (ho : o.op = .nilCheck x) {v : AV} (hx : ev x = v) (hv : (∃ q off, v = .r (.c (.ptr q off))) ∨ (∃ q sz i off, v = .el q sz i off) ∨ (∃ fr row off, v = .ro fr row off)) : Good P o ev H (.val v []) := by
  refine good_val fun N B M w0 ρ s a w hc hop hR => ?_
  have h1 := hc.eval x
  rw [hop x (by simp [ho, Op.operands]), hx] at h1
  refine ⟨a.eval x, ?_, h1.1, h1.2⟩
  have : ∃ ad, a.eval x = .pointer (some ad) := by
    rcases hv with ⟨q, off, rfl⟩ | ⟨q, sz, i, off, rfl⟩ | ⟨fr, row, off, rfl⟩
    · obtain ⟨⟨b, _, e⟩, _⟩ := h1; exact ⟨_, e⟩
    · obtain ⟨⟨b, n, c, _, _, e⟩, _⟩ := h1; exact ⟨_, e⟩
    · obtain ⟨⟨b, us, e, _⟩, _⟩ := h1; exact ⟨_, e⟩
  obtain ⟨ad, e⟩ := this
  simp [execOp, ho, e]
theorem dslice {T e : TypeId} {ti : TI} {i : TypeInfo} {d : TypeDesc} (fit : ti.Fit P T i d) (he : ti.elem = some e) : d = .slice e := by
  have := fit.elem; rw [he] at this
  cases d <;> simp [dElem] at this
  rw [this]
theorem bnd_ok {ok : Nat → Prop} {dflt y n : Nat} {isSl : Bool} {code : BoundsCode} {v : Option AV} {X : Option Value} (hb : bnd dflt v n) (hv : ∀ u, v = some u → ∃ x, X = some x ∧ RV B ρ w ok x u) (hn : v = none → X = none) (hle : n ≤ y) :
    (match X with | some x => Instr.sliceBound x y code | none => pure dflt).run P w = .ok n w := by
  cases v with
  | none =>
    rw [hn rfl]
    simp only [bnd] at hb
    subst hb
    rfl
  | some u =>
    obtain ⟨x, rfl, hx⟩ := hv u rfl
    unfold bnd at hb
    split at hb
    · rename_i he; cases he
    · rename_i k i he
      injection he with he
      subst he
      subst hb
      rw [inv_int hx]
      simp [Instr.sliceBound, asIntOf, hle]
    · exact hb.elim
theorem run_sliceBounds {ok : Nat → Prop} {isSl : Bool} {len cap l h : Nat} {lo hi : Option Operand} (hop : ∀ x, (lo = some x ∨ hi = some x) → RV B ρ w ok (a.eval x) (ev x))
    (hl : bnd 0 (lo.map ev) l) (hh : bnd len (hi.map ev) h) (h1 : l ≤ h) (h2 : h ≤ cap) : (Instr.sliceBounds isSl len cap (lo.map a.eval) (hi.map a.eval) none).run P w = .ok (l, h, cap) w := by
  have e1 : (match hi.map a.eval with | some x => Instr.sliceBound x cap (if isSl then .sliceAcap else .sliceAlen) | none => pure len).run P w = .ok h w :=
    bnd_ok (ok := ok) (isSl := isSl) hh (fun u hu => by
      cases hi with
      | none => cases hu
      | some x => injection hu with hu; subst hu; exact ⟨_, rfl, hop x (.inr rfl)⟩) (fun hn => by cases hi with | none => rfl | some x => cases hn) h2
  have e2 : (match lo.map a.eval with | some x => Instr.sliceBound x h .sliceB | none => pure 0).run P w = .ok l w :=
    bnd_ok (ok := ok) (isSl := isSl) hl (fun u hu => by
      cases lo with
      | none => cases hu
      | some x => injection hu with hu; subst hu; exact ⟨_, rfl, hop x (.inl rfl)⟩) (fun hn => by cases lo with | none => rfl | some x => cases hn) h1
  unfold Instr.sliceBounds
  cases hi with
  | none =>
    simp only [Option.map_none] at e1 e2 ⊢
    cases lo with
    | none =>
      simp only [Option.map_none] at e2 ⊢
      simp only [Sem.run_pure, Result.ok.injEq, and_true] at e1 e2
      simp [e1, ← e2]
    | some x =>
      simp only [Option.map_some] at e2 ⊢
      simp only [Sem.run_pure, Result.ok.injEq, and_true] at e1
      subst e1
      simp [e2]
  | some y =>
    simp only [Option.map_some] at e1 ⊢
    cases lo with
    | none =>
      simp only [Option.map_none] at e2 ⊢
      simp only [Sem.run_pure, Result.ok.injEq, and_true] at e2
      subst e2
      cases isSl <;> simp at e1 ⊢ <;> simp [e1]
    | some x =>
      simp only [Option.map_some] at e2 ⊢
      cases isSl <;> simp at e1 e2 ⊢ <;> simp [e1, e2]
theorem operands_slice {T : TypeId} {x : Operand} {lo hi : Option Operand} : x ∈ (Op.slice T x lo hi none).operands.toList ∧ ∀ y, (lo = some y ∨ hi = some y) → y ∈ (Op.slice T x lo hi none).operands.toList := by
  refine ⟨by simp [Op.operands], fun y hy => ?_⟩
  rcases hy with rfl | rfl <;> simp [Op.operands]
theorem run_sliceAt {T : TypeId} {d : TypeDesc} (hd : P.underlying T = some d) (hna : dAgg d = false) (v : Value) (lo hi : Option Value) : (Instr.sliceAt T v lo hi none).run P w = (Instr.slice T v lo hi none).run P w := by
  simp only [Instr.sliceAt, Sem.run_bind, run_underlying hd, Result.andThen_ok]
  cases d <;> first | rfl | simp [dAgg] at hna
theorem sound_slice_str {T : TypeId} {x : Operand} {lo hi : Option Operand} {ti : TI} {esz : Nat} (hΓ : Γ.chk P = true) (hT : Γ.get T = some ti) (hs : ti.str = true) (ho : o.op = .slice T x lo hi none) {t : List UInt8} (hx : ev x = tS t)
    (h : semSlice esz (ev x) (lo.map ev) (hi.map ev) H K) : ∃ e, K e ∧ Good P o ev H e := by
  obtain ⟨ii, d, fit⟩ := Env.fit hΓ hT
  have hd : d = .string := by have := fit.str; rw [hs] at this; cases d <;> simp [dStr] at this ⊢
  subst hd
  rw [hx] at h
  obtain ⟨l, hh, b1, b2, h1, h2, hK⟩ := h
  refine ⟨_, hK, good_val fun N B M w0 ρ s a w hc hop hR => ?_⟩
  rw [ho] at hop
  have hv := (hc.eval x).1
  rw [hop x operands_slice.1, hx] at hv
  have e1 := inv_str hv
  have hsz : (⟨t.toArray⟩ : ByteArray).size = t.length := by simp [ByteArray.size]
  refine ⟨.string ⟨((t.take hh).drop l).toArray⟩, ?_, .str _, by simp [AV.ids, AR.ids, AC.ids]⟩
  have hb := run_sliceBounds (P := P) (w := w) (ρ := ρ) (a := a) (ev := ev) (ok := okB ρ s.H w) (isSl := false) (len := t.length) (cap := t.length) (lo := lo) (hi := hi) (fun y hy => by have := (hc.eval y).1; rwa [hop y (operands_slice.2 y hy)] at this) b1 b2 h1 h2
  have he : (⟨t.toArray⟩ : ByteArray).extract l hh = ⟨((t.take hh).drop l).toArray⟩ := by
    apply ByteArray.ext
    simp [ByteArray.data_extract, List.drop_take]
  simp only [execOp, ho, e1, Sem.run_bind, run_sliceAt fit.und rfl, Instr.slice, run_underlying fit.und, Result.andThen_ok, hsz, hb, Option.map_none, Option.isSome_none, Bool.false_eq_true, if_false, Sem.run_pure, he]
theorem sound_slice_lst {T e : TypeId} {x : Operand} {lo hi : Option Operand} {ti te : TI} (hΓ : Γ.chk P = true) (hT : Γ.get T = some ti) (he : ti.elem = some e) (hE : Γ.get e = some te) (ho : o.op = .slice T x lo hi none)
    (h : semSlice te.size (ev x) (lo.map ev) (hi.map ev) H K) (hns : ∀ t, ev x ≠ tS t) : ∃ e, K e ∧ Good P o ev H e := by
  obtain ⟨ii, d, fit⟩ := Env.fit hΓ hT
  obtain ⟨ie, de, fite⟩ := Env.fit hΓ hE
  have hd := dslice fit he
  subst hd
  have run : ∀ (B : Nat) (ρ : Rho) (a : Act) (w : World) (ok : Nat → Prop) (A : Option Addr) (n c l hh : Nat), a.eval x = .slice A n c → (∀ y, (lo = some y ∨ hi = some y) → RV B ρ w ok (a.eval y) (ev y)) → bnd 0 (lo.map ev) l → bnd n (hi.map ev) hh → l ≤ hh → hh ≤ c →
      (execOp a.eval o).run P w = .ok (.value (.slice (if c = l then A else A.map (·.add (l * te.size))) (hh - l) (c - l))) w := by
    intro B ρ a w ok A n c l hh e1 hb b1 b2 h1 h2
    have hb := run_sliceBounds (P := P) (w := w) (ρ := ρ) (a := a) (ev := ev) (ok := ok) (isSl := true) (len := n) (cap := c) (lo := lo) (hi := hi) hb b1 b2 h1 h2
    simp only [execOp, ho, e1, Sem.run_bind, run_sliceAt fit.und rfl, Instr.slice, run_underlying fit.und, Result.andThen_ok, hb, Option.map_none, run_sizeOf fite.info, fite.size, Sem.run_pure]
  unfold semSlice at h
  split at h
  · rename_i t hx; exact absurd hx (hns t)
  · rename_i sz rows hx
    obtain ⟨rfl, l, hh, b1, b2, h1, h2, hK⟩ := h
    refine ⟨_, hK, good_val fun N B M w0 ρ s a w hc hop hR => ?_⟩
    rw [ho] at hop
    have hv := (hc.eval x).1
    rw [hop x operands_slice.1, hx] at hv
    have hv : RT w (okB ρ s.H w) (a.eval x) (.lst te.size rows) := hv
    obtain ⟨A, c, e1, hc1, hc2, hu, _⟩ := hv.slice_inv
    rw [e1] at hv
    exact ⟨_, run B ρ a w (okB ρ s.H w) A _ c l hh e1 (fun y hy => by have := (hc.eval y).1; rwa [hop y (operands_slice.2 y hy)] at this) b1 b2 h1 (by omega), hv.cut l hh h1 h2, by simp [AV.ids, AR.ids, AC.ids]⟩
  · rename_i sz rows hx
    obtain ⟨rfl, l, hh, b1, b2, h1, h2, hK⟩ := h
    refine ⟨_, hK, good_val fun N B M w0 ρ s a w hc hop hR => ?_⟩
    rw [ho] at hop
    have hv := (hc.eval x).1
    rw [hop x operands_slice.1, hx] at hv
    have hv : RT w (okF B (okB ρ s.H w) true) (a.eval x) (.lst te.size rows) := hv
    obtain ⟨A, c, e1, hc1, hc2, hu, _⟩ := hv.slice_inv
    rw [e1] at hv
    exact ⟨_, run B ρ a w (okB ρ s.H w) A _ c l hh e1 (fun y hy => by have := (hc.eval y).1; rwa [hop y (operands_slice.2 y hy)] at this) b1 b2 h1 (by omega), hv.cut l hh h1 h2, by simp [AV.ids, AR.ids, AC.ids]⟩
  · rename_i q hx
    split at h
    · rename_i fr sz rows hq
      split at h
      · rename_i hlo
        obtain ⟨hh, b2, h2, hK⟩ := h
        refine ⟨_, hK, good_val fun N B M w0 ρ s a w hc hop hR => ?_⟩
        rw [ho] at hop
        have hv := hc.eval x
        rw [hop x operands_slice.1, hx] at hv
        obtain ⟨⟨_, e1⟩, hid⟩ := hv
        have hq' : s.H q = some (.arr fr sz rows) := by rw [hR q (by simp)]; exact hq
        obtain ⟨hu, g⟩ := hc.arr hq'
        have hlo' : bnd 0 (lo.map ev) 0 := by rw [hlo]; rfl
        rcases g with ⟨g1, g2⟩ | ⟨b, cap, cur, e, fz, g1, g2, g3, g4, g5, g6, g7, g8, g9⟩
        · rw [g1] at e1
          subst g2
          have hh0 : hh = 0 := by simpa using h2
          subst hh0
          exact ⟨_, run B ρ a w (okB ρ s.H w) none 0 0 0 0 e1 (fun y hy => by have := (hc.eval y).1; rwa [hop y (operands_slice.2 y hy)] at this) hlo' b2 (Nat.le_refl _) (Nat.le_refl _), ⟨none, 0, 0, g1, by simp, Nat.le_refl _⟩, hid⟩
        · rw [g1] at e1
          refine ⟨_, run B ρ a w (okB ρ s.H w) _ _ cap 0 hh e1 (fun y hy => by have := (hc.eval y).1; rwa [hop y (operands_slice.2 y hy)] at this) hlo' b2 (Nat.zero_le _) (by omega), ⟨some ⟨b, 0, none⟩, _, cap, g1, ?_, h2⟩, hid⟩
          simp [add_zero']
      · exact h.elim
    · rename_i sz rows hole hq
      split at h
      · rename_i hlo
        obtain ⟨hh, b2, h2, hK⟩ := h
        refine ⟨_, hK, good_val fun N B M w0 ρ s a w hc hop hR => ?_⟩
        rw [ho] at hop
        have hv := hc.eval x
        rw [hop x operands_slice.1, hx] at hv
        obtain ⟨⟨_, e1⟩, hid⟩ := hv
        have hq' : s.H q = some (.dar sz rows hole) := by rw [hR q (by simp)]; exact hq
        obtain ⟨hu, g⟩ := hc.dar hq'
        have hlo' : bnd 0 (lo.map ev) 0 := by rw [hlo]; rfl
        rcases g with ⟨g1, g2, _⟩ | ⟨b, cap, cur, e, fz, Fp, g1, g2, g3, g4, g5, g6, _⟩
        · rw [g1] at e1
          subst g2
          have hh0 : hh = 0 := by simpa using h2
          subst hh0
          exact ⟨_, run B ρ a w (okB ρ s.H w) none 0 0 0 0 e1 (fun y hy => by have := (hc.eval y).1; rwa [hop y (operands_slice.2 y hy)] at this) hlo' b2 (Nat.le_refl _) (Nat.le_refl _), ⟨none, 0, 0, g1, by simp, Nat.le_refl _⟩, hid⟩
        · rw [g1] at e1
          refine ⟨_, run B ρ a w (okB ρ s.H w) _ _ cap 0 hh e1 (fun y hy => by have := (hc.eval y).1; rwa [hop y (operands_slice.2 y hy)] at this) hlo' b2 (Nat.zero_le _) (by omega), ⟨some ⟨b, 0, none⟩, _, cap, g1, ?_, h2⟩, hid⟩
          simp [add_zero']
      · exact h.elim
    · exact h.elim
  · rename_i q k hx
    split at h
    · rename_i fr sz rows hq
      split at h
      · rename_i hlo
        obtain ⟨hh, b2, h2, h3, hK⟩ := h
        refine ⟨_, hK, good_val fun N B M w0 ρ s a w hc hop hR => ?_⟩
        rw [ho] at hop
        have hv := hc.eval x
        rw [hop x operands_slice.1, hx] at hv
        obtain ⟨⟨A, n, c, e0, e1, e2⟩, hid⟩ := hv
        have hq' : s.H q = some (.arr fr sz rows) := by rw [hR q (by simp)]; exact hq
        obtain ⟨hu, g⟩ := hc.arr hq'
        have hlo' : bnd 0 (lo.map ev) 0 := by rw [hlo]; rfl
        have hnc : n ≤ c := by
          rcases g with ⟨g1, g2⟩ | ⟨b, cap, cur, e, fz, g1, g2, g3, g4, g5, g6, g7, g8, g9⟩
          · rw [g1] at e0; injection e0 with _ x1 x2; omega
          · rw [g1] at e0; injection e0 with _ x1 x2; omega
        refine ⟨_, run B ρ a w (okB ρ s.H w) A k c 0 hh e1 (fun y hy => by have := (hc.eval y).1; rwa [hop y (operands_slice.2 y hy)] at this) hlo' b2 (Nat.zero_le _) (by omega), ⟨A, n, c, e0, ?_, by omega⟩, hid⟩
        cases A <;> simp [add_zero']
      · exact h.elim
    · rename_i sz rows hole hq
      split at h
      · rename_i hlo
        obtain ⟨hh, b2, h2, h3, hK⟩ := h
        refine ⟨_, hK, good_val fun N B M w0 ρ s a w hc hop hR => ?_⟩
        rw [ho] at hop
        have hv := hc.eval x
        rw [hop x operands_slice.1, hx] at hv
        obtain ⟨⟨A, n, c, e0, e1, e2⟩, hid⟩ := hv
        have hq' : s.H q = some (.dar sz rows hole) := by rw [hR q (by simp)]; exact hq
        obtain ⟨hu, g⟩ := hc.dar hq'
        have hlo' : bnd 0 (lo.map ev) 0 := by rw [hlo]; rfl
        have hnc : n ≤ c := by
          rcases g with ⟨g1, g2, _⟩ | ⟨b, cap, cur, e, fz, Fp, g1, g2, g3, g4, g5, g6, _⟩
          · rw [g1] at e0; injection e0 with _ x1 x2; omega
          · rw [g1] at e0; injection e0 with _ x1 x2; omega
        refine ⟨_, run B ρ a w (okB ρ s.H w) A k c 0 hh e1 (fun y hy => by have := (hc.eval y).1; rwa [hop y (operands_slice.2 y hy)] at this) hlo' b2 (Nat.zero_le _) (by omega), ⟨A, n, c, e0, ?_, by omega⟩, hid⟩
        cases A <;> simp [add_zero']
      · exact h.elim
    · exact h.elim
  · exact h.elim
theorem sound_len {T : TypeId} {x : Operand} {ti : TI} (hΓ : Γ.chk P = true) (hT : Γ.get T = some ti) (ho : o.op = .call { callee := .builtin .len, args := #[x], argTypes := #[T] })
    (h : (match ti.str, ti.elem with | true, none => ∃ b, ev x = tS b ∧ K (.val (tI .i64 b.length) []) | false, some _ => semLen (ev x) H K | _, _ => False)) : ∃ e, K e ∧ Good P o ev H e := by
  obtain ⟨ii, d, fit⟩ := Env.fit hΓ hT
  have hopx : x ∈ o.op.operands.toList := by simp [ho, Op.operands, Call.operands]
  have rexec : ∀ (a : Act) (w : World) (v u : Value), a.eval x = v → (Builtin.len_ #[T] o.type #[v]).run P w = .ok u w → (execOp a.eval o).run P w = .ok (.value u) w := by
    rintro a w v u rfl h; simp [execOp, ho, resolve, invoke, builtin, h]
  split at h
  · rename_i hs _
    have hd : d = .string := by have := fit.str; rw [hs] at this; cases d <;> simp [dStr] at this ⊢
    subst hd
    have rstr : ∀ (w : World) (b : ByteArray) (ty : TypeId), (Builtin.len_ #[T] ty #[.string b]).run P w = .ok (goInt b.size) w := by
      intro w b ty; simp [Builtin.len_, run_underlying fit.und]
    obtain ⟨b, hx, h⟩ := h
    refine ⟨_, h, good_val fun N B M w0 ρ s a w hc hop hR => ?_⟩
    have hv := (hc.eval x).1
    rw [hop x hopx, hx] at hv
    exact ⟨.int .i64 b.length, rexec a w _ _ (inv_str hv) (by rw [rstr]; rfl), .int _ _, by simp [AV.ids, AR.ids, AC.ids]⟩
  · rename_i e hs he
    have hd := dslice fit he
    subst hd
    have rs : ∀ (w : World) (A : Option Addr) (n c : Nat) (ty : TypeId), (Builtin.len_ #[T] ty #[.slice A n c]).run P w = .ok (.int .i64 n) w := by
      intro w A n c ty; simp [Builtin.len_, run_underlying fit.und, goInt]
    unfold semLen at h
    split at h
    · rename_i sz rows hx
      refine ⟨_, h, good_val fun N B M w0 ρ s a w hc hop hR => ?_⟩
      have hv := (hc.eval x).1
      rw [hop x hopx, hx] at hv
      have hv : RT w (okB ρ s.H w) (a.eval x) (.lst sz rows) := hv
      obtain ⟨A, c, e1, _⟩ := hv.slice_inv
      exact ⟨_, rexec a w _ _ e1 (rs w A _ c _), .int _ _, by simp [AV.ids, AR.ids, AC.ids]⟩
    · rename_i sz rows hx
      refine ⟨_, h, good_val fun N B M w0 ρ s a w hc hop hR => ?_⟩
      have hv := (hc.eval x).1
      rw [hop x hopx, hx] at hv
      have hv : RT w (okF B (okB ρ s.H w) true) (a.eval x) (.lst sz rows) := hv
      obtain ⟨A, c, e1, _⟩ := hv.slice_inv
      exact ⟨_, rexec a w _ _ e1 (rs w A _ c _), .int _ _, by simp [AV.ids, AR.ids, AC.ids]⟩
    · rename_i n hx
      refine ⟨_, h, good_val fun N B M w0 ρ s a w hc hop hR => ?_⟩
      have hv := (hc.eval x).1
      rw [hop x hopx, hx] at hv
      exact ⟨_, rexec a w _ _ hv (rs w _ _ _ _), .int _ _, by simp [AV.ids, AR.ids, AC.ids]⟩
    · rename_i q hx
      split at h
      · rename_i fr sz rows hq
        refine ⟨_, h, good_val fun N B M w0 ρ s a w hc hop hR => ?_⟩
        have hv := (hc.eval x).1
        rw [hop x hopx, hx] at hv
        obtain ⟨_, e1⟩ := hv
        have hq' : s.H q = some (.arr fr sz rows) := by rw [hR q (by simp)]; exact hq
        obtain ⟨hu, g⟩ := hc.arr hq'
        rcases g with ⟨g1, g2⟩ | ⟨b, cap, cur, e, fz, g1, _⟩
        · subst g2
          exact ⟨_, rexec a w _ _ (e1.trans g1) (rs w _ _ _ _), .int _ _, by simp [AV.ids, AR.ids, AC.ids]⟩
        · exact ⟨_, rexec a w _ _ (e1.trans g1) (rs w _ _ _ _), .int _ _, by simp [AV.ids, AR.ids, AC.ids]⟩
      · rename_i sz rows hole hq
        refine ⟨_, h, good_val fun N B M w0 ρ s a w hc hop hR => ?_⟩
        have hv := (hc.eval x).1
        rw [hop x hopx, hx] at hv
        obtain ⟨_, e1⟩ := hv
        have hq' : s.H q = some (.dar sz rows hole) := by rw [hR q (by simp)]; exact hq
        obtain ⟨hu, g⟩ := hc.dar hq'
        rcases g with ⟨g1, g2, _⟩ | ⟨b, cap, cur, e, fz, Fp, g1, _⟩
        · subst g2
          exact ⟨_, rexec a w _ _ (e1.trans g1) (rs w _ _ _ _), .int _ _, by simp [AV.ids, AR.ids, AC.ids]⟩
        · exact ⟨_, rexec a w _ _ (e1.trans g1) (rs w _ _ _ _), .int _ _, by simp [AV.ids, AR.ids, AC.ids]⟩
      · exact h.elim
    · rename_i q k hx
      refine ⟨_, h, good_val fun N B M w0 ρ s a w hc hop hR => ?_⟩
      have hv := (hc.eval x).1
      rw [hop x hopx, hx] at hv
      obtain ⟨A, n, c, _, e1, _⟩ := hv
      exact ⟨_, rexec a w _ _ e1 (rs w _ _ _ _), .int _ _, by simp [AV.ids, AR.ids, AC.ids]⟩
    · exact h.elim
  · exact h.elim
theorem sound_min {x y : Operand} {ts : Array TypeId} {k k' : IntKind} {n m : Int} (ho : o.op = .call { callee := .builtin .min, args := #[x, y], argTypes := ts }) (hx : ev x = tI k n) (hy : ev y = tI k' m) :
    Good P o ev H (.val (tI k (if m < n then m else n)) []) := by
  refine good_val fun N B M w0 ρ s a w hc hop hR => ?_
  have h1 := (hc.eval x).1
  have h2 := (hc.eval y).1
  rw [hop x (by simp [ho, Op.operands, Call.operands]), hx] at h1
  rw [hop y (by simp [ho, Op.operands, Call.operands]), hy] at h2
  exact ⟨_, by simp [execOp, ho, resolve, invoke, builtin, inv_int h1, inv_int h2, Builtin.min_, Builtin.min2], .int _ _, by simp [AV.ids, AR.ids, AC.ids]⟩
theorem sound_max {x y : Operand} {ts : Array TypeId} {k k' : IntKind} {n m : Int} (ho : o.op = .call { callee := .builtin .max, args := #[x, y], argTypes := ts }) (hx : ev x = tI k n) (hy : ev y = tI k' m) :
    Good P o ev H (.val (tI k (if m > n then m else n)) []) := by
  refine good_val fun N B M w0 ρ s a w hc hop hR => ?_
  have h1 := (hc.eval x).1
  have h2 := (hc.eval y).1
  rw [hop x (by simp [ho, Op.operands, Call.operands]), hx] at h1
  rw [hop y (by simp [ho, Op.operands, Call.operands]), hy] at h2
  exact ⟨_, by simp [execOp, ho, resolve, invoke, builtin, inv_int h1, inv_int h2, Builtin.max_, Builtin.max2], .int _ _, by simp [AV.ids, AR.ids, AC.ids]⟩
end
end Go.Sim
