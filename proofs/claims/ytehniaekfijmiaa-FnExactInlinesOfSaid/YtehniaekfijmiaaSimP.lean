/- Maps of whole numbers: made, looked up, written, cut. -/
import Derived.Test.YtehniaekfijmiaaSimJ
import Derived.MapKept
import Derived.ChangeMaps5
namespace Go.Sim
open Go.RowKit
section
variable {P : Program} {Γ : Env} {N B : Nat} {M : Nat → Prop} {w0 : Start} {ρ : Rho} {s : F_} {a : Act} {w : World} {o : Oper} {ev : Operand → AV} {H : Id → Option AO} {K : Eff → Prop} {KV : AV → Prop}
theorem bytes_eq (x y : List UInt8) : ((⟨x.toArray⟩ : ByteArray) == ⟨y.toArray⟩) = (x == y) := by
  cases h : (x == y) with
  | true =>
    have e : x = y := by simpa using h
    subst e
    exact (Go.MapKept.bytes_beq _ _).2 rfl
  | false =>
    cases h2 : ((⟨x.toArray⟩ : ByteArray) == ⟨y.toArray⟩) with
    | false => rfl
    | true =>
      have e := (Go.MapKept.bytes_beq _ _).1 h2
      injection e with e
      have : x = y := by simpa using e
      subst this
      simp at h
theorem sameNow_key {d : TypeDesc} {kk : Option IntKind} (hd : (∃ k, d = .int k ∧ kk = some k) ∨ (d = .string ∧ kk = none)) {x y : Tr} (hx : keyFit kk x) (hy : keyFit kk y) :
    Instr.sameNow d (keyV x) (keyV y) = some (keyEq x y) ∧ Go.MapKept.IsKey d (keyV x) := by
  rcases hd with ⟨k, rfl, rfl⟩ | ⟨rfl, rfl⟩
  · cases x <;> simp only [keyFit] at hx
    cases y <;> simp only [keyFit] at hy
    subst hx; subst hy
    simp [keyV, Instr.sameNow, keyEq, Go.MapKept.IsKey]
  · cases x <;> simp only [keyFit] at hx
    cases y <;> simp only [keyFit] at hy
    refine ⟨?_, trivial⟩
    show some _ = some _
    rw [bytes_eq]; rfl
theorem keyEq_key {kk : Option IntKind} {x y : Tr} (hx : keyFit kk x) (hy : keyFit kk y) (h : keyEq x y = true) : keyV x = keyV y := by
  cases kk with
  | some k =>
    cases x <;> simp only [keyFit] at hx
    cases y <;> simp only [keyFit] at hy
    subst hx; subst hy
    simp only [keyEq, beq_iff_eq] at h
    rw [h]
  | none =>
    cases x <;> simp only [keyFit] at hx
    cases y <;> simp only [keyFit] at hy
    simp only [keyEq, beq_iff_eq] at h
    rw [h]
theorem find_abs {d : TypeDesc} {kk : Option IntKind} (hd : (∃ k, d = .int k ∧ kk = some k) ∨ (d = .string ∧ kk = none)) {key : Tr} (hk : keyFit kk key) : ∀ (l : List MapEntry) (es : List (Tr × Int)) (i : Nat), l.map (fun e => (e.key, e.val)) = es.map entV → (∀ p ∈ es, keyFit kk p.1) →
    (Instr.findNow d (keyV key) l i = some none ∧ mpGet es key = none ∧ (∀ v, mpPut es key v = es ++ [(key, v)]) ∧ mpDel es key = es) ∨
    ∃ j e q n, Instr.findNow d (keyV key) l i = some (some (i + j, .int .i64 n)) ∧ l[j]? = some e ∧ e.key = keyV key ∧ mpGet es key = some n ∧ es[j]? = some (q, n) ∧ keyV q = keyV key ∧ (∀ v, mpPut es key v = es.set j (q, v)) ∧ mpDel es key = es.eraseIdx j
  | [], [], i, _, _ => .inl ⟨rfl, rfl, fun _ => rfl, rfl⟩
  | [], _ :: _, _, h, _ => by simp at h
  | _ :: _, [], _, h, _ => by simp at h
  | e :: l, (q, n) :: es, i, h, hf => by
    simp only [List.map_cons, List.cons.injEq, entV, Prod.mk.injEq] at h
    obtain ⟨⟨h1, h2⟩, h3⟩ := h
    obtain ⟨hs, _⟩ := sameNow_key hd hk (hf (q, n) (by simp))
    have hq := hf (q, n) (by simp)
    cases hb : keyEq key q with
    | true =>
      rw [hb] at hs
      refine .inr ⟨0, e, q, n, ?_, rfl, ?_, ?_, rfl, (keyEq_key hk hq hb).symm, fun v => ?_, ?_⟩
      · simp only [Instr.findNow, h1, hs, h2, Nat.add_zero]
      · rw [h1]; exact (keyEq_key hk hq hb).symm
      · simp [mpGet, mpFind, hb]
      · simp [mpPut, mpSet, hb]
      · simp [mpDel, mpCut, hb]
    | false =>
      rw [hb] at hs
      rcases find_abs hd hk l es (i + 1) h3 (fun p hp => hf p (by simp [hp])) with ⟨g1, g2, g3, g4⟩ | ⟨j, e', q', n', g1, g2, g3, g4, g5, g6, g7, g8⟩
      · refine .inl ⟨?_, ?_, fun v => ?_, ?_⟩
        · simp only [Instr.findNow, h1, hs, g1]
        · have g2' := g2; unfold mpGet at g2'; simp [mpGet, mpFind, hb, g2']
        · have g3' := g3 v; unfold mpPut at g3'; simp [mpPut, mpSet, hb, g3']
        · have g4' := g4; unfold mpDel at g4'; simp [mpDel, mpCut, hb, g4']
      · refine .inr ⟨j + 1, e', q', n', ?_, by simpa using g2, g3, ?_, by simpa using g5, g6, fun v => ?_, ?_⟩
        · simp only [Instr.findNow, h1, hs, g1]
          congr 3; omega
        · have g4' := g4; unfold mpGet at g4'; simp [mpGet, mpFind, hb, g4']
        · have g7' := g7 v; unfold mpPut at g7'; simp [mpPut, mpSet, hb, g7']
        · have g8' := g8; unfold mpDel at g8'; simp [mpDel, mpCut, hb, g8']
theorem map_eraseIdx' {α β : Type} (f : α → β) : ∀ (l : List α) (j : Nat), (l.eraseIdx j).map f = (l.map f).eraseIdx j
  | [], _ => rfl
  | _ :: _, 0 => rfl
  | x :: l, j + 1 => by simp [map_eraseIdx' f l j]
theorem mapKind_inv (hΓ : Γ.chk P = true) {T : TypeId} {kk : Option IntKind} (h : mapKind Γ T = some kk) : ∃ kt et d i, P.underlying T = some (.map kt et) ∧ P.underlying kt = some d ∧ ((∃ k, d = .int k ∧ kk = some k) ∨ (d = .string ∧ kk = none)) ∧ P.info? et = some i ∧ i.zero = some (.int .i64 0) := by
  unfold mapKind at h
  cases hT : Γ.get T with
  | none => rw [hT] at h; cases h
  | some ti =>
    rw [hT] at h
    dsimp only at h
    obtain ⟨ii, d, fit⟩ := Env.fit hΓ hT
    have hm := fit.map
    rw [h] at hm
    cases d <;> simp only [dMapK] at hm <;> try (cases hm; done)
    rename_i kt et
    split at hm
    · rename_i i hi
      split at hm
      · rename_i n hz
        split at hm
        · rename_i k h1 h2
          injection hm with hm
          have : n = 0 := of_decide_eq_true h1
          subst this
          exact ⟨kt, et, _, i, fit.und, h2, .inl ⟨k, rfl, hm.symm⟩, hi, hz⟩
        · rename_i h1 h2
          injection hm with hm
          have : n = 0 := of_decide_eq_true h1
          subst this
          exact ⟨kt, et, _, i, fit.und, h2, .inr ⟨rfl, hm.symm⟩, hi, hz⟩
        · cases hm
      · cases hm
    · cases hm
theorem Conc.mp (hc : Conc N B M w0 ρ s a w) {q : Id} {kk : Option IntKind} {es : List (Tr × Int)} (h : s.H q = some (.mp kk es)) : ∃ b ents clock, ρ q = .map (some b) ∧ w.heap[b]? = some (.map ents clock) ∧ ents.toList.map (fun e => (e.key, e.val)) = es.map entV ∧ ∀ p ∈ es, keyFit kk p.1 := hc.obj q _ h
theorem Turn.setBlock (w : World) (b : Nat) {ents : Array MapEntry} {clock : Nat} (hb : w.heap[b]? = some (.map ents clock)) (x : Obj) : Turn (fun k => k = b) w (Go.ChangeMaps.setBlock w b x) :=
  ⟨rfl, rfl, rfl, by simp [Go.ChangeMaps.setBlock], fun k _ hk => Go.ChangeMaps.heap_setBlock_other hb x hk⟩
theorem key_val {ok : Nat → Prop} {v : Value} {x : Tr} {kk : Option IntKind} (hk : keyFit kk x) (h : RT w ok v x) : v = keyV x := by
  cases x with
  | lst => cases kk <;> exact hk.elim
  | bool => cases kk <;> exact hk.elim
  | int k n => cases h; rfl
  | str b => cases h; rfl
theorem sound_makeMap {T : TypeId} {d : Nat} {kk : Option IntKind} (hdst : o.dst = some d) (ho : o.op = .makeMap T none) :
    Good P o ev H ⟨.r (.c (.mpv (d, 0, 0))), [((d, 0, 0), some (.mp kk []))], some d, []⟩ := by
  intro N B M w0 ρ s a w Q K hc hop hR hn hd hK
  rw [hdst] at hd hK
  obtain ⟨ρ', h'⟩ := hc.make (hd d rfl) (hn d rfl) (D := fun _ => False) [] (Turn.alloc _ _ (.map #[] 0)) (v := .map (some w.heap.size)) (vv := .map (some w.heap.size)) (x := .mp kk []) (av := .r (.c (.mpv (d, 0, 0)))) (R := []) (fun _ => False) (fun _ h => h.elim) (fun b hb => by
      injection hb with hb; subst hb; exact ⟨by simp, .inl (Nat.le_refl _)⟩) (fun _ h => h.elim) (by simp [AO.ids]) (fun id hid => by
      simp [AV.ids, AR.ids, AC.ids] at hid; left; rw [hid]) (fun ρ' ok' hk _ hρ hq _ => ⟨⟨w.heap.size, #[], 0, hq, heap_new w _, rfl, by simp⟩, ⟨_, hq⟩, hq.symm⟩)
  have hrun : (execOp a.eval o).run P w = .ok (.value (.map (some w.heap.size))) (w.alloc (.map #[] 0)) := by
    simp [execOp, ho, Instr.makeMap]
  unfold Oper.wp
  rw [hrun]
  show K (a.put o.dst _) _
  rw [hdst]
  exact hK _ _ ρ' h'
theorem sound_lookup {T : TypeId} {x k : Operand} {c : Bool} (hΓ : Γ.chk P = true) (ho : o.op = .lookup T x k c) (h : semLookup Γ T (ev x) (ev k) c H K) : ∃ e, K e ∧ Good P o ev H e := by
  have hopx : x ∈ o.op.operands.toList := by simp [ho, Op.operands]
  have hopk : k ∈ o.op.operands.toList := by simp [ho, Op.operands]
  unfold semLookup at h
  split at h
  · rename_i q key hx hkx
    split at h
    · rename_i kk es hq
      obtain ⟨hm, hf, h⟩ := h
      obtain ⟨kt, et, d, i, u1, u2, hd, hi, hz⟩ := mapKind_inv hΓ hm
      have base : ∀ (N B : Nat) (M : Nat → Prop) (w0 : Start) (ρ : Rho) (s : F_) (a : Act) (w : World), Conc N B M w0 ρ s a w → (∀ x ∈ o.op.operands.toList, evL s.L x = ev x) → s.H q = H q →
          (Instr.lookup T (a.eval x) (a.eval k) c).run P w = .ok (if c then .tuple #[.int .i64 (mpVal (mpGet es key)), .bool (mpGet es key).isSome] else .int .i64 (mpVal (mpGet es key))) w := by
        intro N B M w0 ρ s a w hc hop hR
        obtain ⟨b, ents, clock, g1, g2, g3, g4⟩ := hc.mp (hR.trans hq)
        have hvx := (hc.eval x).1
        rw [hop x hopx, hx] at hvx
        have hvk := (hc.eval k).1
        rw [hop k hopk, hkx] at hvk
        have ex : a.eval x = .map (some b) := by rw [← g1]; exact hvx.2
        have ek : a.eval k = keyV key := key_val hf hvk
        have hkey := (sameNow_key hd hf hf).2
        rw [ex, ek]
        have hzr := run_zeroValue (w := w) hi hz
        rcases find_abs hd hf ents.toList es 0 g3 g4 with ⟨f1, f2, _, _⟩ | ⟨j, e, q', n, f1, _, _, f4, _⟩
        · rw [f2]
          cases c <;> simp [Instr.lookup, run_underlying u1, Go.MapKept.run_getObj_map g2, Go.MapKept.run_checkKey u2 hkey, Go.MapKept.run_findKey u2 f1, hzr, Result.andThen, mpVal]
        · rw [f4]
          cases c <;> simp [Instr.lookup, run_underlying u1, Go.MapKept.run_getObj_map g2, Go.MapKept.run_checkKey u2 hkey, Go.MapKept.run_findKey u2 f1, Result.andThen, mpVal]
      cases c with
      | true =>
        refine ⟨_, h, good_val fun N B M w0 ρ s a w hc hop hR => ?_⟩
        have := base N B M w0 ρ s a w hc hop (hR q (by simp))
        exact ⟨_, by simp only [execOp, ho, Sem.run_bind, this, Result.andThen_ok, Sem.run_pure]; rfl, ⟨#[.int .i64 (mpVal (mpGet es key)), .bool (mpGet es key).isSome], rfl, (show RRs _ _ _ _ [_, _] [_, _] from ⟨RT.int _ _, RT.bool _, trivial⟩)⟩, by simp [AV.ids, AR.ids, AC.ids]⟩
      | false =>
        refine ⟨_, h, good_val fun N B M w0 ρ s a w hc hop hR => ?_⟩
        have := base N B M w0 ρ s a w hc hop (hR q (by simp))
        exact ⟨_, by simp only [execOp, ho, Sem.run_bind, this, Result.andThen_ok, Sem.run_pure]; rfl, RT.int _ _, by simp [AV.ids, AR.ids, AC.ids]⟩
    · exact h.elim
  · exact h.elim
theorem sound_mapSet {T : TypeId} {x k v : Operand} (hΓ : Γ.chk P = true) (ho : o.op = .mapUpdate T x k v ∨ o.op = .insert T x k v) (h : semMapSet Γ T (ev x) (ev k) (ev v) H K) : ∃ e, K e ∧ Good P o ev H e := by
  have hopx : x ∈ o.op.operands.toList := by rcases ho with ho | ho <;> simp [ho, Op.operands]
  have hopk : k ∈ o.op.operands.toList := by rcases ho with ho | ho <;> simp [ho, Op.operands]
  have hopv : v ∈ o.op.operands.toList := by rcases ho with ho | ho <;> simp [ho, Op.operands]
  unfold semMapSet at h
  split at h
  · rename_i q key n hx hkx hvx
    split at h
    · rename_i kk es hq
      obtain ⟨hm, hf, h⟩ := h
      obtain ⟨kt, et, d, i, u1, u2, hd, hi, hz⟩ := mapKind_inv hΓ hm
      refine ⟨_, h, ?_⟩
      intro N B M w0 ρ s a w Q K hc hop hR hnew hdd hK
      have hq' : s.H q = some (.mp kk es) := by rw [hR q (by simp)]; exact hq
      obtain ⟨b, ents, clock, g1, g2, g3, g4⟩ := hc.mp hq'
      have e1 := (hc.eval x).1
      rw [hop x hopx, hx] at e1
      have e2 := (hc.eval k).1
      rw [hop k hopk, hkx] at e2
      have e3 := (hc.eval v).1
      rw [hop v hopv, hvx] at e3
      have ex : a.eval x = .map (some b) := by rw [← g1]; exact e1.2
      have ek : a.eval k = keyV key := key_val hf e2
      have evv : a.eval v = .int .i64 n := inv_int e3
      have hkey := (sameNow_key hd hf hf).2
      have fin : ∀ (ents' : Array MapEntry) (clock' : Nat) (es' : List (Tr × Int)), (Instr.mapUpdate T (.map (some b)) (keyV key) (.int .i64 n)).run P w = .ok () (Go.ChangeMaps.setBlock w b (.map ents' clock')) → ents'.toList.map (fun e => (e.key, e.val)) = es'.map entV → (∀ p ∈ es', keyFit kk p.1) → es' = mpPut es key n → o.wp P a w K Q := by
        intro ents' clock' es' hrun k1 k2 k3
        subst k3
        obtain ⟨ρ', this⟩ := hc.upd hq' (x' := .mp kk (mpPut es key n)) (b := b) (by rw [g1]; rfl) [] (by simp) (fun _ => False) (fun _ h => h.elim) (Turn.setBlock w b g2 (.map ents' clock')) (by simp [AO.ids]) (fun ρ' ok' hρ _ hk _ _ _ => ⟨b, ents', clock', by rw [hρ]; exact g1, Go.ChangeMaps.heap_setBlock_same g2 _, k1, k2⟩) hdd undef [q]
        have hexec : (execOp a.eval o).run P w = .ok .skip (Go.ChangeMaps.setBlock w b (.map ents' clock')) := by
          rcases ho with ho | ho <;> simp only [execOp, ho, ex, ek, evv, Sem.run_bind, hrun, Result.andThen_ok, Sem.run_pure]
        unfold Oper.wp
        rw [hexec]
        exact hK _ _ ρ' this
      rcases find_abs hd hf ents.toList es 0 g3 g4 with ⟨f1, f2, f3, _⟩ | ⟨j, e, q', n', f1, f2, f3, f4, f5, f6, f7, _⟩
      · refine fin (ents.push { key := keyV key, val := .int .i64 n, born := clock }) (clock + 1) (es ++ [(key, n)]) ?_ ?_ ?_ (f3 n).symm
        · simp [Instr.mapUpdate, run_underlying u1, Go.MapKept.run_getObj_map g2, Go.MapKept.run_checkKey u2 hkey, Go.MapKept.run_findKey u2 f1, Go.MapKept.run_setObj_map _ g2, Result.andThen, Go.ChangeMaps.setBlock]
        · simp [g3, entV]
        · intro p hp
          rcases List.mem_append.1 hp with hp | hp
          · exact g4 p hp
          · rw [List.mem_singleton.1 hp]; exact hf
      · have hej : ents[j]? = some e := by simpa using f2
        refine fin (ents.modify j fun e => { e with key := keyV key, val := .int .i64 n }) clock (es.set j (q', n)) ?_ ?_ ?_ (f7 n).symm
        · have hold : (((ents[j]?).map (·.key)).getD (keyV key)) = keyV key := by rw [hej]; simpa using f3
          simp [Instr.mapUpdate, run_underlying u1, Go.MapKept.run_getObj_map g2, Go.MapKept.run_checkKey u2 hkey, Go.MapKept.run_findKey u2 f1, hold, Go.MapKept.run_keyThatStays hkey, Go.MapKept.run_setObj_map _ g2, Result.andThen, Go.ChangeMaps.setBlock]
        · apply List.ext_getElem?
          intro m
          have gm := congrArg (·[m]?) g3
          simp only [List.getElem?_map, Array.getElem?_toList, Array.getElem?_modify, List.getElem?_set] at gm ⊢
          by_cases hjm : j = m
          · subst hjm
            have hlt : j < es.length := by rcases Nat.lt_or_ge j es.length with h | h; exact h; rw [List.getElem?_eq_none h] at f5; cases f5
            simp [hej, hlt, entV, f6]
          · simp [hjm] at gm ⊢
            exact gm
        · intro p hp
          rcases List.mem_or_eq_of_mem_set hp with hp | rfl
          · exact g4 p hp
          · exact g4 (q', n') (List.mem_of_getElem? f5)
    · exact h.elim
  · exact h.elim
theorem sound_mapDel {T T2 : TypeId} {x k : Operand} (hΓ : Γ.chk P = true) (ho : o.op = .call { callee := .builtin .delete, args := ⟨[x, k]⟩, argTypes := ⟨[T, T2]⟩ }) (h : semMapDel Γ T (ev x) (ev k) H K) : ∃ e, K e ∧ Good P o ev H e := by
  have hopx : x ∈ o.op.operands.toList := by simp [ho, Op.operands, Call.operands]
  have hopk : k ∈ o.op.operands.toList := by simp [ho, Op.operands, Call.operands]
  unfold semMapDel at h
  split at h
  · rename_i q key hx hkx
    split at h
    · rename_i kk es hq
      obtain ⟨hm, hf, h⟩ := h
      obtain ⟨kt, et, d, i, u1, u2, hd, hi, hz⟩ := mapKind_inv hΓ hm
      refine ⟨_, h, ?_⟩
      intro N B M w0 ρ s a w Q K hc hop hR hnew hdd hK
      have hq' : s.H q = some (.mp kk es) := by rw [hR q (by simp)]; exact hq
      obtain ⟨b, ents, clock, g1, g2, g3, g4⟩ := hc.mp hq'
      have e1 := (hc.eval x).1
      rw [hop x hopx, hx] at e1
      have e2 := (hc.eval k).1
      rw [hop k hopk, hkx] at e2
      have ex : a.eval x = .map (some b) := by rw [← g1]; exact e1.2
      have ek : a.eval k = keyV key := key_val hf e2
      have hkey := (sameNow_key hd hf hf).2
      have fin : ∀ (ents' : Array MapEntry) (es' : List (Tr × Int)), (Builtin.delete_ #[T, T2] o.type #[.map (some b), keyV key]).run P w = .ok (.tuple #[]) (Go.ChangeMaps.setBlock w b (.map ents' clock)) → ents'.toList.map (fun e => (e.key, e.val)) = es'.map entV → (∀ p ∈ es', keyFit kk p.1) → es' = mpDel es key → o.wp P a w K Q := by
        intro ents' es' hrun k1 k2 k3
        subst k3
        obtain ⟨ρ', this⟩ := hc.upd hq' (x' := .mp kk (mpDel es key)) (b := b) (by rw [g1]; rfl) [] (by simp) (fun _ => False) (fun _ h => h.elim) (Turn.setBlock w b g2 (.map ents' clock)) (by simp [AO.ids]) (fun ρ' ok' hρ _ hk _ _ _ => ⟨b, ents', clock, by rw [hρ]; exact g1, Go.ChangeMaps.heap_setBlock_same g2 _, k1, k2⟩) hdd (.tuple #[]) [q]
        have hexec : (execOp a.eval o).run P w = .ok (.value (.tuple #[])) (Go.ChangeMaps.setBlock w b (.map ents' clock)) := by
          simp only [execOp, ho, resolve, invoke, builtin, List.map_toArray, List.map_cons, List.map_nil, ex, ek, Sem.run_bind, Sem.run_pure, hrun, Result.andThen_ok]
        unfold Oper.wp
        rw [hexec]
        exact hK _ _ ρ' this
      rcases find_abs hd hf ents.toList es 0 g3 g4 with ⟨f1, f2, f3, f4⟩ | ⟨j, e, q', n', f1, f2, f3, _, f5, f6, _, f8⟩
      · refine fin ents es ?_ g3 g4 f4.symm
        simp [Builtin.delete_, run_underlying u1, Go.MapKept.run_getObj_map g2, Go.MapKept.run_checkKey u2 hkey, Go.MapKept.run_findKey u2 f1, Go.MapKept.run_setObj_map _ g2, Result.andThen, Go.ChangeMaps.setBlock]
      · refine fin (ents.eraseIdxIfInBounds j) (es.eraseIdx j) ?_ ?_ ?_ f8.symm
        · simp [Builtin.delete_, run_underlying u1, Go.MapKept.run_getObj_map g2, Go.MapKept.run_checkKey u2 hkey, Go.MapKept.run_findKey u2 f1, Go.MapKept.run_setObj_map _ g2, Result.andThen, Go.ChangeMaps.setBlock]
        · have hlt : j < ents.size := by
            rcases Nat.lt_or_ge j ents.size with h | h
            · exact h
            · have : ents.toList[j]? = none := by rw [List.getElem?_eq_none]; simpa using h
              rw [this] at f2; cases f2
          rw [Array.eraseIdxIfInBounds, dif_pos hlt, Array.toList_eraseIdx, map_eraseIdx', g3, ← map_eraseIdx']
        · exact fun p hp => g4 p (List.mem_of_mem_eraseIdx hp)
    · exact h.elim
  · exact h.elim
end
end Go.Sim
