/- The operations that make memory. -/
import Derived.Test.YtehniaekfijmiaaSimF
namespace Go.Sim
open Go.RowKit
section
variable {P : Program} {Γ : Env} {N B : Nat} {M : Nat → Prop} {w0 : Start} {ρ : Rho} {s : F_} {a : Act} {w : World} {o : Oper} {ev : Operand → AV} {H : Id → Option AO} {K : Eff → Prop} {KV : AV → Prop}
theorem updH_other : ∀ (us : List (Id × Option AO)) (H : Id → Option AO) (o : Id), o ∉ us.map (·.1) → updH H us o = H o
  | [], _, _, _ => rfl
  | p :: r, H, o, h => by
    simp only [List.map_cons, List.mem_cons, not_or] at h
    rw [updH, updH_other r _ o h.2, if_neg h.1]
theorem updH_rm : ∀ (rm : List Id) (H : Id → Option AO) (q : Id) (x : Option AO), updH H (rm.map (fun r => (r, none)) ++ [(q, x)]) = fun o => if o = q then x else if o ∈ rm then none else H o
  | [], H, q, x => by simp [updH]
  | r :: rm, H, q, x => by
    rw [List.map_cons, List.cons_append, updH, updH_rm rm]
    funext o
    by_cases h1 : o = q
    · simp [h1]
    · by_cases h2 : o ∈ rm
      · simp [h1, h2]
      · by_cases h3 : o = r <;> simp [h1, h2, h3]
theorem Conc.make (h : Conc N B M w0 ρ s a w) {d : Nat} (hd : d < N) (hU : ¬ s.U d) {w' : World} {D : Nat → Prop} (rm : List Id) (hT : Turn D w w') {v vv : Value} {x : AO} {av : AV} {R : List Id} (F : Nat → Prop)
    (hD : ∀ b, D b → ∃ o x', o ∈ rm ∧ s.H o = some x' ∧ Own ρ o b)
    (hv : ∀ b, blk v = some b → b < w'.heap.size ∧ (w.heap.size ≤ b ∨ ∃ o x', o ∈ rm ∧ s.H o = some x' ∧ Own ρ o b))
    (hF : ∀ b, F b → ∃ o x', o ∈ rm ∧ s.H o = some x' ∧ Own ρ o b)
    (hxi : ∀ id ∈ x.ids, s.U id.1) (havi : ∀ id ∈ av.ids, id.1 = d ∨ s.U id.1)
    (hobj : ∀ (ρ' : Rho) (ok' : Nat → Prop), (∀ b, okB ρ s.H w b → w'.heap[b]? = w.heap[b]? ∧ ok' b) → (∀ o x' b, o ∈ rm → s.H o = some x' → Own ρ o b → blk v ≠ some b → ¬ F b → ok' b) →
      (∀ o, s.U o.1 → ρ' o = ρ o) → ρ' (d, 0, 0) = v → (∀ b, F b → ρ'.fp (d, 0, 0) b) → RO B ρ' w' ok' (d, 0, 0) x ∧ RV B ρ' w' ok' vv av) :
    ∃ ρ', Conc N B M w0 ρ' (s.app (some d) ⟨av, rm.map (fun r => (r, none)) ++ [((d, 0, 0), some x)], some d, R⟩) (a.put (some d) vv) w' := by
  let q : Id := (d, 0, 0)
  let ρ' : Rho := ⟨fun o => if o.1 = d then v else ρ o, fun o c => if o = q then F c else ρ.fp o c, ρ.al⟩
  have hρ : ∀ o : Id, s.U o.1 → ρ' o = ρ o := fun o ho => by
    show (if o.1 = d then v else ρ o) = ρ o
    exact if_neg (fun e : o.1 = d => hU (by rw [← e]; exact ho))
  have hq : ρ' q = v := by show (if d = d then v else _) = v; simp
  have hfq : ∀ c, ρ'.fp q c ↔ F c := fun c => by show (if q = q then _ else _) ↔ _; simp
  have hfo : ∀ o c, o ≠ q → (ρ'.fp o c ↔ ρ.fp o c) := fun o c ho => by show (if o = q then _ else _) ↔ _; simp [ho]
  have hown : ∀ o c, o ≠ q → s.U o.1 → (Own ρ' o c ↔ Own ρ o c) := fun o c h1 h2 => by unfold Own; rw [hρ o h2, hfo o c h1]
  have hHe := updH_rm rm s.H q (some x)
  have hkr : ∀ o x' b, o ∈ rm → s.H o = some x' → Own ρ o b → blk v ≠ some b → ¬ F b → okB ρ' (updH s.H (rm.map (fun r => (r, none)) ++ [(q, some x)])) w' b := by
    intro o x' b h1 h2 h3 h4 h4'
    refine ⟨⟨Nat.lt_of_lt_of_le (h.rng o x' b h2 h3).1 hT.size, h.alw b (h.rng o x' b h2 h3).2⟩, fun o1 x1 h5 h6 => ?_⟩
    rw [hHe] at h5
    by_cases e : o1 = q
    · subst e
      rcases h6 with h6 | h6
      · rw [hq] at h6; exact h4 h6
      · exact h4' ((hfq b).1 h6)
    · simp only [if_neg e] at h5
      by_cases e2 : o1 ∈ rm
      · simp [e2] at h5
      · simp only [if_neg e2] at h5
        rw [hown o1 b e (h.usedH o1 x1 h5).1] at h6
        exact h.sep o o1 x' x1 b h2 h5 (fun e3 => e2 (e3 ▸ h1)) h3 h6
  refine ⟨ρ', ?_⟩
  have hnq : ∀ o x', s.H o = some x' → o ≠ q := fun o x' h1 e => hU (by have := (h.usedH o x' h1).1; rw [e] at this; exact this)
  have := h.step D (q :: rm) (w' := w') (ρ' := ρ') (H' := updH s.H (rm.map (fun r => (r, none)) ++ [(q, some x)])) (U' := fun n => s.U n ∨ n = d) (a' := a.put (some d) vv) (L' := putL s.L (some d) av) hT
    (by rw [put_size]; exact h.size) (by rw [put_defers]; exact h.defers) hρ
    (fun o x' h1 h2 => by funext c; exact propext (hfo o c (hnq o x' h2))) rfl
    (fun o ho => by
      rw [hHe]
      simp only [List.mem_cons, not_or] at ho
      simp only [if_neg ho.1, if_neg ho.2])
    (fun n hn => .inl hn)
    (fun b hb hDb => by obtain ⟨o, x', _, h2, h3⟩ := hD b hDb; exact hb.2 o x' h2 h3)
    (fun o x1 b h1 h2 h3 hDb => by
      obtain ⟨o', x', g1, g2, g3⟩ := hD b hDb
      exact h.sep o o' x1 x' b h1 g2 (fun e => h2 (by rw [e]; simp [g1])) h3 g3)
    (fun b hb hM hDb => by
      obtain ⟨o', x', g1, g2, g3⟩ := hD b hDb
      rcases (h.rng o' x' b g2 g3).2 with g | g
      · omega
      · exact hM g)
    (fun o x1 b h1 h2 h3 => by
      rw [hHe] at h2
      by_cases e : o = q
      · subst e
        have h3 : (b < w'.heap.size ∧ (w.heap.size ≤ b ∨ ∃ o x', o ∈ rm ∧ s.H o = some x' ∧ Own ρ o b)) := by
          rcases h3 with h3 | h3
          · rw [hq] at h3; exact hv b h3
          · obtain ⟨o', x', g1, g2, g3⟩ := hF b ((hfq b).1 h3)
            exact ⟨Nat.lt_of_lt_of_le (h.rng o' x' b g2 g3).1 hT.size, .inr ⟨o', x', g1, g2, g3⟩⟩
        obtain ⟨g1, g2⟩ := h3
        refine ⟨g1, ?_, ?_⟩
        · rcases g2 with g | ⟨o', x', _, g3, g4⟩
          · exact .inl (Nat.le_trans h.base g)
          · exact (h.rng o' x' b g3 g4).2
        · rcases g2 with g | ⟨o', x', g2, g3, g4⟩
          · exact .inl g
          · exact .inr ⟨o', x', g3, by simp [g2], g4⟩
      · simp only [List.mem_cons, e, false_or] at h1
        simp only [if_neg e, if_pos h1] at h2
        cases h2)
    (fun o o' x1 x2 b h1 h2 h3 h4 hne => by
      rw [hHe] at h3 h4
      exfalso
      by_cases e : o = q
      · have e' : o' ≠ q := fun e2 => hne (e.trans e2.symm)
        simp only [List.mem_cons, e', false_or] at h2
        simp only [if_neg e', if_pos h2] at h4
        cases h4
      · simp only [List.mem_cons, e, false_or] at h1
        simp only [if_neg e, if_pos h1] at h3
        cases h3)
    (fun hk o x1 h1 h2 => by
      rw [hHe] at h2
      by_cases e : o = q
      · subst e
        simp only [if_true, Option.some.injEq] at h2
        subst h2
        exact ⟨(hobj ρ' _ hk hkr hρ hq (fun b hb => (hfq b).2 hb)).1, .inr rfl, fun id hid => .inl (hxi id hid)⟩
      · simp only [List.mem_cons, e, false_or] at h1
        simp only [if_neg e, if_pos h1] at h2
        cases h2)
    (fun hk t => h.slots (dst := some d) (fun d' e => by injection e with e; omega) (U' := fun n => s.U n ∨ n = d) (hobj ρ' _ hk hkr hρ hq (fun b hb => (hfq b).2 hb)).2 (fun id hid => (havi id hid).symm) t)
  exact this.congr (fun _ => rfl) (fun _ => rfl) (fun n => by simp [F_.app, eq_comm])
theorem heap_new (w : World) (o : Obj) : (w.alloc o).heap[w.heap.size]? = some o := heap_alloc_new w o
theorem unfrozen_zero (n : Nat) : unfrozen n (0, 0) := fun p _ h => by simp at h
theorem Conc.newBox (h : Conc N B M w0 ρ s a w) {d : Nat} (hd : d < N) (hU : ¬ s.U d) {us : Array Value} {t : TypeId} {cells : List AC} (hr : RCs B ρ w (okB ρ s.H w) us.toList cells) (hi : ∀ id ∈ cells.flatMap AC.ids, s.U id.1) (R : List Id) :
    ∃ ρ', Conc N B M w0 ρ' (s.app (some d) ⟨.r (.c (.ptr (d, 0, 0) 0)), [((d, 0, 0), some (.box cells))], some d, R⟩) (a.put (some d) (.pointer (some ⟨w.heap.size, 0, none⟩))) (w.alloc (.cells us t)) := by
  refine h.make hd hU (D := fun _ => False) [] (Turn.alloc _ _ _) (v := .pointer (some ⟨w.heap.size, 0, none⟩)) (fun _ => False) (fun _ h => h.elim) (fun b hb => ?_) (fun _ h => h.elim) hi (fun id hid => ?_) (fun ρ' ok' hk _ hρ hq _ => ⟨?_, ?_⟩)
  · injection hb with hb; subst hb; exact ⟨by simp, .inl (Nat.le_refl _)⟩
  · simp [AV.ids, AR.ids, AC.ids] at hid; left; rw [hid]
  · refine ⟨w.heap.size, us, t, (0, 0), hq, heap_new w _, unfrozen_zero _, hr.keep hk fun o ho => hρ o (hi o ho)⟩
  · exact ⟨w.heap.size, hq, rfl⟩
theorem run_newRow (e : TypeId) (cs : Array Value) : (newRow e cs).run P w = .ok ⟨w.heap.size, 0, none⟩ (w.alloc (.cells cs e)) := rfl
theorem sound_alloc {T : TypeId} {d : Nat} {ti : TI} (hΓ : Γ.chk P = true) (hT : Γ.get T = some ti) (hdst : o.dst = some d) (ho : o.op = .alloc T) :
    Good P o ev H ⟨.r (.c (.ptr (d, 0, 0) 0)), [((d, 0, 0), some (.box ti.zero))], some d, []⟩ := by
  obtain ⟨i, dd, fit⟩ := Env.fit hΓ hT
  obtain ⟨z, hz, hm⟩ := fit.zero
  intro N B M w0 ρ s a w Q K hc hop hR hn hd hK
  rw [hdst] at hd hK
  obtain ⟨ρ', h'⟩ := hc.newBox (hd d rfl) (hn d rfl) (us := z.cells) (t := T) (zMatches_ok (B := B) (ρ := ρ) (w := w) (ok := okB ρ s.H w) hm) (by rw [zMatches_ids hm]; simp) []
  have hrun : (execOp a.eval o).run P w = .ok (.value (.pointer (some ⟨w.heap.size, 0, none⟩))) (w.alloc (.cells z.cells T)) := by
    simp [execOp, ho, Instr.alloc, run_zeroValue fit.info hz, newVar, run_newRow]
  unfold Oper.wp
  rw [hrun]
  show K (a.put o.dst _) _
  rw [hdst]
  exact hK _ _ ρ' h'
theorem sound_box {T : TypeId} {d : Nat} {x : Operand} {ar : AR} (hdst : o.dst = some d) (ho : o.op = .box T x) (hx : ev x = .r ar) :
    Good P o ev H ⟨.r (.c (.ptr (d, 0, 0) 0)), [((d, 0, 0), some (.box ar.cells))], some d, []⟩ := by
  intro N B M w0 ρ s a w Q K hc hop hR hn hd hK
  rw [hdst] at hd hK
  have hv := hc.eval x
  rw [hop x (by simp [ho, Op.operands]), hx] at hv
  obtain ⟨ρ', h'⟩ := hc.newBox (hd d rfl) (hn d rfl) (us := (a.eval x).cells) (t := T) (RR.cells hv.1) (by
    have := hv.2
    cases ar with
    | c y => intro id hid; exact this id (by simpa [AR.cells, AV.ids, AR.ids] using hid)
    | agg cs => exact this) []
  have hrun : (execOp a.eval o).run P w = .ok (.value (.pointer (some ⟨w.heap.size, 0, none⟩))) (w.alloc (.cells (a.eval x).cells T)) := by
    simp [execOp, ho, Instr.box, newVar, run_newRow]
  unfold Oper.wp
  rw [hrun]
  show K (a.put o.dst _) _
  rw [hdst]
  exact hK _ _ ρ' h'
theorem Conc.newArr (h : Conc N B M w0 ρ s a w) {d : Nat} (hd : d < N) (hU : ¬ s.U d) (rm : List Id) {w' : World} (hT : Turn (fun _ => False) w w') {b cap sz : Nat} {us : Array Value} {e : TypeId} {fz : Nat × Nat} {rows : List (List Tr)} {fr : Bool}
    (hb : w.heap.size ≤ b) (hh : w'.heap[b]? = some (.cells us e fz)) (hf : unfrozen us.size fz) (hu : ∀ r ∈ rows, r.length = sz) (h1 : rows.length ≤ cap) (h2 : cap ≤ maxLen) (h3 : us.size = cap * sz)
    (hr : ∀ ok' : Nat → Prop, (∀ c, okB ρ s.H w c → ok' c) → (∀ o x c, o ∈ rm → s.H o = some x → Own ρ o c → ok' c) → RTs w (okF B ok' fr) (us.toList.take (rows.length * sz)) rows.flatten) (R : List Id) :
    ∃ ρ', Conc N B M w0 ρ' (s.app (some d) ⟨.r (.c (.own (d, 0, 0))), rm.map (fun r => (r, none)) ++ [((d, 0, 0), some (.arr fr sz rows))], some d, R⟩) (a.put (some d) (.slice (some ⟨b, 0, none⟩) rows.length cap)) w' := by
  have hlt : b < w'.heap.size := (Array.getElem?_eq_some_iff.1 hh).1
  refine h.make hd hU (D := fun _ => False) rm hT (v := .slice (some ⟨b, 0, none⟩) rows.length cap) (fun _ => False) (fun _ h => h.elim) (fun b' hb' => ?_) (fun _ h => h.elim) (fun id hid => by simp [AO.ids] at hid) (fun id hid => ?_) (fun ρ' ok' hk hkr hρ hq _ => ⟨?_, ?_⟩)
  · injection hb' with hb'; subst hb'; exact ⟨hlt, .inl hb⟩
  · simp [AV.ids, AR.ids, AC.ids] at hid; left; rw [hid]
  · have hold : ∀ c, okB ρ s.H w c ∨ (∃ o x, o ∈ rm ∧ s.H o = some x ∧ Own ρ o c) → w'.heap[c]? = w.heap[c]? ∧ ok' c := by
      rintro c (hc | ⟨o, x, g1, g2, g3⟩)
      · exact hk c hc
      · have hr := (h.rng o x c g2 g3).1
        refine ⟨hT.block c hr (fun h => h), hkr o x c g1 g2 g3 ?_ (fun h => h)⟩
        intro e
        have e' : b = c := by simpa [blk] using e
        omega
    refine ⟨hu, .inr ⟨b, cap, us, e, fz, hq, hh, hf, h1, h2, h3, ?_, fun _ => Nat.le_trans h.base hb⟩⟩
    have := hr (fun c => okB ρ s.H w c ∨ (∃ o x, o ∈ rm ∧ s.H o = some x ∧ Own ρ o c)) (fun c hc => .inl hc) (fun o x c g1 g2 g3 => .inr ⟨o, x, g1, g2, g3⟩)
    exact this.keep (okF_keep hold)
  · exact ⟨⟨_, _, _, hq⟩, hq.symm⟩
theorem arr_tree {ok' : Nat → Prop} {fr : Bool} {sz : Nat} {rows : List (List Tr)} {o : Id} (hc : Conc N B M w0 ρ s a w) (ho : s.H o = some (.arr fr sz rows)) (hok : ∀ c, okB ρ s.H w c → ok' c) (hb : ∀ c, Own ρ o c → ok' c) :
    RT w (okF B ok' fr) (ρ o) (.lst sz rows) := by
  obtain ⟨hu, g⟩ := hc.arr ho
  rcases g with ⟨g1, g2⟩ | ⟨b, cap, cur, e, fz, g1, g2, g3, g4, g5, g6, g7, g8, g9⟩
  · subst g2; rw [g1]; exact .emp _ _ _ (Nat.zero_le _)
  · rw [g1]
    have hb' := hb b (.inl (by rw [g1]; rfl))
    refine .lst _ _ _ _ _ (cur.toList.take (rows.length * sz)) rfl g4 g5 hu ⟨hb', g9⟩ (by rw [g7.length]) g8 fun p v u hv hu' => ?_
    exact (g7.get p v u hv hu').keep fun c hc' => ⟨rfl, hok c hc'.1, hc'.2⟩
theorem frz_ok {ok' : Nat → Prop} (hc : Conc N B M w0 ρ s a w) (hok : ∀ c, okB ρ s.H w c → ok' c) : ∀ {vs : List Value} {cs : List AC} {ts : List Tr} {fr : Bool} {ids : List Id}, frz H cs = some (ts, fr, ids) → (∀ o ∈ ids, s.H o = H o) → RCs B ρ w (okB ρ s.H w) vs cs →
    (∀ o x c, o ∈ ids → s.H o = some x → Own ρ o c → ok' c) → RTs w (okF B ok' fr) vs ts
  | [], [], ts, fr, ids, h, _, _, _ => by simp only [frz, Option.some.injEq, Prod.mk.injEq] at h; obtain ⟨rfl, _⟩ := h; trivial
  | v :: vs, c :: cs, ts, fr, ids, h, hH, hr, hb => by
    cases c with
    | t x =>
      simp only [frz] at h
      cases hf : frz H cs with
      | none => rw [hf] at h; simp at h
      | some p =>
        obtain ⟨ts', fr', ids'⟩ := p
        rw [hf] at h
        have hx : RT w (okB ρ s.H w) v x := hr.1
        cases x with
        | lst sz rows =>
          simp only [Option.some.injEq, Prod.mk.injEq] at h
          obtain ⟨rfl, rfl, rfl⟩ := h
          have ih := frz_ok (ok' := ok') hc hok hf hH hr.2 hb
          exact ⟨hx.keep fun c hc' => ⟨rfl, hok c hc', fun e => by cases e⟩, ih.keep (okF_weak fun e => by cases e)⟩
        | int =>
          simp only [Option.some.injEq, Prod.mk.injEq] at h
          obtain ⟨rfl, rfl, rfl⟩ := h
          exact ⟨by cases hx; exact .int _ _, frz_ok hc hok hf hH hr.2 hb⟩
        | bool =>
          simp only [Option.some.injEq, Prod.mk.injEq] at h
          obtain ⟨rfl, rfl, rfl⟩ := h
          exact ⟨by cases hx; exact .bool _, frz_ok hc hok hf hH hr.2 hb⟩
        | str =>
          simp only [Option.some.injEq, Prod.mk.injEq] at h
          obtain ⟨rfl, rfl, rfl⟩ := h
          exact ⟨by cases hx; exact .str _, frz_ok hc hok hf hH hr.2 hb⟩
    | f x =>
      simp only [frz] at h
      cases hf : frz H cs with
      | none => rw [hf] at h; simp at h
      | some p =>
        obtain ⟨ts', fr', ids'⟩ := p
        rw [hf] at h
        simp only [Option.some.injEq, Prod.mk.injEq] at h
        obtain ⟨rfl, rfl, rfl⟩ := h
        have hx : RT w (okF B (okB ρ s.H w) true) v x := hr.1
        exact ⟨hx.keep fun c hc' => ⟨rfl, hok c hc'.1, fun _ => hc'.2 rfl⟩, frz_ok hc hok hf hH hr.2 hb⟩
    | nils sz =>
      simp only [frz] at h
      cases hf : frz H cs with
      | none => rw [hf] at h; simp at h
      | some p =>
        obtain ⟨ts', fr', ids'⟩ := p
        rw [hf] at h
        simp only [Option.some.injEq, Prod.mk.injEq] at h
        obtain ⟨rfl, rfl, rfl⟩ := h
        have hx : v = .slice none 0 0 := hr.1
        subst hx
        exact ⟨.emp _ _ _ (Nat.zero_le _), frz_ok hc hok hf hH hr.2 hb⟩
    | own o =>
      simp only [frz] at h
      split at h
      · rename_i fr1 sz rows ts' fr' ids' ho hf
        simp only [Option.some.injEq, Prod.mk.injEq] at h
        obtain ⟨rfl, rfl, rfl⟩ := h
        have ho' : s.H o = some (.arr fr1 sz rows) := by rw [hH o (by simp)]; exact ho
        obtain ⟨_, hx⟩ := hr.1
        have h1 := arr_tree (ok' := ok') hc ho' hok (fun c hcb => hb o _ c (by simp) ho' hcb)
        rw [hx]
        exact ⟨h1.keep (okF_weak fun e => by simp at e; exact e.1), (frz_ok hc hok hf (fun o ho => hH o (by simp [ho])) hr.2 (fun o x c h1 h2 h3 => hb o x c (by simp [h1]) h2 h3)).keep (okF_weak fun e => by simp at e; exact e.2)⟩
      · cases h
    | nilp => simp [frz] at h
    | sub => simp [frz] at h
    | ptr => simp [frz] at h
    | opq => simp [frz] at h
    | mpv => simp [frz] at h
  | [], _ :: _, _, _, _, _, _, h, _ => h.elim
  | _ :: _, [], _, _, _, _, _, h, _ => h.elim
theorem fill_rows (sz : Nat) : ∀ (parts : List (Nat × Value)) (n0 : Nat) (pre : List Value) (rest : List Value), pre.length = n0 * sz → (∀ (j : Nat) (p : Nat × Value), parts[j]? = some p → p.1 = n0 + j ∧ p.2.cells.size = sz) → rest.length = parts.length * sz →
    Instr.fill (fun i => some (i * sz, sz)) (pre ++ rest).toArray parts = some (pre ++ parts.flatMap (fun p => p.2.cells.toList)).toArray
  | [], n0, pre, rest, _, _, hr => by
    have : rest = [] := List.eq_nil_of_length_eq_zero (by simpa using hr)
    subst this
    simp [Instr.fill]
  | (i, v) :: parts, n0, pre, rest, hp, hps, hr => by
    obtain ⟨h1, h2⟩ := hps 0 (i, v) (by simp)
    simp only [Nat.add_zero] at h1 h2
    subst h1
    have hrl : rest.length = sz + parts.length * sz := by rw [hr, List.length_cons, Nat.add_mul]; omega
    have hfold : v.cells.zipIdx.foldl (fun cs (x : Value × Nat) => cs.setIfInBounds (i * sz + x.2) x.1) (pre ++ rest).toArray = (pre ++ v.cells.toList ++ rest.drop sz).toArray := by
      have key : ∀ (vs : List Value) (k : Nat) (pre rest : List Value), vs.length ≤ rest.length →
          (vs.zipIdx k).foldl (fun (cs : Array Value) (x : Value × Nat) => cs.setIfInBounds (pre.length - k + x.2) x.1) (pre ++ rest).toArray = (pre ++ vs ++ rest.drop vs.length).toArray ∨ pre.length < k := by
        intro vs
        induction vs with
        | nil => intro k pre rest _; left; simp
        | cons u vs ih =>
          intro k pre rest hl
          rcases Nat.lt_or_ge pre.length k with hk | hk
          · exact .inr hk
          left
          cases rest with
          | nil => simp at hl
          | cons r rest =>
            simp only [List.zipIdx_cons, List.foldl_cons]
            have e1 : (pre ++ r :: rest).toArray.setIfInBounds (pre.length - k + k) u = ((pre ++ [u]) ++ rest).toArray := by
              rw [Nat.sub_add_cancel hk]
              simp
            rw [e1]
            have := ih (k + 1) (pre ++ [u]) rest (by simpa using hl)
            rcases this with this | this
            · have e2 : (pre ++ [u]).length - (k + 1) = pre.length - k := by simp
              rw [e2] at this
              rw [this]
              simp
            · simp at this; omega
      have := key v.cells.toList 0 pre rest (by simp; omega)
      rcases this with this | this
      · rw [← Array.foldl_toList, Array.toList_zipIdx]
        simp only [Nat.sub_zero, hp] at this
        rw [this]
        simp [h2]
      · omega
    simp only [Instr.fill]
    rw [if_neg (by simp [h2]; omega), hfold]
    have := fill_rows sz parts (i + 1) (pre ++ v.cells.toList) (rest.drop sz) (by simp [hp, h2, Nat.add_mul]) (fun j p hj => by
      obtain ⟨g1, g2⟩ := hps (j + 1) p (by simpa using hj)
      exact ⟨by omega, g2⟩) (by rw [List.length_drop]; omega)
    rw [this]
    simp
theorem semRows_spec : ∀ (parts : List (Nat × Operand)) (n : Nat) (K : Bool → List (List Tr) → List Id → Prop), semRows H n (parts.map fun p => (p.1, ev p.2)) K →
    ∃ fr rows ids, K fr rows ids ∧ rows.length = parts.length ∧ (∀ (j : Nat) (p : Nat × Operand), parts[j]? = some p → p.1 = n + j) ∧
      ∀ (N B : Nat) (M : Nat → Prop) (w0 : Start) (ρ : Rho) (s : F_) (a : Act) (w : World) (ok' : Nat → Prop), Conc N B M w0 ρ s a w → (∀ c, okB ρ s.H w c → ok' c) → (∀ o ∈ ids, s.H o = H o) → (∀ o x c, o ∈ ids → s.H o = some x → Own ρ o c → ok' c) →
        (∀ p ∈ parts, RV B ρ w (okB ρ s.H w) (a.eval p.2) (ev p.2)) → ∀ (j : Nat) (p : Nat × Operand) (row : List Tr), parts[j]? = some p → rows[j]? = some row → RTs w (okF B ok' fr) (a.eval p.2).cells.toList row
  | [], n, K, h => ⟨true, [], [], h, rfl, by simp, by simp⟩
  | (i, x) :: parts, n, K, h => by
    simp only [List.map_cons, semRows] at h
    cases hx : ev x with
    | r ar =>
      rw [hx] at h
      simp only [semRows] at h
      split at h
      · rename_i ts fr0 ids0 hn hts
        have hin : i = n := by simpa using hn
        obtain ⟨fr, rows, ids, h1, h2, h3, h4⟩ := semRows_spec parts (n + 1) _ h
        refine ⟨_, ts :: rows, _, h1, by simp [h2], fun j p hj => ?_, fun N B M w0 ρ s a w ok' hc hok hH hb hf j p row hj hr => ?_⟩
        · cases j with
          | zero => simp at hj; subst hj; simpa using hin
          | succ j => have := h3 j p (by simpa using hj); omega
        · cases j with
          | zero =>
            simp at hj hr
            subst hj; subst hr
            have := hf (i, x) (by simp)
            simp only at this
            rw [hx] at this
            exact (frz_ok hc hok hts (fun o ho => hH o (by simp [ho])) (RR.cells this) (fun o x c g1 g2 g3 => hb o x c (by simp [g1]) g2 g3)).keep (okF_weak fun e => by simp at e; exact e.1)
          | succ j =>
            exact (h4 N B M w0 ρ s a w ok' hc hok (fun o ho => hH o (by simp [ho])) (fun o x c g1 g2 g3 => hb o x c (by simp [g1]) g2 g3) (fun p hp => hf p (by simp [hp])) j p row (by simpa using hj) (by simpa using hr)).keep (okF_weak fun e => by simp at e; exact e.2)
      · exact h.elim
    | tup => rw [hx] at h; exact h.elim
    | el => rw [hx] at h; exact h.elim
    | ro => rw [hx] at h; exact h.elim
    | unk => rw [hx] at h; exact h.elim
  termination_by parts => parts.length
theorem flat_RTs {ok : Nat → Prop} : ∀ (vss : List (List Value)) (rows : List (List Tr)), vss.length = rows.length → (∀ (j : Nat) (vs : List Value) (row : List Tr), vss[j]? = some vs → rows[j]? = some row → RTs w ok vs row) → RTs w ok vss.flatten rows.flatten
  | [], [], _, _ => trivial
  | vs :: vss, row :: rows, hl, h => RTs.append (h 0 vs row (by simp) (by simp)) (flat_RTs vss rows (by simpa using hl) fun j vs row h1 h2 => h (j + 1) vs row (by simpa using h1) (by simpa using h2))
  | [], _ :: _, hl, _ => by simp at hl
  | _ :: _, [], hl, _ => by simp at hl
theorem run_buildSlice {T e : TypeId} {n : Nat} {i ie : TypeInfo} {z : Value} (hu : P.underlying T = some (.slice e)) (hi : P.info? e = some ie) (hz : ie.zero = some z) (hsz : n * ie.size ≤ 16777216) (vals : Array (Nat × Value)) (cs : Array Value)
    (hf : Instr.fill (fun i => some (i * ie.size, ie.size)) ((Array.range (n * ie.size)).map (fun i => (if n * ie.size = 0 then #[] else z.cells)[i % (if n * ie.size = 0 then #[] else z.cells).size]!)) vals.toList = some cs) :
    (Instr.buildSlice T n vals).run P w = .ok (.slice (some ⟨w.heap.size, 0, none⟩) n n) (w.alloc (.cells cs e)) := by
  have hlt : ¬ n * ie.size > 2 ^ 24 := by omega
  unfold Instr.buildSlice
  by_cases h0 : n * ie.size = 0
  · rw [if_pos h0] at hf
    simp only [Sem.run_bind, run_underlying hu, Result.andThen_ok, run_sizeOf hi, if_neg hlt, if_pos h0, Sem.run_pure]
    rw [hf]
    simp [run_newRow]
  · rw [if_neg h0] at hf
    simp only [Sem.run_bind, run_underlying hu, Result.andThen_ok, run_sizeOf hi, if_neg hlt, if_neg h0, Sem.run_pure, run_zeroValue hi hz]
    rw [hf]
    simp [run_newRow]
theorem sound_buildSlice {T e : TypeId} {d n : Nat} {parts : Array (Nat × Operand)} {ti te : TI} (hΓ : Γ.chk P = true) (hT : Γ.get T = some ti) (he : ti.elem = some e) (hE : Γ.get e = some te) (hdst : o.dst = some d) (ho : o.op = .buildSlice T n parts)
    (hn : parts.toList.length = n)
    (h : semRows H 0 (parts.toList.map fun p => (p.1, ev p.2)) fun fr rows ids => (∀ r ∈ rows, r.length = te.size) ∧ n * te.size ≤ 16777216 ∧ K ⟨.r (.c (.own (d, 0, 0))), ids.map (fun r => (r, none)) ++ [((d, 0, 0), some (.arr fr te.size rows))], some d, ids⟩) :
    ∃ ef, K ef ∧ Good P o ev H ef := by
  obtain ⟨ii, dd, fit⟩ := Env.fit hΓ hT
  obtain ⟨ie, de, fite⟩ := Env.fit hΓ hE
  have hd := dslice fit he
  subst hd
  obtain ⟨z, hz, hm⟩ := fite.zero
  obtain ⟨fr, rows, ids, ⟨hu, hsz, hK⟩, hrl, hidx, hrows⟩ := semRows_spec parts.toList 0 _ h
  refine ⟨_, hK, ?_⟩
  intro N B M w0 ρ s a w Q K hc hop hR hnew hd hK
  rw [hdst] at hd hK
  have hval : ∀ p ∈ parts.toList, RV B ρ w (okB ρ s.H w) (a.eval p.2) (ev p.2) := fun p hp => by
    have := (hc.eval p.2).1
    rwa [hop p.2 (by simp only [ho, Op.operands]; exact List.mem_map.2 ⟨p, hp, rfl⟩)] at this
  let vss : List (List Value) := parts.toList.map fun p => (a.eval p.2).cells.toList
  have hvl : vss.length = rows.length := by simp [vss, hrl]
  have hflat : ∀ ok' : Nat → Prop, (∀ c, okB ρ s.H w c → ok' c) → (∀ o x c, o ∈ ids → s.H o = some x → Own ρ o c → ok' c) → RTs w (okF B ok' fr) vss.flatten rows.flatten := by
    intro ok' hok hb
    have hRT := hrows N B M w0 ρ s a w ok' hc hok hR hb hval
    refine flat_RTs vss rows hvl fun j vs row h1 h2 => ?_
    simp only [vss, List.getElem?_map, Option.map_eq_some_iff] at h1
    obtain ⟨p, g1, rfl⟩ := h1
    exact hRT j p row g1 h2
  have hRT := hrows N B M w0 ρ s a w (fun _ => True) hc (fun _ _ => trivial) hR (fun _ _ _ _ _ _ => trivial) hval
  have hcell : ∀ (j : Nat) (p : Nat × Operand), parts.toList[j]? = some p → p.1 = j ∧ (a.eval p.2).cells.size = te.size := by
    intro j p hj
    have hjl : j < parts.toList.length := by
      rcases Nat.lt_or_ge j parts.toList.length with h' | h'
      · exact h'
      · rw [List.getElem?_eq_none h'] at hj; cases hj
    have hjr : rows[j]? = some (rows[j]'(by omega)) := List.getElem?_eq_getElem (by omega)
    have := (hRT j p _ hj hjr).length
    rw [hu _ (List.mem_of_getElem? hjr)] at this
    exact ⟨by simpa using hidx j p hj, by simpa using this⟩
  let init : Array Value := (Array.range (n * te.size)).map (fun i => (if n * te.size = 0 then #[] else z.cells)[i % (if n * te.size = 0 then #[] else z.cells).size]!)
  have hinit : init.size = n * te.size := by simp [init]
  have hfill : Instr.fill (fun i => some (i * te.size, te.size)) init ((parts.map fun p => (p.1, a.eval p.2)).toList) = some vss.flatten.toArray := by
    have := fill_rows te.size ((parts.map fun p => (p.1, a.eval p.2)).toList) 0 [] init.toList (by simp) (fun j p hj => by
      simp only [Array.toList_map, List.getElem?_map, Option.map_eq_some_iff] at hj
      obtain ⟨q, g1, rfl⟩ := hj
      obtain ⟨g2, g3⟩ := hcell j q g1
      exact ⟨by simp [g2], g3⟩) (by simp only [Array.length_toList, hinit, Array.toList_map, List.length_map]; rw [← hn]; simp)
    simp only [List.nil_append, Array.toArray_toList] at this
    rw [this]
    simp [vss, List.flatMap_def]; rfl
  have hrun : (execOp a.eval o).run P w = .ok (.value (.slice (some ⟨w.heap.size, 0, none⟩) n n)) (w.alloc (.cells vss.flatten.toArray e)) := by
    have := run_buildSlice (w := w) (n := n) (i := ii) fit.und fite.info hz (by rw [fite.size]; exact hsz) (parts.map fun p => (p.1, a.eval p.2)) vss.flatten.toArray (by rw [fite.size]; exact hfill)
    simp only [execOp, ho, Sem.run_bind, this, Result.andThen_ok, Sem.run_pure]
  have hlen : rows.length = n := by rw [hrl, hn]
  have hnmax : n ≤ maxLen := by
    have := fite.pos
    have h1 : n * 1 ≤ n * te.size := Nat.mul_le_mul_left _ (by omega)
    unfold maxLen; omega
  have hfl : vss.flatten.length = n * te.size := by rw [(hflat (fun _ => True) (fun _ _ => trivial) (fun _ _ _ _ _ _ => trivial)).length, flatten_length te.size rows hu, hlen]
  obtain ⟨ρ', h'⟩ := hc.newArr (hd d rfl) (hnew d rfl) ids (w' := w.alloc (.cells vss.flatten.toArray e)) (Turn.alloc _ _ _) (b := w.heap.size) (cap := n) (sz := te.size) (us := vss.flatten.toArray) (e := e) (fz := (0, 0)) (rows := rows) (fr := fr)
    (Nat.le_refl _) (heap_new _ _) (unfrozen_zero _) hu (by omega) hnmax (by simp only [List.size_toArray, hfl]) (fun ok' hok hb => by rw [hlen, List.take_of_length_le (by simp only [hfl]; omega)]; exact hflat ok' hok hb) ids
  rw [hlen] at h'
  unfold Oper.wp
  rw [hrun]
  show K (a.put o.dst _) _
  rw [hdst]
  exact hK _ _ ρ' h'
theorem setCells_heap (b : Nat) (e : TypeId) (fz : Nat × Nat) : ∀ (vs : List Value) (o : Nat) (w : World) (cur : Array Value), w.heap[b]? = some (.cells cur e fz) → o + vs.length ≤ cur.size →
    ∃ cur', (w.setCells b o vs).heap[b]? = some (.cells cur' e fz) ∧ cur'.size = cur.size ∧ cur'.toList = cur.toList.take o ++ vs ++ cur.toList.drop (o + vs.length)
  | [], o, w, cur, h, _ => ⟨cur, h, rfl, by simp⟩
  | v :: vs, o, w, cur, h, hl => by
    simp only [List.length_cons] at hl
    have h1 : (w.setCell ⟨b, o, none⟩ v).heap[b]? = some (.cells (cur.setIfInBounds o v) e fz) := by
      simp [World.setCell, Array.getElem?_modify, h]
    obtain ⟨cur', g1, g2, g3⟩ := setCells_heap b e fz vs (o + 1) _ _ h1 (by simp; omega)
    refine ⟨cur', g1, by simpa using g2, ?_⟩
    rw [g3]
    have hlt : o < cur.toList.length := by simp; omega
    simp only [Array.toList_setIfInBounds, List.length_cons]
    have e1 : (cur.toList.set o v).take (o + 1) = cur.toList.take o ++ [v] := by
      rw [List.take_succ_eq_append_getElem (by simp; omega)]
      simp [List.take_set_of_le]
    have e2 : (cur.toList.set o v).drop (o + 1 + vs.length) = cur.toList.drop (o + (vs.length + 1)) := by
      rw [List.drop_set_of_lt (by omega)]
      congr 1; omega
    rw [e1, e2]
    simp
theorem setCells_turn (b : Nat) : ∀ (vs : List Value) (o : Nat) (w : World), Turn (fun k => k = b) w (w.setCells b o vs)
  | [], _, w => Turn.refl _ w
  | v :: vs, o, w => (Turn.setCell w ⟨b, o, none⟩ v).trans (setCells_turn b vs (o + 1) _)
theorem run_append_in {t u ty e : TypeId} {i : TypeInfo} {du : TypeDesc} (ht : P.underlying t = some (.slice e)) (hu : P.underlying u = some du) (hk : dKind du = none) (hi : P.info? e = some i)
    (x : Value) (b sLen sCap n : Nat) (news : List Value) (hl : ∀ w, (Builtin.lenOf x).run P w = .ok n w) (hf : (Builtin.firstCells i.size n x).run P w = .ok news.toArray w) (hroom : sLen + n ≤ sCap)
    {cur : Array Value} {e' : TypeId} {fz : Nat × Nat} (hb : w.heap[b]? = some (.cells cur e' fz)) (hz : unfrozen cur.size fz) (hfit : sLen * i.size + news.length ≤ cur.size) (h1 : ∀ v ∈ news, v.oneCell' = true) :
    (Builtin.append_ #[t, u] ty #[.slice (some ⟨b, 0, none⟩) sLen sCap, x]).run P w = .ok (.slice (some ⟨b, 0, none⟩) (sLen + n) sCap) (w.setCells b (sLen * i.size) news) := by
  have hst := run_storeCells_cells (P := P) b (sLen * i.size) news 0 w (fun j hj => by
      rw [cell_of_row w b _ cur e' fz hb]
      simp only [Nat.add_zero]
      rw [Array.getElem?_eq_getElem (by omega)]; rfl) (fun j hj => by
      simp only [World.frozen?, hb, Nat.add_zero]
      have := hz (sLen * i.size + j) (by omega)
      simp only [Bool.and_eq_false_iff, decide_eq_false_iff_not, Nat.not_le, Nat.not_lt]
      omega) h1
  simp only [Nat.add_zero] at hst
  unfold Builtin.append_
  simp only [List.getElem?_toArray, List.getElem?_cons_zero, List.getElem?_cons_succ, Sem.run_bind, run_underlying ht, run_underlying hu, Result.andThen_ok, run_sizeOf hi, Sem.run_pure]
  cases du
  case int => simp [dKind] at hk
  all_goals simp only [Bool.false_eq_true, if_false, hl, if_pos hroom, Bool.not_false, if_true, hf, add_head, hst, Sem.run_bind, Result.andThen_ok, Sem.run_pure]
theorem run_append_new {t u ty e : TypeId} {i : TypeInfo} {z : Value} {du : TypeDesc} (ht : P.underlying t = some (.slice e)) (hu : P.underlying u = some du) (hk : dKind du = none) (hi : P.info? e = some i) (hz : i.zero = some z)
    (x : Value) (A : Option Addr) (sLen sCap n : Nat) (olds news : List Value) (hl : ∀ w, (Builtin.lenOf x).run P w = .ok n w) (hf : (Builtin.firstCells i.size n x).run P w.drew = .ok news.toArray w.drew)
    (hfo : (Builtin.firstCells i.size sLen (.slice A sLen sCap)).run P w.drew = .ok olds.toArray w.drew)
    (hg : sCap < sLen + n) (h63 : sLen + n ≤ 9223372036854775807) (hfit : (sLen + n) * i.bytes ≤ 140737488355328) :
    (Builtin.append_ #[t, u] ty #[.slice A sLen sCap, x]).run P w =
      .ok (.slice (some ⟨w.heap.size, 0, none⟩) (sLen + n) (grownCap w (sLen + n) sCap e))
        (w.drew.alloc (.cells (olds.toArray ++ news.toArray ++ Builtin.zeroCells z.cells (grownCap w (sLen + n) sCap e - (sLen + n))) e)) := by
  have hn : ¬ (sLen + n ≤ sCap) := by omega
  have h63' : ¬ (((sLen + n : Nat) : Int) > IntKind.i64.max) := by
    have : IntKind.i64.max = 9223372036854775807 := by decide
    omega
  have h48' : ¬ (Builtin.nextslicecap (sLen + n) sCap * i.bytes > 2 ^ 48) := by
    have := growslice_fits hg hfit
    omega
  unfold Builtin.append_
  simp only [List.getElem?_toArray, List.getElem?_cons_zero, List.getElem?_cons_succ, Sem.run_bind, run_underlying ht, run_underlying hu, Result.andThen_ok, run_sizeOf hi, Sem.run_pure]
  cases du
  case int => simp [dKind] at hk
  all_goals simp only [Bool.false_eq_true, if_false, hl, if_neg hn, Bool.not_false, if_true, run_typeInfo hi, if_neg h48', h63', false_and, Sem.run_bind, Result.andThen_ok, Sem.run_pure]
  all_goals
    simp [Question.forced, hf, hfo, run_zeroValue hi hz, run_newRow, grownCap]
    congr 2
    apply Array.ext'
    simp [List.append_assoc]
theorem lst_len {ok : Nat → Prop} {v : Value} {sz : Nat} {rows : List (List Tr)} (h : RT w ok v (.lst sz rows)) : ∃ news, (∀ (P : Program) (w' : World), (Builtin.lenOf v).run P w' = .ok rows.length w') ∧
    (∀ (P : Program) (w' : World), (∀ b, ok b → w'.heap[b]? = w.heap[b]?) → (Builtin.firstCells sz rows.length v).run P w' = .ok news.toArray w') ∧ RTs w ok news rows.flatten ∧ ∀ r ∈ rows, r.length = sz := by
  obtain ⟨A, c, rfl, h1, h2, hu, hne⟩ := h.slice_inv
  by_cases h0 : rows = []
  · subst h0
    refine ⟨[], fun P w' => by simp [Builtin.lenOf], fun P w' _ => ?_, trivial, hu⟩
    cases A with
    | none => simp [Builtin.firstCells]
    | some ad => simp [Builtin.firstCells, loadCells, loadCellsFrom]
  · obtain ⟨ad, us, rfl, hok, hl, hcell, hr⟩ := hne h0
    refine ⟨us, fun P w' => by simp [Builtin.lenOf], fun P w' hk => ?_, hr, hu⟩
    exact run_firstCells_some w' sz rows.length ad rows.length c us (by rw [hl, flatten_length sz rows hu]) fun j v hv => (World.cell?_of_block (w := w) (by rw [add_block]; exact hk _ hok)).trans (hcell j v hv)
theorem src_ok {esz : Nat} {x : Operand} {K2 : Bool → List (List Tr) → List Id → Prop} (h : srcRows esz (ev x) H K2) : ∃ fr rows R, K2 fr rows R ∧
    ∀ (N B : Nat) (M : Nat → Prop) (w0 : Start) (ρ : Rho) (s : F_) (a : Act) (w : World), Conc N B M w0 ρ s a w → evL s.L x = ev x → (∀ id ∈ R, s.H id = H id) →
      ∃ news, (∀ (P : Program) (w' : World), (Builtin.lenOf (a.eval x)).run P w' = .ok rows.length w') ∧ (∀ (P : Program) (w' : World), w'.heap = w.heap → (Builtin.firstCells esz rows.length (a.eval x)).run P w' = .ok news.toArray w') ∧
        RTs w (okF B (okB ρ s.H w) fr) news rows.flatten ∧ ∀ r ∈ rows, r.length = esz := by
  unfold srcRows at h
  split at h
  · rename_i b hx
    obtain ⟨rfl, h⟩ := h
    refine ⟨_, _, _, h, fun N B M w0 ρ s a w hc hop _ => ?_⟩
    have hv := (hc.eval x).1
    rw [hop, hx] at hv
    have e1 := inv_str hv
    rw [e1]
    have hsz : (⟨b.toArray⟩ : ByteArray).size = b.length := by simp [ByteArray.size]
    refine ⟨b.map fun u => .int .u8 u.toNat, fun P w' => by simp [Builtin.lenOf, hsz], fun P w' _ => ?_, ?_, by simp [byteRow]⟩
    · simp only [Builtin.firstCells, List.length_map, Sem.run_pure]
      congr 1
      have : (⟨b.toArray⟩ : ByteArray).extract 0 b.length = ⟨b.toArray⟩ := by rw [← hsz]; simp
      rw [this]
      simp
    · clear h e1 hv hx hsz
      induction b with
      | nil => trivial
      | cons u b ih => exact ⟨.int _ _, ih⟩
  · rename_i sz hx
    refine ⟨_, _, _, h, fun N B M w0 ρ s a w hc hop _ => ?_⟩
    have hv := (hc.eval x).1
    rw [hop, hx] at hv
    have e1 : a.eval x = .slice none 0 0 := hv
    rw [e1]
    exact ⟨[], fun P w' => by simp [Builtin.lenOf], fun P w' _ => by simp [Builtin.firstCells], trivial, by simp⟩
  · rename_i sz rows hx
    obtain ⟨rfl, h⟩ := h
    refine ⟨_, _, _, h, fun N B M w0 ρ s a w hc hop _ => ?_⟩
    have hv := (hc.eval x).1
    rw [hop, hx] at hv
    obtain ⟨news, g1, g2, g3, g4⟩ := lst_len hv
    exact ⟨news, g1, fun P w' e => g2 P w' fun b _ => by rw [e], g3.keep fun b hb => ⟨rfl, hb, fun e => by cases e⟩, g4⟩
  · rename_i sz rows hx
    obtain ⟨rfl, h⟩ := h
    refine ⟨_, _, _, h, fun N B M w0 ρ s a w hc hop _ => ?_⟩
    have hv := (hc.eval x).1
    rw [hop, hx] at hv
    have hv : RT w (okF B (okB ρ s.H w) true) (a.eval x) (.lst sz rows) := hv
    obtain ⟨news, g1, g2, g3, g4⟩ := lst_len hv
    exact ⟨news, g1, fun P w' e => g2 P w' fun b _ => by rw [e], g3, g4⟩
  · rename_i q hx
    split at h
    · rename_i fr sz rows hq
      obtain ⟨rfl, h⟩ := h
      refine ⟨_, _, _, h, fun N B M w0 ρ s a w hc hop hR => ?_⟩
      have hv := (hc.eval x).1
      rw [hop, hx] at hv
      obtain ⟨_, e1⟩ := hv
      rw [e1]
      have hq' : s.H q = some (.arr fr sz rows) := by rw [hR q (by simp)]; exact hq
      obtain ⟨hu, g⟩ := hc.arr hq'
      rcases g with ⟨g1, g2⟩ | ⟨b, cap, cur, e, fz, g1, g2, g3, g4, g5, g6, g7, g8, g9⟩
      · subst g2
        rw [g1]
        exact ⟨[], fun P w' => by simp [Builtin.lenOf], fun P w' _ => by simp [Builtin.firstCells], trivial, by simp⟩
      · rw [g1]
        refine ⟨_, fun P w' => by simp [Builtin.lenOf], fun P w' he => ?_, g7, hu⟩
        exact run_firstCells_some w' sz rows.length ⟨b, 0, none⟩ rows.length cap _ (by rw [g7.length, flatten_length sz rows hu]) fun j v hv => by
          rw [World.cell?_of_block (w := w) (by rw [he])]; exact g8 j v hv
    · exact h.elim
  · rename_i q k hx
    split at h
    · rename_i fr sz rows hq
      obtain ⟨rfl, hkl, h⟩ := h
      refine ⟨_, _, _, h, fun N B M w0 ρ s a w hc hop hR => ?_⟩
      have hv := (hc.eval x).1
      rw [hop, hx] at hv
      obtain ⟨A, n, c, e0, e1, e2⟩ := hv
      rw [e1]
      have hq' : s.H q = some (.arr fr sz rows) := by rw [hR q (by simp)]; exact hq
      obtain ⟨hu, g⟩ := hc.arr hq'
      have hut : ∀ r ∈ rows.take k, r.length = sz := fun r hr => hu r (List.mem_of_mem_take hr)
      have hkk : (rows.take k).length = k := by rw [List.length_take]; omega
      rcases g with ⟨g1, g2⟩ | ⟨b, cap, cur, e, fz, g1, g2, g3, g4, g5, g6, g7, g8, g9⟩
      · subst g2
        have : k = 0 := by simpa using hkl
        subst this
        rw [g1] at e0
        injection e0 with e01
        subst e01
        exact ⟨[], fun P w' => by simp [Builtin.lenOf], fun P w' _ => by simp [Builtin.firstCells], trivial, by simp⟩
      · rw [g1] at e0
        injection e0 with e01 e02 e03
        subst e01; subst e02; subst e03
        have hfl : (rows.take k).flatten = rows.flatten.take (k * sz) := (flatten_take sz rows k hu hkl).symm
        have hts := g7.take (k * sz)
        rw [← hfl] at hts
        refine ⟨_, fun P w' => by simp [Builtin.lenOf, hkk], fun P w' he => ?_, hts, hut⟩
        rw [hkk]
        refine run_firstCells_some w' sz k ⟨b, 0, none⟩ k cap _ ?_ fun j v hv => ?_
        · rw [hts.length, flatten_length sz _ hut, hkk]
        · rw [List.getElem?_take] at hv
          split at hv
          · rw [World.cell?_of_block (w := w) (by rw [he])]; exact g8 j v hv
          · cases hv
    · exact h.elim
  · exact h.elim
theorem Conc.append (h : Conc N B M w0 ρ s a w) {T U e : TypeId} {d : Nat} {te : TI} {i ie : TypeInfo} {de du : TypeDesc} (hu : P.underlying T = some (.slice e)) (fite : te.Fit P e ie de) (huU : P.underlying U = some du) (hk : dKind du = none)
    (hd : d < N) (hU : ¬ s.U d) (rm : List Id) (rows news : List (List Tr)) (fr fr' : Bool) (ty : TypeId) (sv x : Value) (hun : ∀ r ∈ news, r.length = te.size) (hur : ∀ r ∈ rows, r.length = te.size)
    (hs : (sv = .slice none 0 0 ∧ rows = []) ∨ ∃ b cap cur e' fz, sv = .slice (some ⟨b, 0, none⟩) rows.length cap ∧ w.heap[b]? = some (.cells cur e' fz) ∧ unfrozen cur.size fz ∧ rows.length ≤ cap ∧ cap ≤ maxLen ∧ cur.size = cap * te.size ∧
      RTs w (okF B (okB ρ s.H w) fr) (cur.toList.take (rows.length * te.size)) rows.flatten ∧ (fr = true → B ≤ b) ∧ ∃ o x', o ∈ rm ∧ s.H o = some x' ∧ Own ρ o b)
    (nv : List Value) (hl : ∀ w', (Builtin.lenOf x).run P w' = .ok news.length w') (hf : ∀ w', w'.heap = w.heap → (Builtin.firstCells te.size news.length x).run P w' = .ok nv.toArray w') (hn : RTs w (okF B (okB ρ s.H w) fr') nv news.flatten)
    (hfit : fits (rows.length + news.length) te.bytes) (R : List Id) :
    ∃ v w' ρ', (Builtin.append_ #[T, U] ty #[sv, x]).run P w = .ok v w' ∧ Conc N B M w0 ρ' (s.app (some d) ⟨.r (.c (.own (d, 0, 0))), rm.map (fun r => (r, none)) ++ [((d, 0, 0), some (.arr (fr && fr') te.size (rows ++ news)))], some d, R⟩) (a.put (some d) v) w' := by
  obtain ⟨z, hz, hm⟩ := fite.zero
  have hzs : z.cells.size = te.size := by
    have h1 := (zMatches_ok (B := B) (ρ := ⟨fun _ => default, fun _ _ => False, fun _ => True⟩) (w := w) (ok := fun _ => True) hm).length
    rw [fite.zlen] at h1
    simpa using h1
  have huu : ∀ r ∈ rows ++ news, r.length = te.size := fun r hr => (List.mem_append.1 hr).elim (hur r) (hun r)
  have hnl : nv.length = news.length * te.size := by rw [hn.length, flatten_length te.size news hun]
  have hrl : rows.flatten.length = rows.length * te.size := flatten_length te.size rows hur
  have hmax : rows.length + news.length ≤ maxLen := by have := hfit.2; unfold maxLen; omega
  have hfl : (rows ++ news).flatten = rows.flatten ++ news.flatten := by simp
  have wk1 : ∀ {vs : List Value} {ts : List Tr}, RTs w (okF B (okB ρ s.H w) fr) vs ts → RTs w (okF B (okB ρ s.H w) (fr && fr')) vs ts := fun h => h.keep (okF_weak fun e => by simp at e; exact e.1)
  have wk2 : ∀ {vs : List Value} {ts : List Tr}, RTs w (okF B (okB ρ s.H w) fr') vs ts → RTs w (okF B (okB ρ s.H w) (fr && fr')) vs ts := fun h => h.keep (okF_weak fun e => by simp at e; exact e.2)
  have grow : ∀ (A : Option Addr) (sCap : Nat) (olds : List Value), sCap < rows.length + news.length → olds.length = rows.length * te.size → RTs w (okF B (okB ρ s.H w) fr) olds rows.flatten →
      (Builtin.firstCells te.size rows.length (.slice A rows.length sCap)).run P w.drew = .ok olds.toArray w.drew → sv = .slice A rows.length sCap →
      ∃ v w' ρ', (Builtin.append_ #[T, U] ty #[sv, x]).run P w = .ok v w' ∧ Conc N B M w0 ρ' (s.app (some d) ⟨.r (.c (.own (d, 0, 0))), rm.map (fun r => (r, none)) ++ [((d, 0, 0), some (.arr (fr && fr') te.size (rows ++ news)))], some d, R⟩) (a.put (some d) v) w' := by
    intro A sCap olds hlt hol hor hfo hsv
    subst hsv
    have hrun := run_append_new (w := w) (ty := ty) hu huU hk fite.info hz x A rows.length sCap news.length olds nv hl (by rw [fite.size]; exact hf _ rfl) (by rw [fite.size]; exact hfo) hlt hfit.2 (by rw [fite.bytes]; exact hfit.1)
    have hge := grownCap_ge w (rows.length + news.length) sCap e
    have hle := grownCap_le_maxLen w (rows.length + news.length) sCap e hmax
    generalize grownCap w (rows.length + news.length) sCap e = gc at hrun hge hle
    have hrr : RTs w (okF B (okB ρ s.H w) (fr && fr')) (olds ++ nv) (rows.flatten ++ news.flatten) := (wk1 hor).append (wk2 hn)
    obtain ⟨ρ', h'⟩ := h.newArr hd hU rm (w' := w.drew.alloc (.cells (olds.toArray ++ nv.toArray ++ Builtin.zeroCells z.cells (gc - (rows.length + news.length))) e)) ((Turn.drew _ w).trans (Turn.alloc _ _ _)) (b := w.heap.size) (cap := gc) (sz := te.size)
      (us := olds.toArray ++ nv.toArray ++ Builtin.zeroCells z.cells (gc - (rows.length + news.length))) (e := e) (fz := (0, 0)) (rows := rows ++ news) (fr := fr && fr') (Nat.le_refl _) (heap_alloc_new w.drew _) (unfrozen_zero _) huu (by simp; omega) hle
      (by simp only [Array.size_append, List.size_toArray, size_zeroCells, hzs, hol, hnl]; rw [← Nat.add_mul, ← Nat.add_mul]; congr 1; omega)
      (fun ok' hok _ => by
        rw [hfl, List.length_append, Nat.add_mul, ← hol, ← hnl, ← List.length_append]
        simp only [Array.toList_append, List.append_assoc]
        rw [← List.append_assoc, List.take_left]
        exact hrr.keep fun c hc' => ⟨rfl, hok c hc'.1, hc'.2⟩) R
    exact ⟨_, _, ρ', hrun, by simpa using h'⟩
  rcases hs with ⟨rfl, rfl⟩ | ⟨b, cap, cur, e', fz, rfl, hb, hfz, hle, hcm, hcs, hrt, hfB, hob⟩
  · by_cases h0 : news = []
    · subst h0
      refine ⟨.slice none 0 0, w, ?_⟩
      have hnv : nv = [] := List.eq_nil_of_length_eq_zero (by simpa using hnl)
      subst hnv
      have hrun : (Builtin.append_ #[T, U] ty #[.slice none 0 0, x]).run P w = .ok (.slice none 0 0) w := by
        unfold Builtin.append_
        simp only [List.getElem?_toArray, List.getElem?_cons_zero, List.getElem?_cons_succ, Sem.run_bind, run_underlying hu, run_underlying huU, Result.andThen_ok, run_sizeOf fite.info, Sem.run_pure]
        have hf' := hf w rfl
        cases du
        case int => simp [dKind] at hk
        all_goals simp [hl, fite.size] at hf' ⊢; simp [hf']
      obtain ⟨ρ', h'⟩ := h.make hd hU (D := fun _ => False) rm (Turn.refl _ w) (v := .slice none 0 0) (vv := .slice none 0 0) (x := .arr (fr && fr') te.size []) (av := .r (.c (.own (d, 0, 0)))) (R := R) (fun _ => False) (fun _ h => h.elim) (fun b hb => by cases hb) (fun _ h => h.elim) (fun id hid => by simp [AO.ids] at hid)
        (fun id hid => by simp [AV.ids, AR.ids, AC.ids] at hid; left; rw [hid]) (fun ρ' ok' hk _ hρ hq _ => ⟨⟨by simp, .inl ⟨hq, rfl⟩⟩, ⟨_, _, _, hq⟩, hq.symm⟩)
      exact ⟨ρ', hrun, by simpa using h'⟩
    · exact grow none 0 [] (by simp; exact List.length_pos_iff.2 h0) (by simp) trivial (by simp [Builtin.firstCells]) rfl
  · by_cases hroom : rows.length + news.length ≤ cap
    · have hrun := run_append_in (w := w) (ty := ty) hu huU hk fite.info x b rows.length cap news.length nv hl (by rw [fite.size]; exact hf w rfl) hroom hb hfz (by rw [fite.size, hnl, hcs, ← Nat.add_mul]; exact Nat.mul_le_mul_right _ hroom) hn.one
      obtain ⟨cur', g1, g2, g3⟩ := setCells_heap b e' fz nv (rows.length * ie.size) w cur hb (by rw [fite.size, hnl, hcs, ← Nat.add_mul]; exact Nat.mul_le_mul_right _ hroom)
      rw [fite.size] at g1 g3 hrun
      obtain ⟨ρ', h'⟩ := h.make hd hU (D := fun k => k = b) rm (setCells_turn b nv (rows.length * te.size) w) (v := .slice (some ⟨b, 0, none⟩) (rows.length + news.length) cap) (vv := .slice (some ⟨b, 0, none⟩) (rows.length + news.length) cap) (x := .arr (fr && fr') te.size (rows ++ news)) (av := .r (.c (.own (d, 0, 0)))) (R := R) (fun _ => False)
        (fun b' hb' => by subst hb'; exact hob) (fun b' hb' => by
          injection hb' with hb'; subst hb'
          exact ⟨(Array.getElem?_eq_some_iff.1 g1).1, .inr hob⟩) (fun _ h => h.elim) (fun id hid => by simp [AO.ids] at hid)
        (fun id hid => by simp [AV.ids, AR.ids, AC.ids] at hid; left; rw [hid]) (fun ρ' ok' hk _ hρ hq _ => by
          refine ⟨⟨huu, .inr ⟨b, cap, cur', e', fz, by rw [hq]; simp, g1, by rw [g2]; exact hfz, by simp; omega, hcm, by rw [g2, hcs], ?_, fun e => hfB (by simp at e; exact e.1)⟩⟩, ⟨_, _, _, hq⟩, hq.symm⟩
          have hlen : (cur.toList.take (rows.length * te.size)).length = rows.length * te.size := by rw [hrt.length, hrl]
          rw [g3, hfl, List.length_append, Nat.add_mul, List.append_assoc, ← List.append_assoc, ← hnl]
          have e0 : rows.length * te.size + nv.length = (cur.toList.take (rows.length * te.size) ++ nv).length := by rw [List.length_append, hlen]
          rw [e0, List.take_left]
          exact ((wk1 hrt).append (wk2 hn)).keep (okF_keep hk))
      exact ⟨_, _, ρ', hrun, h'⟩
    · refine grow (some ⟨b, 0, none⟩) cap (cur.toList.take (rows.length * te.size)) (by omega) (by rw [hrt.length, hrl]) hrt ?_ rfl
      refine run_firstCells_some w.drew te.size rows.length ⟨b, 0, none⟩ rows.length cap _ (by rw [hrt.length, hrl]) fun j v hv => ?_
      rw [add_head, World.cell?_drew, cell_of_row w b j cur e' fz hb]
      rw [List.getElem?_take] at hv
      split at hv
      · simpa using hv
      · cases hv
end
end Go.Sim
