/- Stores and calls. -/
import Derived.Test.YtmjomfgmnkghjaaSimH
namespace Go.Sim
open Go.RowKit

section
variable {P : Program} {Γ : Env} {N B : Nat} {M : Nat → Prop} {w0 : World} {ρ : Id → Value} {s : FS} {a : Act} {w : World} {o : Oper} {ev : Operand → AV} {H : Id → Option AO} {K : Eff → Prop} {KV : AV → Prop}

theorem Conc.upd (h : Conc N B M w0 ρ s a w) {q : Id} {x x' : AO} (hq : s.H q = some x) {b : Nat} (hb : blk (ρ q) = some b) (rm : List Id) (hqr : q ∉ rm) {w' : World} (hT : Turn (fun k => k = b) w w') (hxi : ∀ id ∈ x'.ids, s.U id.1)
    (hobj : ∀ ok' : Nat → Prop, (∀ c, okB ρ s.H w c → w'.heap[c]? = w.heap[c]? ∧ ok' c) → (∀ o x c, o ∈ rm → s.H o = some x → blk (ρ o) = some c → w'.heap[c]? = w.heap[c]? ∧ ok' c) → RO B ρ w' ok' q x') {dst : Option Nat} (hd : ∀ d, dst = some d → d < N) (vv : Value) (R : List Id) :
    Conc N B M w0 ρ (s.app dst ⟨.unk, rm.map (fun r => (r, none)) ++ [(q, some x')], false, R⟩) (a.put dst vv) w' := by
  have hr := h.rng q x b hq hb
  have hHe := updH_rm rm s.H q (some x')
  have hkr : ∀ o x1 c, o ∈ rm → s.H o = some x1 → blk (ρ o) = some c → w'.heap[c]? = w.heap[c]? ∧ okB ρ (updH s.H (rm.map (fun r => (r, none)) ++ [(q, some x')])) w' c := by
    intro o x1 c h1 h2 h3
    have hlt := (h.rng o x1 c h2 h3).1
    have hne : c ≠ b := fun e => by subst e; exact h.sep o q x1 x c h2 hq (fun e => hqr (e ▸ h1)) h3 hb
    refine ⟨hT.block c hlt hne, Nat.lt_of_lt_of_le hlt hT.size, fun o1 x2 h5 h6 => ?_⟩
    rw [hHe] at h5
    by_cases e : o1 = q
    · subst e; rw [hb] at h6; injection h6 with h6; exact hne h6.symm
    · simp only [if_neg e] at h5
      by_cases e2 : o1 ∈ rm
      · simp [e2] at h5
      · simp only [if_neg e2] at h5
        exact h.sep o o1 x1 x2 c h2 h5 (fun e3 => e2 (e3 ▸ h1)) h3 h6
  have := h.step (fun k => k = b) (q :: rm) (w' := w') (ρ' := ρ) (H' := updH s.H (rm.map (fun r => (r, none)) ++ [(q, some x')])) (U' := s.U) (a' := a.put dst vv) (L' := putL s.L dst .unk) hT (by rw [put_size]; exact h.size) (by rw [put_defers]; exact h.defers)
    (fun _ _ => rfl) (fun o ho => by
      rw [hHe]
      simp only [List.mem_cons, not_or] at ho
      simp only [if_neg ho.1, if_neg ho.2]) (fun _ h => h)
    (fun c hc e => by subst e; exact hc.2 q x hq hb)
    (fun o x1 c h1 h2 h3 e => by subst e; exact h.sep o q x1 x c h1 hq (fun e => h2 (by simp [e])) h3 hb)
    (fun c hc hM e => by
      subst e
      rcases hr.2 with g | g
      · omega
      · exact hM g)
    (fun o x1 c h1 h2 h3 => by
      rw [hHe] at h2
      by_cases e : o = q
      · subst e
        rw [hb] at h3; injection h3 with h3; subst h3
        exact ⟨Nat.lt_of_lt_of_le hr.1 hT.size, hr.2, .inr ⟨o, x, hq, by simp, hb⟩⟩
      · simp only [List.mem_cons, e, false_or] at h1
        simp only [if_neg e, if_pos h1] at h2
        cases h2)
    (fun o o' x1 x2 c h1 h2 h3 h4 hne => by
      rw [hHe] at h3 h4
      exfalso
      by_cases e : o = q
      · have e' : o' ≠ q := fun e2 => hne (e.trans e2.symm)
        simp only [List.mem_cons, e', false_or] at h2
        simp only [if_neg e', if_pos h2] at h4
        cases h4
      · simp only [List.mem_cons, e, false_or] at h1
        simp only [if_neg e, if_pos h1] at h3
        cases h3)
    (fun hk o x1 h1 h2 => by
      rw [hHe] at h2
      by_cases e : o = q
      · subst e
        simp only [if_true, Option.some.injEq] at h2
        subst h2
        exact ⟨hobj _ hk hkr, (h.usedH o x hq).1, hxi⟩
      · simp only [List.mem_cons, e, false_or] at h1
        simp only [if_neg e, if_pos h1] at h2
        cases h2)
    (fun hk t => h.slots hd (av := .unk) trivial (by simp [AV.ids]) t)
  exact this.congr (fun _ => rfl) (fun _ => rfl) (fun n => by simp [FS.app])

theorem run_storeAt {T : TypeId} {ti : TI} {i : TypeInfo} {d : TypeDesc} (fit : ti.Fit P T i d) (b off : Nat) (v : Value) (hl : v.cells.size = ti.size) {cur : Array Value} {e : TypeId} {fz : Nat × Nat} (hb : w.heap[b]? = some (.cells cur e fz)) (hz : unfrozen cur.size fz)
    (hfit : off + ti.size ≤ cur.size) (h1 : ∀ u ∈ v.cells.toList, u.oneCell' = true) : (Instr.storeAt T (.pointer (some ⟨b, off, none⟩)) v).run P w = .ok () (w.setCells b off v.cells.toList) := by
  have hll : v.cells.toList.length = ti.size := by simpa using hl
  have hst := run_storeCells_cells (P := P) b off v.cells.toList 0 w (fun j hj => by
      rw [cell_of_row w b _ cur e fz hb]
      simp only [Nat.add_zero]
      rw [Array.getElem?_eq_getElem (by omega)]; rfl) (fun j hj => by
      simp only [World.frozen?, hb, Nat.add_zero]
      have := hz (off + j) (by omega)
      simp only [Bool.and_eq_false_iff, decide_eq_false_iff_not, Nat.not_le, Nat.not_lt]
      omega) h1
  simp only [Nat.add_zero] at hst
  simp [Instr.storeAt, Instr.sureAddr, storeVar, run_sizeOf fit.info, fit.size, hl, hst]

theorem lay_ids {U : Nat → Prop} {off : Nat} {xs l l' : List AC} (h : lay off xs l = some l') (h1 : ∀ id ∈ xs.flatMap AC.ids, U id.1) (h2 : ∀ id ∈ l.flatMap AC.ids, U id.1) : ∀ id ∈ l'.flatMap AC.ids, U id.1 := by
  obtain ⟨_, rfl⟩ := lay_spec h
  intro id hid
  simp only [List.flatMap_append, List.mem_append] at hid
  rcases hid with (hid | hid) | hid
  · obtain ⟨c, c1, c2⟩ := List.mem_flatMap.1 hid
    exact h2 id (List.mem_flatMap.2 ⟨c, List.mem_of_mem_take c1, c2⟩)
  · exact h1 id hid
  · obtain ⟨c, c1, c2⟩ := List.mem_flatMap.1 hid
    exact h2 id (List.mem_flatMap.2 ⟨c, List.mem_of_mem_drop c1, c2⟩)

theorem ar_ids {ar : AR} : ∀ id ∈ ar.cells.flatMap AC.ids, id ∈ (AV.r ar).ids := by
  intro id hid
  cases ar with
  | c x => simpa [AR.cells, AV.ids, AR.ids] using hid
  | agg xs => exact hid

theorem sound_store {T : TypeId} {x y : Operand} {ti : TI} (hΓ : Γ.chk P = true) (hT : Γ.get T = some ti) (ho : o.op = .store T x y) (h : semStore ti (ev x) (ev y) H K) : ∃ e, K e ∧ Good P o ev H e := by
  obtain ⟨i, d, fit⟩ := Env.fit hΓ hT
  have hopx : x ∈ o.op.operands.toList := by simp [ho, Op.operands]
  have hopy : y ∈ o.op.operands.toList := by simp [ho, Op.operands]
  unfold semStore at h
  split at h
  · rename_i ar hy
    split at h
    · rename_i hlen
      have hlen : ar.cells.length = ti.size := by simpa using hlen
      split at h
      · rename_i q off hx
        split at h
        · rename_i cells hq
          split at h
          · rename_i cells' hlay
            refine ⟨_, h, ?_⟩
            intro N B M w0 ρ s a w Q K hc hop hR hnew hd hK
            have hq' : s.H q = some (.box cells) := by rw [hR q (by simp)]; exact hq
            obtain ⟨b, us, t, fz, g1, g2, g3, g4, g5⟩ := hc.box hq'
            have hvx := (hc.eval x).1
            rw [hop x hopx, hx] at hvx
            obtain ⟨b', e1, e2⟩ := hvx
            rw [g1] at e1
            injection e1 with e1; injection e1 with e1; injection e1 with e1
            subst e1
            have hvy := hc.eval y
            rw [hop y hopy, hy] at hvy
            have hcy := RR.cells hvy.1
            have hcl : (a.eval y).cells.size = ti.size := by rw [← hlen, ← hcy.length]; simp
            obtain ⟨l1, l2⟩ := lay_spec hlay
            have hul : us.size = cells.length := by have := g4.length; simpa using this
            have hrun := run_storeAt (w := w) fit b off (a.eval y) hcl g2 g3 (by omega) hcy.one
            obtain ⟨cur', c1, c2, c3⟩ := setCells_heap b t fz (a.eval y).cells.toList off w us g2 (by simp [hcl]; omega)
            have := hc.upd hq' (x' := .box cells') (b := b) (by rw [g1]; rfl) [] (by simp) (setCells_turn b _ off w) (lay_ids hlay (fun id hid => hvy.2 id (ar_ids id hid)) (hc.usedH q _ hq').2) (fun ok' hk _ => by
              refine ⟨b, cur', t, fz, g1, c1, by rw [c2]; exact g3, ?_⟩
              rw [c3, l2]
              have hcyl : (a.eval y).cells.toList.length = ar.cells.length := hcy.length
              rw [hcyl]
              exact (((g4.take off).append hcy).append (g4.drop _)).keep hk fun _ _ => rfl) hd undef [q]
            have hexec : (execOp a.eval o).run P w = .ok .skip (w.setCells b off (a.eval y).cells.toList) := by
              simp only [execOp, ho, e2, Sem.run_bind, hrun, Result.andThen_ok, Sem.run_pure]
            unfold Oper.wp
            rw [hexec]
            exact hK _ _ ρ this
          · exact h.elim
        · exact h.elim
      · rename_i q sz' i' off hx
        split at h
        · rename_i fr sz rows ts fr' ids hq hts
          obtain ⟨rfl, hqi, row, hrow, h⟩ := h
          split at h
          · rename_i row' hlay
            refine ⟨_, h, ?_⟩
            intro N B M w0 ρ s a w Q K hc hop hR hnew hd hK
            have hq' : s.H q = some (.arr fr sz rows) := by rw [hR q (by simp)]; exact hq
            obtain ⟨hu, g⟩ := hc.arr hq'
            have hvx := (hc.eval x).1
            rw [hop x hopx, hx] at hvx
            obtain ⟨b', n, c, e1, e2, e3⟩ := hvx
            have hvy := hc.eval y
            rw [hop y hopy, hy] at hvy
            have hcy := RR.cells hvy.1
            have hty : ∀ ok' : Nat → Prop, (∀ c, okB ρ s.H w c → ok' c) → (∀ o x c, o ∈ ids → s.H o = some x → blk (ρ o) = some c → ok' c) → RTs w (okF B ok' fr') (a.eval y).cells.toList ts :=
              fun ok' hok hb => frz_ok hc hok hts (fun o ho => hR o (by simp [ho])) hcy hb
            have htl : ts.length = ti.size := by rw [← (hty (fun _ => True) (fun _ _ => trivial) (fun _ _ _ _ _ _ => trivial)).length, hcy.length, hlen]
            have hcl : (a.eval y).cells.size = ti.size := by rw [← hlen, ← hcy.length]; simp
            obtain ⟨l1, l2⟩ := lay_spec hlay
            have hrl : row.length = sz := hu row (List.mem_of_getElem? hrow)
            have hil : i' < rows.length := by
              rcases Nat.lt_or_ge i' rows.length with h' | h'
              · exact h'
              · rw [List.getElem?_eq_none h'] at hrow; cases hrow
            rcases g with ⟨g1, g2⟩ | ⟨b, cap, cur, e, fz, g1, g2, g3, g4, g5, g6, g7, g8, g9⟩
            · subst g2; simp at hil
            · rw [g1] at e1
              injection e1 with e1 e1' e1''; injection e1 with e1; injection e1 with e1
              subst e1
              have hmul : (i' + 1) * sz ≤ cap * sz := Nat.mul_le_mul_right _ (by omega)
              have hmul2 : (i' + 1) * sz = i' * sz + sz := by rw [Nat.add_mul]; omega
              have hrun := run_storeAt (w := w) fit b (i' * sz + off) (a.eval y) hcl g2 g3 (by omega) hcy.one
              obtain ⟨cur', c1, c2, c3⟩ := setCells_heap b e fz (a.eval y).cells.toList (i' * sz + off) w cur g2 (by simp [hcl]; omega)
              have hrow'l : row'.length = sz := by rw [l2]; simp; omega
              have hyl : (a.eval y).cells.toList.length = ts.length := (hty (fun _ => True) (fun _ _ => trivial) (fun _ _ _ _ _ _ => trivial)).length
              -- the rows behind the store
              have hflat : (rows.set i' row').flatten = rows.flatten.take (i' * sz + off) ++ ts ++ rows.flatten.drop (i' * sz + off + ts.length) := by
                have hsplit : ∀ (rows : List (List Tr)) (i : Nat), (∀ r ∈ rows, r.length = sz) → rows[i]? = some row → (rows.set i row').flatten = rows.flatten.take (i * sz + off) ++ ts ++ rows.flatten.drop (i * sz + off + ts.length) := by
                  intro rows
                  induction rows with
                  | nil => intro i _ h; simp at h
                  | cons r rows ih =>
                    intro i hu h
                    have hr := hu r (by simp)
                    cases i with
                    | zero =>
                      simp at h; subst h
                      simp only [List.set_cons_zero, List.flatten_cons, Nat.zero_mul, Nat.zero_add]
                      rw [List.take_append_of_le_length (by omega), l2]
                      rw [List.drop_append_of_le_length (by omega)]
                      simp
                    | succ i =>
                      simp only [List.set_cons_succ, List.flatten_cons]
                      rw [ih i (fun r hr => hu r (by simp [hr])) (by simpa using h)]
                      have e1 : (i + 1) * sz + off = r.length + (i * sz + off) := by rw [Nat.add_mul, hr]; omega
                      rw [e1, List.take_length_add_append, Nat.add_assoc r.length, List.drop_length_add_append]
                      simp
                exact hsplit rows i' hu hrow
              have hrfl := flatten_length sz rows hu
              have hle2 : (i' + 1) * sz ≤ rows.length * sz := Nat.mul_le_mul_right _ hil
              have := hc.upd hq' (x' := .arr (fr && fr') sz (rows.set i' row')) (b := b) (by rw [g1]; rfl) ids hqi (setCells_turn b _ (i' * sz + off) w) (by simp [AO.ids]) (fun ok' hk hkr => by
                refine ⟨fun r hr => ?_, .inr ⟨b, cap, cur', e, fz, by rw [g1, List.length_set], c1, by rw [c2]; exact g3, by rw [List.length_set]; exact g4, g5, by rw [c2]; exact g6, ?_, fun e => g9 (by simp at e; exact e.1)⟩⟩
                · rcases List.mem_or_eq_of_mem_set hr with h' | h'
                  · exact hu r h'
                  · rw [h']; exact hrow'l
                · rw [List.length_set, hflat, c3, hyl]
                  have e1 : (cur.toList.take (i' * sz + off) ++ (a.eval y).cells.toList ++ cur.toList.drop (i' * sz + off + ts.length)).take (rows.length * sz) =
                      (cur.toList.take (rows.length * sz)).take (i' * sz + off) ++ (a.eval y).cells.toList ++ (cur.toList.take (rows.length * sz)).drop (i' * sz + off + ts.length) := by
                    rw [List.take_take, Nat.min_eq_left (by omega)]
                    have hl1 : (cur.toList.take (i' * sz + off) ++ (a.eval y).cells.toList).length = i' * sz + off + ts.length := by
                      rw [List.length_append, hyl, List.length_take]; simp; omega
                    rw [List.take_append, List.take_of_length_le (by rw [hl1]; omega), hl1]
                    congr 1
                    rw [List.drop_take]
                  rw [e1]
                  have hold : ∀ c, okB ρ s.H w c ∨ (∃ o x, o ∈ ids ∧ s.H o = some x ∧ blk (ρ o) = some c) → (w.setCells b (i' * sz + off) (a.eval y).cells.toList).heap[c]? = w.heap[c]? ∧ ok' c := by
                    rintro c (hc' | ⟨o, x, k1, k2, k3⟩)
                    · exact hk c hc'
                    · exact hkr o x c k1 k2 k3
                  have ht1 := (hty (fun c => okB ρ s.H w c ∨ (∃ o x, o ∈ ids ∧ s.H o = some x ∧ blk (ρ o) = some c)) (fun c h => .inl h) (fun o x c k1 k2 k3 => .inr ⟨o, x, k1, k2, k3⟩)).keep (okF_keep (B := B) hold)
                  have ht2 := ht1.keep (okF_weak (B := B) (ok := ok') (w := w.setCells b (i' * sz + off) (a.eval y).cells.toList) (fr' := fr && fr') fun e => by simp at e; exact e.2)
                  have h71 := (g7.keep (okF_keep (B := B) hk)).keep (okF_weak (B := B) (ok := ok') (w := w.setCells b (i' * sz + off) (a.eval y).cells.toList) (fr' := fr && fr') fun e => by simp at e; exact e.1)
                  exact ((h71.take _).append ht2).append (h71.drop _)) hd undef (q :: ids)
              have hexec : (execOp a.eval o).run P w = .ok .skip (w.setCells b (i' * sz + off) (a.eval y).cells.toList) := by
                simp only [execOp, ho, e3, Sem.run_bind, hrun, Result.andThen_ok, Sem.run_pure]
              unfold Oper.wp
              rw [hexec]
              exact hK _ _ ρ this
          · exact h.elim
        · exact h.elim
      · exact h.elim
    · exact h.elim
  · exact h.elim
end
end Go.Sim
