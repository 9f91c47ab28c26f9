/- Stores and calls. -/
import Derived.Test.YtehniaekfijmiaaSimR
namespace Go.Sim
open Go.RowKit
section
variable {P : Program} {Γ : Env} {N B : Nat} {M : Nat → Prop} {w0 : Start} {ρ : Rho} {s : F_} {a : Act} {w : World} {o : Oper} {ev : Operand → AV} {H : Id → Option AO} {K : Eff → Prop} {KV : AV → Prop}
theorem Conc.upd (h : Conc N B M w0 ρ s a w) {q : Id} {x x' : AO} (hq : s.H q = some x) {b : Nat} (hb : blk (ρ q) = some b) (rm : List Id) (hqr : q ∉ rm) (F : Nat → Prop) (hF : ∀ c, F c → ∃ o x, o ∈ rm ∧ s.H o = some x ∧ Own ρ o c) {w' : World} (hT : Turn (fun k => k = b) w w') (hxi : ∀ id ∈ x'.ids, s.U id.1)
    (hobj : ∀ (ρ' : Rho) (ok' : Nat → Prop), (∀ o, ρ' o = ρ o) → (∀ c, ρ.fp q c ∨ F c → ρ'.fp q c) → (∀ c, okB ρ s.H w c → w'.heap[c]? = w.heap[c]? ∧ ok' c) → (∀ o x c, o ∈ rm → s.H o = some x → Own ρ o c → ¬ F c → w'.heap[c]? = w.heap[c]? ∧ ok' c) →
      (∀ c, F c → w'.heap[c]? = w.heap[c]? ∧ c ≠ b) → (∀ c, ρ.fp q c → c ≠ b → w'.heap[c]? = w.heap[c]?) → RO B ρ' w' ok' q x') {dst : Option Nat} (hd : ∀ d, dst = some d → d < N) (vv : Value) (R : List Id) :
    ∃ ρ', Conc N B M w0 ρ' (s.app dst ⟨.unk, rm.map (fun r => (r, none)) ++ [(q, some x')], none, R⟩) (a.put dst vv) w' := by
  let ρ' : Rho := ⟨ρ.val, fun o c => ρ.fp o c ∨ (o = q ∧ F c), ρ.al⟩
  have hown : ∀ o c, Own ρ' o c ↔ (Own ρ o c ∨ (o = q ∧ F c)) := fun o c => by
    show (blk (ρ o) = some c ∨ (ρ.fp o c ∨ (o = q ∧ F c))) ↔ _
    unfold Own; rw [or_assoc]
  have hob : Own ρ q b := .inl hb
  have hr := h.rng q x b hq hob
  have hHe := updH_rm rm s.H q (some x')
  have hFb : ∀ c, F c → c ≠ b := fun c hc e => by
    obtain ⟨o, x1, g1, g2, g3⟩ := hF c hc
    subst e; exact h.sep o q x1 x c g2 hq (fun e => hqr (e ▸ g1)) g3 hob
  have hkr : ∀ o x1 c, o ∈ rm → s.H o = some x1 → Own ρ o c → ¬ F c → w'.heap[c]? = w.heap[c]? ∧ okB ρ' (updH s.H (rm.map (fun r => (r, none)) ++ [(q, some x')])) w' c := by
    intro o x1 c h1 h2 h3 hnF
    have hlt := (h.rng o x1 c h2 h3).1
    have hne : c ≠ b := fun e => by subst e; exact h.sep o q x1 x c h2 hq (fun e => hqr (e ▸ h1)) h3 hob
    refine ⟨hT.block c hlt hne, ⟨Nat.lt_of_lt_of_le hlt hT.size, h.alw c (h.rng o x1 c h2 h3).2⟩, fun o1 x2 h5 h6 => ?_⟩
    rw [hHe] at h5
    rw [hown] at h6
    rcases h6 with h6 | ⟨_, h6⟩
    · by_cases e : o1 = q
      · subst e; exact h.sep o o1 x1 x c h2 hq (fun e3 => hqr (e3 ▸ h1)) h3 h6
      · simp only [if_neg e] at h5
        by_cases e2 : o1 ∈ rm
        · simp [e2] at h5
        · simp only [if_neg e2] at h5
          exact h.sep o o1 x1 x2 c h2 h5 (fun e3 => e2 (e3 ▸ h1)) h3 h6
    · exact hnF h6
  refine ⟨ρ', ?_⟩
  have := h.step (fun k => k = b) (q :: rm) (w' := w') (ρ' := ρ') (H' := updH s.H (rm.map (fun r => (r, none)) ++ [(q, some x')])) (U' := s.U) (a' := a.put dst vv) (L' := putL s.L dst .unk) hT (by rw [put_size]; exact h.size) (by rw [put_defers]; exact h.defers)
    (fun _ _ => rfl) (fun o x1 ho _ => by
      funext c
      have : o ≠ q := fun e => ho (by simp [e])
      exact propext ⟨fun hc => hc.elim id fun hc => absurd hc.1 this, .inl⟩) rfl (fun o ho => by
      rw [hHe]
      simp only [List.mem_cons, not_or] at ho
      simp only [if_neg ho.1, if_neg ho.2]) (fun _ h => h)
    (fun c hc e => by subst e; exact hc.2 q x hq hob)
    (fun o x1 c h1 h2 h3 e => by subst e; exact h.sep o q x1 x c h1 hq (fun e => h2 (by simp [e])) h3 hob)
    (fun c hc hM e => by
      subst e
      rcases hr.2 with g | g
      · omega
      · exact hM g)
    (fun o x1 c h1 h2 h3 => by
      rw [hHe] at h2
      by_cases e : o = q
      · subst e
        rw [hown] at h3
        rcases h3 with h3 | ⟨_, h3⟩
        · have := h.rng o x c hq h3
          exact ⟨Nat.lt_of_lt_of_le this.1 hT.size, this.2, .inr ⟨o, x, hq, by simp, h3⟩⟩
        · obtain ⟨o', x2, g1, g2, g3⟩ := hF c h3
          have := h.rng o' x2 c g2 g3
          exact ⟨Nat.lt_of_lt_of_le this.1 hT.size, this.2, .inr ⟨o', x2, g2, by simp [g1], g3⟩⟩
      · simp only [List.mem_cons, e, false_or] at h1
        simp only [if_neg e, if_pos h1] at h2
        cases h2)
    (fun o o' x1 x2 c h1 h2 h3 h4 hne => by
      rw [hHe] at h3 h4
      exfalso
      by_cases e : o = q
      · have e' : o' ≠ q := fun e2 => hne (e.trans e2.symm)
        simp only [List.mem_cons, e', false_or] at h2
        simp only [if_neg e', if_pos h2] at h4
        cases h4
      · simp only [List.mem_cons, e, false_or] at h1
        simp only [if_neg e, if_pos h1] at h3
        cases h3)
    (fun hk o x1 h1 h2 => by
      rw [hHe] at h2
      by_cases e : o = q
      · subst e
        simp only [if_true, Option.some.injEq] at h2
        subst h2
        refine ⟨hobj ρ' _ (fun _ => rfl) (fun c hc => hc.elim .inl fun hc => .inr ⟨rfl, hc⟩) hk hkr (fun c hc => ?_) (fun c hc hne => hT.block c (h.rng o x c hq (.inr hc)).1 hne), (h.usedH o x hq).1, hxi⟩
        obtain ⟨o', x2, g1, g2, g3⟩ := hF c hc
        exact ⟨hT.block c (h.rng o' x2 c g2 g3).1 (hFb c hc), hFb c hc⟩
      · simp only [List.mem_cons, e, false_or] at h1
        simp only [if_neg e, if_pos h1] at h2
        cases h2)
    (fun hk t => h.slots hd (av := .unk) trivial (by simp [AV.ids]) t)
  exact this.congr (fun _ => rfl) (fun _ => rfl) (fun n => by simp [F_.app])
theorem run_storeAt {T : TypeId} {ti : TI} {i : TypeInfo} {d : TypeDesc} (fit : ti.Fit P T i d) (b off : Nat) (v : Value) (hl : v.cells.size = ti.size) {cur : Array Value} {e : TypeId} {fz : Nat × Nat} (hb : w.heap[b]? = some (.cells cur e fz)) (hz : unfrozen cur.size fz)
    (hfit : off + ti.size ≤ cur.size) (h1 : ∀ u ∈ v.cells.toList, u.oneCell' = true) : (Instr.storeAt T (.pointer (some ⟨b, off, none⟩)) v).run P w = .ok () (w.setCells b off v.cells.toList) := by
  have hll : v.cells.toList.length = ti.size := by simpa using hl
  have hst := run_storeCells_cells (P := P) b off v.cells.toList 0 w (fun j hj => by
      rw [cell_of_row w b _ cur e fz hb]
      simp only [Nat.add_zero]
      rw [Array.getElem?_eq_getElem (by omega)]; rfl) (fun j hj => by
      simp only [World.frozen?, hb, Nat.add_zero]
      have := hz (off + j) (by omega)
      simp only [Bool.and_eq_false_iff, decide_eq_false_iff_not, Nat.not_le, Nat.not_lt]
      omega) h1
  simp only [Nat.add_zero] at hst
  simp [Instr.storeAt, Instr.sureAddr, storeVar, run_sizeOf fit.info, fit.size, hl, hst]
theorem lay_ids {U : Nat → Prop} {off : Nat} {xs l l' : List AC} (h : lay off xs l = some l') (h1 : ∀ id ∈ xs.flatMap AC.ids, U id.1) (h2 : ∀ id ∈ l.flatMap AC.ids, U id.1) : ∀ id ∈ l'.flatMap AC.ids, U id.1 := by
  obtain ⟨_, rfl⟩ := lay_spec h
  intro id hid
  simp only [List.flatMap_append, List.mem_append] at hid
  rcases hid with (hid | hid) | hid
  · obtain ⟨c, c1, c2⟩ := List.mem_flatMap.1 hid
    exact h2 id (List.mem_flatMap.2 ⟨c, List.mem_of_mem_take c1, c2⟩)
  · exact h1 id hid
  · obtain ⟨c, c1, c2⟩ := List.mem_flatMap.1 hid
    exact h2 id (List.mem_flatMap.2 ⟨c, List.mem_of_mem_drop c1, c2⟩)
theorem ar_ids {ar : AR} : ∀ id ∈ ar.cells.flatMap AC.ids, id ∈ (AV.r ar).ids := by
  intro id hid
  cases ar with
  | c x => simpa [AR.cells, AV.ids, AR.ids] using hid
  | agg xs => exact hid
theorem flatten_lay {α : Type} {sz off : Nat} {row row' ts : List α} (l1 : off + ts.length ≤ row.length) (l2 : row' = row.take off ++ ts ++ row.drop (off + ts.length)) : ∀ (rows : List (List α)) (i : Nat), (∀ r ∈ rows, r.length = sz) → rows[i]? = some row →
    (rows.set i row').flatten = rows.flatten.take (i * sz + off) ++ ts ++ rows.flatten.drop (i * sz + off + ts.length)
  | [], i, _, h => by simp at h
  | r :: rows, 0, hu, h => by
    simp at h; subst h
    simp only [List.set_cons_zero, List.flatten_cons, Nat.zero_mul, Nat.zero_add]
    rw [List.take_append_of_le_length (by omega), l2]
    rw [List.drop_append_of_le_length (by omega)]
    simp
  | r :: rows, i + 1, hu, h => by
    have hr := hu r (by simp)
    simp only [List.set_cons_succ, List.flatten_cons]
    rw [flatten_lay l1 l2 rows i (fun r hr => hu r (by simp [hr])) (by simpa using h)]
    have e1 : (i + 1) * sz + off = r.length + (i * sz + off) := by rw [Nat.add_mul, hr]; omega
    rw [e1, List.take_length_add_append, Nat.add_assoc r.length, List.drop_length_add_append]
    simp
theorem get_laid {α : Type} {A ys : List α} {k : Nat} (h : k + ys.length ≤ A.length) (p : Nat) : (A.take k ++ ys ++ A.drop (k + ys.length))[p]? = if p < k then A[p]? else if p < k + ys.length then ys[p - k]? else A[p]? := by
  have hk : (A.take k).length = k := by rw [List.length_take]; omega
  have hk2 : (A.take k ++ ys).length = k + ys.length := by rw [List.length_append, hk]
  split
  · rw [List.getElem?_append_left (by omega), List.getElem?_append_left (by omega), List.getElem?_take]; simp_all
  · split
    · rw [List.getElem?_append_left (by omega), List.getElem?_append_right (by omega), hk]
    · rw [List.getElem?_append_right (by omega), hk2, List.getElem?_drop]; congr 1; omega
theorem sound_store {T : TypeId} {x y : Operand} {ti : TI} (hΓ : Γ.chk P = true) (hT : Γ.get T = some ti) (ho : o.op = .store T x y) (h : semStore ti (ev x) (ev y) H K) : ∃ e, K e ∧ Good P o ev H e := by
  obtain ⟨i, d, fit⟩ := Env.fit hΓ hT
  have hopx : x ∈ o.op.operands.toList := by simp [ho, Op.operands]
  have hopy : y ∈ o.op.operands.toList := by simp [ho, Op.operands]
  unfold semStore at h
  split at h
  · rename_i ar hy
    split at h
    · rename_i hlen
      have hlen : ar.cells.length = ti.size := by simpa using hlen
      split at h
      · rename_i q off hx
        split at h
        · rename_i cells hq
          split at h
          · rename_i cells' hlay
            refine ⟨_, h, ?_⟩
            intro N B M w0 ρ s a w Q K hc hop hR hnew hd hK
            have hq' : s.H q = some (.box cells) := by rw [hR q (by simp)]; exact hq
            obtain ⟨b, us, t, fz, g1, g2, g3, g4, g5⟩ := hc.box hq'
            have hvx := (hc.eval x).1
            rw [hop x hopx, hx] at hvx
            obtain ⟨b', e1, e2⟩ := hvx
            rw [g1] at e1
            injection e1 with e1; injection e1 with e1; injection e1 with e1
            subst e1
            have hvy := hc.eval y
            rw [hop y hopy, hy] at hvy
            have hcy := RR.cells hvy.1
            have hcl : (a.eval y).cells.size = ti.size := by rw [← hlen, ← hcy.length]; simp
            obtain ⟨l1, l2⟩ := lay_spec hlay
            have hul : us.size = cells.length := by have := g4.length; simpa using this
            have hrun := run_storeAt (w := w) fit b off (a.eval y) hcl g2 g3 (by omega) hcy.one
            obtain ⟨cur', c1, c2, c3⟩ := setCells_heap b t fz (a.eval y).cells.toList off w us g2 (by simp [hcl]; omega)
            obtain ⟨ρ', this⟩ := hc.upd hq' (x' := .box cells') (b := b) (by rw [g1]; rfl) [] (by simp) (fun _ => False) (fun _ h => h.elim) (setCells_turn b _ off w) (lay_ids hlay (fun id hid => hvy.2 id (ar_ids id hid)) (hc.usedH q _ hq').2) (fun ρ' ok' hρ _ hk _ _ _ => by
              refine ⟨b, cur', t, fz, by rw [hρ]; exact g1, c1, by rw [c2]; exact g3, ?_⟩
              rw [c3, l2]
              have hcyl : (a.eval y).cells.toList.length = ar.cells.length := hcy.length
              rw [hcyl]
              exact (((g4.take off).append hcy).append (g4.drop _)).keep hk fun o _ => hρ o) hd undef [q]
            have hexec : (execOp a.eval o).run P w = .ok .skip (w.setCells b off (a.eval y).cells.toList) := by
              simp only [execOp, ho, e2, Sem.run_bind, hrun, Result.andThen_ok, Sem.run_pure]
            unfold Oper.wp
            rw [hexec]
            exact hK _ _ ρ' this
          · exact h.elim
        · exact h.elim
      · rename_i q sz' i' off hx
        split at h
        · rename_i fr sz rows hq
          split at h
          rotate_left
          · exact h.elim
          rename_i ts fr' ids hts
          obtain ⟨rfl, hqi, row, hrow, h⟩ := h
          split at h
          · rename_i row' hlay
            refine ⟨_, h, ?_⟩
            intro N B M w0 ρ s a w Q K hc hop hR hnew hd hK
            have hq' : s.H q = some (.arr fr sz rows) := by rw [hR q (by simp)]; exact hq
            obtain ⟨hu, g⟩ := hc.arr hq'
            have hvx := (hc.eval x).1
            rw [hop x hopx, hx] at hvx
            obtain ⟨b', n, c, e1, e2, e3⟩ := hvx
            have hvy := hc.eval y
            rw [hop y hopy, hy] at hvy
            have hcy := RR.cells hvy.1
            have hty : ∀ ok' : Nat → Prop, (∀ c, okB ρ s.H w c → ok' c) → (∀ o x c, o ∈ ids → s.H o = some x → Own ρ o c → ok' c) → RTs w (okF B ok' fr') (a.eval y).cells.toList ts :=
              fun ok' hok hb => frz_ok hc hok hts (fun o ho => hR o (by simp [ho])) hcy hb
            have htl : ts.length = ti.size := by rw [← (hty (fun _ => True) (fun _ _ => trivial) (fun _ _ _ _ _ _ => trivial)).length, hcy.length, hlen]
            have hcl : (a.eval y).cells.size = ti.size := by rw [← hlen, ← hcy.length]; simp
            obtain ⟨l1, l2⟩ := lay_spec hlay
            have hrl : row.length = sz := hu row (List.mem_of_getElem? hrow)
            have hil : i' < rows.length := by
              rcases Nat.lt_or_ge i' rows.length with h' | h'
              · exact h'
              · rw [List.getElem?_eq_none h'] at hrow; cases hrow
            rcases g with ⟨g1, g2⟩ | ⟨b, cap, cur, e, fz, g1, g2, g3, g4, g5, g6, g7, g8, g9⟩
            · subst g2; simp at hil
            · rw [g1] at e1
              injection e1 with e1 e1' e1''; injection e1 with e1; injection e1 with e1
              subst e1
              have hmul : (i' + 1) * sz ≤ cap * sz := Nat.mul_le_mul_right _ (by omega)
              have hmul2 : (i' + 1) * sz = i' * sz + sz := by rw [Nat.add_mul]; omega
              have hrun := run_storeAt (w := w) fit b (i' * sz + off) (a.eval y) hcl g2 g3 (by omega) hcy.one
              obtain ⟨cur', c1, c2, c3⟩ := setCells_heap b e fz (a.eval y).cells.toList (i' * sz + off) w cur g2 (by simp [hcl]; omega)
              have hrow'l : row'.length = sz := by rw [l2]; simp; omega
              have hyl : (a.eval y).cells.toList.length = ts.length := (hty (fun _ => True) (fun _ _ => trivial) (fun _ _ _ _ _ _ => trivial)).length
              have hflat : (rows.set i' row').flatten = rows.flatten.take (i' * sz + off) ++ ts ++ rows.flatten.drop (i' * sz + off + ts.length) := by
                exact flatten_lay l1 l2 rows i' hu hrow
              have hrfl := flatten_length sz rows hu
              have hle2 : (i' + 1) * sz ≤ rows.length * sz := Nat.mul_le_mul_right _ hil
              obtain ⟨ρ', this⟩ := hc.upd hq' (x' := .arr (fr && fr') sz (rows.set i' row')) (b := b) (by rw [g1]; rfl) ids hqi (fun _ => False) (fun _ h => h.elim) (setCells_turn b _ (i' * sz + off) w) (by simp [AO.ids]) (fun ρ' ok' hρ _ hk hkr0 _ _ => by
                have hkr := fun o x c h1 h2 h3 => hkr0 o x c h1 h2 h3 (fun h => h)
                refine ⟨fun r hr => ?_, .inr ⟨b, cap, cur', e, fz, by rw [hρ, g1, List.length_set], c1, by rw [c2]; exact g3, by rw [List.length_set]; exact g4, g5, by rw [c2]; exact g6, ?_, fun e => g9 (by simp at e; exact e.1)⟩⟩
                · rcases List.mem_or_eq_of_mem_set hr with h' | h'
                  · exact hu r h'
                  · rw [h']; exact hrow'l
                · rw [List.length_set, hflat, c3, hyl]
                  have e1 : (cur.toList.take (i' * sz + off) ++ (a.eval y).cells.toList ++ cur.toList.drop (i' * sz + off + ts.length)).take (rows.length * sz) =
                      (cur.toList.take (rows.length * sz)).take (i' * sz + off) ++ (a.eval y).cells.toList ++ (cur.toList.take (rows.length * sz)).drop (i' * sz + off + ts.length) := by
                    rw [List.take_take, Nat.min_eq_left (by omega)]
                    have hl1 : (cur.toList.take (i' * sz + off) ++ (a.eval y).cells.toList).length = i' * sz + off + ts.length := by
                      rw [List.length_append, hyl, List.length_take]; simp; omega
                    rw [List.take_append, List.take_of_length_le (by rw [hl1]; omega), hl1]
                    congr 1
                    rw [List.drop_take]
                  rw [e1]
                  have hold : ∀ c, okB ρ s.H w c ∨ (∃ o x, o ∈ ids ∧ s.H o = some x ∧ Own ρ o c) → (w.setCells b (i' * sz + off) (a.eval y).cells.toList).heap[c]? = w.heap[c]? ∧ ok' c := by
                    rintro c (hc' | ⟨o, x, k1, k2, k3⟩)
                    · exact hk c hc'
                    · exact hkr o x c k1 k2 k3
                  have ht1 := (hty (fun c => okB ρ s.H w c ∨ (∃ o x, o ∈ ids ∧ s.H o = some x ∧ Own ρ o c)) (fun c h => .inl h) (fun o x c k1 k2 k3 => .inr ⟨o, x, k1, k2, k3⟩)).keep (okF_keep (B := B) hold)
                  have ht2 := ht1.keep (okF_weak (B := B) (ok := ok') (w := w.setCells b (i' * sz + off) (a.eval y).cells.toList) (fr' := fr && fr') fun e => by simp at e; exact e.2)
                  have h71 := (g7.keep (okF_keep (B := B) hk)).keep (okF_weak (B := B) (ok := ok') (w := w.setCells b (i' * sz + off) (a.eval y).cells.toList) (fr' := fr && fr') fun e => by simp at e; exact e.1)
                  exact ((h71.take _).append ht2).append (h71.drop _)) hd undef (q :: ids)
              have hexec : (execOp a.eval o).run P w = .ok .skip (w.setCells b (i' * sz + off) (a.eval y).cells.toList) := by
                simp only [execOp, ho, e3, Sem.run_bind, hrun, Result.andThen_ok, Sem.run_pure]
              unfold Oper.wp
              rw [hexec]
              exact hK _ _ ρ' this
          · exact h.elim
        · rename_i sz rows hq
          obtain ⟨rfl, row, hrow, h⟩ := h
          obtain ⟨ds, ids, ⟨hnd, h⟩, hds⟩ := frzD_spec _ _ h
          rw [nodupI_iff] at hnd
          obtain ⟨hqi, hnd⟩ := List.nodup_cons.1 hnd
          split at h
          rotate_left
          · exact h.elim
          rename_i row' hlay
          refine ⟨_, h, ?_⟩
          intro N B M w0 ρ s a w Q K hc hop hR hnew hd hK
          have hq' : s.H q = some (.dar sz rows none) := by rw [hR q (by simp)]; exact hq
          obtain ⟨hu, g⟩ := hc.dar hq'
          have hvx := (hc.eval x).1
          rw [hop x hopx, hx] at hvx
          obtain ⟨b', n, c, e1, e2, e3⟩ := hvx
          have hvy := hc.eval y
          rw [hop y hopy, hy] at hvy
          have hcy := RR.cells hvy.1
          obtain ⟨Fn, f1, f2, f3, f4⟩ := hds hc (fun o ho => hR o (by simp [ho])) hnd _ hcy
          have hcl : (a.eval y).cells.size = ti.size := by rw [← hlen, ← hcy.length]; simp
          obtain ⟨l1, l2⟩ := lay_spec hlay
          have hrl : row.length = sz := hu row (List.mem_of_getElem? hrow)
          have hil : i' < rows.length := by
            rcases Nat.lt_or_ge i' rows.length with h' | h'
            · exact h'
            · rw [List.getElem?_eq_none h'] at hrow; cases hrow
          rcases g with ⟨g1, g2, _⟩ | ⟨b, cap, cur, e, fz, Fp, g1, g2, g3, g4, g5, g6, g7, g8, g9, g10⟩
          · subst g2; simp at hil
          · rw [g1] at e1
            injection e1 with e1 e1' e1''; injection e1 with e1; injection e1 with e1
            subst e1
            have hyl0 : (a.eval y).cells.toList.length = ti.size := by simpa using hcl
            have hmul : (i' + 1) * sz ≤ cap * sz := Nat.mul_le_mul_right _ (by omega)
            have hmul2 : (i' + 1) * sz = i' * sz + sz := by rw [Nat.add_mul]; omega
            have hrun := run_storeAt (w := w) fit b (i' * sz + off) (a.eval y) hcl g2 g3 (by omega) hcy.one
            obtain ⟨cur', c1, c2, c3⟩ := setCells_heap b e fz (a.eval y).cells.toList (i' * sz + off) w cur g2 (by simp [hcl]; omega)
            have hrow'l : row'.length = sz := by rw [l2]; simp; omega
            have hflat := flatten_lay l1 l2 rows i' hu hrow
            have hrfl := flatten_length sz rows hu
            have hle2 : (i' + 1) * sz ≤ rows.length * sz := Nat.mul_le_mul_right _ hil
            have hle3 : rows.length * sz ≤ cap * sz := Nat.mul_le_mul_right _ g4
            have hcurl : cur.toList.length = cap * sz := by simpa using g6
            let Fq : Nat → Nat → Prop := fun p c => if p < i' * sz + off then Fp p c else if p < i' * sz + off + ds.length then Fn (p - (i' * sz + off)) c else Fp p c
            have hqo : Own ρ q b := .inl (by rw [g1]; rfl)
            have Fq_cases : ∀ p c, Fq p c → (Fp p c ∧ ¬ (i' * sz + off ≤ p ∧ p < i' * sz + off + ds.length)) ∨ (Fn (p - (i' * sz + off)) c ∧ i' * sz + off ≤ p ∧ p < i' * sz + off + ds.length) := by
              intro p c hpc
              simp only [Fq] at hpc
              split at hpc
              · exact .inl ⟨hpc, by omega⟩
              · split at hpc
                · exact .inr ⟨hpc, by omega, by omega⟩
                · exact .inl ⟨hpc, by omega⟩
            have apart : ∀ p p' c, Fp p c → ¬ Fn p' c := by
              intro p p' c h1 h2
              obtain ⟨⟨o, x1, k1, k2, k3⟩, _⟩ := f3 p' c h2
              exact hc.sep o q x1 _ c k2 hq' (fun e => hqi (e ▸ k1)) k3 (.inr (g7 p c h1).1)
            obtain ⟨ρ', this⟩ := hc.upd hq' (x' := .dar sz (rows.set i' row') none) (b := b) (by rw [g1]; rfl) ids hqi (fun c => ∃ p, Fn p c) (fun c hcc => by obtain ⟨p, hp⟩ := hcc; exact (f3 p c hp).1) (setCells_turn b _ (i' * sz + off) w) (by simp [AO.ids]) (fun ρ' ok' hρ hfp hk hkr hkF hkq => by
              refine ⟨fun r hr => ?_, .inr ⟨b, cap, cur', e, fz, Fq, by rw [hρ, g1, List.length_set], c1, by rw [c2]; exact g3, by rw [List.length_set]; exact g4, g5, by rw [c2]; exact g6, fun p c hpc => ?_, fun p p' c hne h1 h2 => ?_, ?_, fun p v d hv hd => ?_⟩⟩
              · rcases List.mem_or_eq_of_mem_set hr with h' | h'
                · exact hu r h'
                · rw [h']; exact hrow'l
              · rcases Fq_cases p c hpc with ⟨h1, _⟩ | ⟨h1, _⟩
                · exact ⟨hfp c (.inl (g7 p c h1).1), (g7 p c h1).2⟩
                · exact ⟨hfp c (.inr ⟨_, h1⟩), (hkF c ⟨_, h1⟩).2⟩
              · rcases Fq_cases p c h1 with ⟨h1, m1⟩ | ⟨h1, m1⟩ <;> rcases Fq_cases p' c h2 with ⟨h2, m2⟩ | ⟨h2, m2⟩
                · exact g8 p p' c hne h1 h2
                · exact apart _ _ _ h1 h2
                · exact apart _ _ _ h2 h1
                · exact f4 _ _ c (by omega) h1 h2
              · rw [List.length_set, hflat, c3]; simp only [List.length_append, List.length_take, List.length_drop]; rw [← f1]; omega
              · simp only [holeAt]
                rw [hflat, get_laid (by omega)] at hd
                rw [List.length_set, List.getElem?_take, c3, get_laid (by omega), f1] at hv
                split at hv
                rotate_left
                · cases hv
                rename_i hp
                by_cases q1 : p < i' * sz + off
                · rw [if_pos q1] at hv hd
                  have := g9.2 p v d (by rw [List.getElem?_take, if_pos hp]; exact hv) hd
                  simp only [holeAt] at this
                  refine this.keep hk fun c hc' => ⟨hkq c (g7 p c hc').1 (g7 p c hc').2, ?_⟩
                  simp only [Fq, if_pos q1]; exact hc'
                · rw [if_neg q1] at hv hd
                  by_cases q2 : p < i' * sz + off + ds.length
                  · rw [if_pos q2] at hv hd
                    refine (f2 _ v d hv hd).keep hk fun c hc' => ⟨(hkF c ⟨_, hc'⟩).1, ?_⟩
                    simp only [Fq, if_neg q1, if_pos q2]; exact hc'
                  · rw [if_neg q2] at hv hd
                    have := g9.2 p v d (by rw [List.getElem?_take, if_pos hp]; exact hv) hd
                    simp only [holeAt] at this
                    refine this.keep hk fun c hc' => ⟨hkq c (g7 p c hc').1 (g7 p c hc').2, ?_⟩
                    simp only [Fq, if_neg q1, if_neg q2]; exact hc') hd undef (q :: ids)
            have hexec : (execOp a.eval o).run P w = .ok .skip (w.setCells b (i' * sz + off) (a.eval y).cells.toList) := by
              simp only [execOp, ho, e3, Sem.run_bind, hrun, Result.andThen_ok, Sem.run_pure]
            unfold Oper.wp
            rw [hexec]
            exact hK _ _ ρ' this
        · exact h.elim
      · exact h.elim
    · exact h.elim
  · exact h.elim
end
end Go.Sim
