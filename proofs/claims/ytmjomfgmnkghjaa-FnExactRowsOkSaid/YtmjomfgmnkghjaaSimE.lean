/- Operations that read memory. -/
import Derived.Test.YtmjomfgmnkghjaaSimD
namespace Go.Sim
open Go.RowKit

theorem cut_spec {α : Type} : ∀ {i n : Nat} {l xs : List α}, cut i n l = some xs → i + n ≤ l.length ∧ xs = (l.drop i).take n
  | 0, 0, l, xs, h => by simp [cut] at h; subst h; simp
  | 0, n + 1, [], xs, h => by simp [cut] at h
  | 0, n + 1, x :: r, xs, h => by
    simp only [cut, Option.map_eq_some_iff] at h
    obtain ⟨ys, h1, rfl⟩ := h
    obtain ⟨h2, rfl⟩ := cut_spec h1
    exact ⟨by simp; omega, by simp⟩
  | i + 1, n, [], xs, h => by simp [cut] at h
  | i + 1, n, x :: r, xs, h => by
    simp only [cut] at h
    obtain ⟨h2, rfl⟩ := cut_spec h
    exact ⟨by simp; omega, by simp⟩

theorem lay_spec {α : Type} : ∀ {i : Nat} {xs l l' : List α}, lay i xs l = some l' → i + xs.length ≤ l.length ∧ l' = l.take i ++ xs ++ l.drop (i + xs.length)
  | 0, [], l, l', h => by simp [lay] at h; subst h; simp
  | 0, x :: xs, [], l', h => by simp [lay] at h
  | 0, x :: xs, y :: r, l', h => by
    simp only [lay, Option.map_eq_some_iff] at h
    obtain ⟨ys, h1, rfl⟩ := h
    obtain ⟨h2, rfl⟩ := lay_spec h1
    exact ⟨by simp; omega, by simp⟩
  | i + 1, xs, [], l', h => by simp [lay] at h
  | i + 1, xs, y :: r, l', h => by
    simp only [lay, Option.map_eq_some_iff] at h
    obtain ⟨ys, h1, rfl⟩ := h
    obtain ⟨h2, rfl⟩ := lay_spec h1
    refine ⟨by simp; omega, ?_⟩
    rw [show i + 1 + xs.length = i + xs.length + 1 by omega]
    simp

section
variable {P : Program} {Γ : Env} {N B : Nat} {M : Nat → Prop} {w0 : World} {ρ : Id → Value} {s : FS} {a : Act} {w : World} {o : Oper} {ev : Operand → AV} {H : Id → Option AO} {K : Eff → Prop}

theorem run_isAgg {t : TypeId} {d : TypeDesc} (h : P.underlying t = some d) : (isAgg t).run P w = .ok (dAgg d) w := by
  simp only [isAgg, Sem.run_bind, run_underlying h, Result.andThen_ok]
  cases d <;> rfl
theorem run_sizeOf {t : TypeId} {i : TypeInfo} (h : P.info? t = some i) : (sizeOf t).run P w = .ok i.size w := by simp [sizeOf, typeInfo, h]
theorem run_typeInfo {t : TypeId} {i : TypeInfo} (h : P.info? t = some i) : (typeInfo t).run P w = .ok i w := by simp [typeInfo, h]
theorem run_zeroValue {t : TypeId} {i : TypeInfo} {z : Value} (h : P.info? t = some i) (hz : i.zero = some z) : (zeroValue t).run P w = .ok z w := by simp [zeroValue, typeInfo, h, hz]

theorem run_loadAt_agg {T : TypeId} {ti : TI} {i : TypeInfo} {d : TypeDesc} (fit : ti.Fit P T i d) (ad : Addr) (us : List Value) (hcell : ∀ (p : Nat) (v : Value), us[p]? = some v → w.cell? (ad.add p) = some v)
    (ha : ti.agg = true) (hl : us.length = ti.size) : (Instr.loadAt T (.pointer (some ad))).run P w = .ok (.agg us.toArray) w := by
  have h1 := run_loadCells_list (P := P) w ad us hcell
  rw [hl, ← fit.size] at h1
  simp [Instr.loadAt, Instr.sureAddr, loadVar, run_isAgg fit.und, fit.agg, ha, run_sizeOf fit.info, h1]
theorem run_loadAt_one {T : TypeId} {ti : TI} {i : TypeInfo} {d : TypeDesc} (fit : ti.Fit P T i d) (ad : Addr) (u : Value) (hcell : w.cell? ad = some u)
    (ha : ti.agg = false) : (Instr.loadAt T (.pointer (some ad))).run P w = .ok u w := by
  simp [Instr.loadAt, Instr.sureAddr, loadVar, run_isAgg fit.und, fit.agg, ha, run_load, hcell]

theorem mkC_ok {fr : Bool} {ok : Nat → Prop} {v : Value} {t : Tr} (h : RT w (okF B ok fr) v t) : RC B ρ w ok v (mkC fr t) := by
  cases t with
  | lst sz rows =>
    cases fr with
    | true => exact h
    | false => exact RT.keep h okF_drop
  | int => exact RT.keep h okF_drop
  | bool => exact RT.keep h okF_drop
  | str => exact RT.keep h okF_drop
theorem RTs.toRCs {fr : Bool} : ∀ {w : World} {ok : Nat → Prop} {us : List Value} {ts : List Tr}, RTs w (okF B ok fr) us ts → RCs B ρ w ok us (ts.map (mkC fr))
  | _, _, [], [], _ => trivial
  | _, _, _ :: _, _ :: _, h => ⟨mkC_ok h.1, RTs.toRCs h.2⟩
  | _, _, [], _ :: _, h => h.elim
  | _, _, _ :: _, [], h => h.elim

/-- Every cell at a place: what a load reads. -/
theorem sound_load_at {T : TypeId} {x : Operand} {ti : TI} {i : TypeInfo} {d : TypeDesc} (fit : ti.Fit P T i d) (ho : o.op = .load T x) (hc : Conc N B M w0 ρ s a w)
    (ad : Addr) (us : List Value) (cs : List AC) (off : Nat) (hx : a.eval x = .pointer (some (ad.add off))) (hcell : ∀ (p : Nat) (v : Value), us[p]? = some v → w.cell? (ad.add p) = some v)
    (hr : RCs B ρ w (okB ρ s.H w) us cs) :
    (∀ ys, ti.agg = true → cut off ti.size cs = some ys → ∃ v, (execOp a.eval o).run P w = .ok (.value v) w ∧ RV B ρ w (okB ρ s.H w) v (.r (.agg ys))) ∧
    (∀ c, ti.agg = false → cut off 1 cs = some [c] → ∃ v, (execOp a.eval o).run P w = .ok (.value v) w ∧ RV B ρ w (okB ρ s.H w) v (.r (.c c))) := by
  have hl := hr.length
  refine ⟨fun ys ha hcut => ?_, fun c ha hcut => ?_⟩
  · obtain ⟨h1, rfl⟩ := cut_spec hcut
    refine ⟨.agg ((us.drop off).take ti.size).toArray, ?_, _, rfl, ?_⟩
    · have := run_loadAt_agg (w := w) fit (ad.add off) ((us.drop off).take ti.size) (fun p v hv => by
        rw [List.getElem?_take] at hv
        split at hv
        · rw [List.getElem?_drop] at hv; rw [add_add]; exact hcell _ v hv
        · cases hv) ha (by rw [List.length_take, List.length_drop]; omega)
      simp [execOp, ho, hx, this]
    · exact (hr.drop off).take ti.size
  · obtain ⟨h1, h2⟩ := cut_spec hcut
    have hc0 : cs[off]? = some c := by
      have : ((cs.drop off).take 1)[0]? = some c := by rw [← h2]; rfl
      simpa using this
    obtain ⟨u, hu, hru⟩ := hr.get off c hc0
    refine ⟨u, ?_, hru⟩
    have := run_loadAt_one (w := w) fit (ad.add off) u (hcell off u hu) ha
    simp [execOp, ho, hx, this]

theorem cut_map {α β : Type} {f : α → β} : ∀ {i n : Nat} {l xs : List α}, cut i n l = some xs → cut i n (l.map f) = some (xs.map f)
  | 0, 0, l, xs, h => by simp [cut] at h; subst h; simp [cut]
  | 0, n + 1, [], xs, h => by simp [cut] at h
  | 0, n + 1, x :: r, xs, h => by
    simp only [cut, Option.map_eq_some_iff] at h
    obtain ⟨ys, h1, rfl⟩ := h
    simp [cut, cut_map h1]
  | i + 1, n, [], xs, h => by simp [cut] at h
  | i + 1, n, x :: r, xs, h => by
    simp only [cut] at h
    simp [cut, cut_map h]

theorem mkC_ids (fr : Bool) (t : Tr) : (mkC fr t).ids = [] := by
  cases t <;> first | rfl | (cases fr <;> rfl)
theorem ids_map_t (fr : Bool) (cs : List Tr) : (cs.map (mkC fr)).flatMap AC.ids = [] := by
  induction cs with
  | nil => rfl
  | cons c cs ih => simp [List.flatMap_cons, ih, mkC_ids]

theorem ids_take_drop {U : Nat → Prop} {cs : List AC} (h : ∀ id ∈ cs.flatMap AC.ids, U id.1) (i n : Nat) : ∀ id ∈ ((cs.drop i).take n).flatMap AC.ids, U id.1 := by
  intro id hid
  rw [List.mem_flatMap] at hid
  obtain ⟨c, hc, hi⟩ := hid
  exact h id (List.mem_flatMap.2 ⟨c, List.mem_of_mem_drop (List.mem_of_mem_take hc), hi⟩)

/-- The block of a box, read. -/
theorem Conc.box (hc : Conc N B M w0 ρ s a w) {q : Id} {cells : List AC} (h : s.H q = some (.box cells)) : ∃ b us t fz, ρ q = .pointer (some ⟨b, 0, none⟩) ∧ w.heap[b]? = some (.cells us t fz) ∧ unfrozen us.size fz ∧
    RCs B ρ w (okB ρ s.H w) us.toList cells ∧ (∀ (p : Nat) (v : Value), us.toList[p]? = some v → w.cell? ((⟨b, 0, none⟩ : Addr).add p) = some v) := by
  obtain ⟨b, cur, t, fz, h1, h2, h3, h4⟩ := hc.obj q _ h
  refine ⟨b, cur, t, fz, h1, h2, h3, h4, fun p v hv => ?_⟩
  rw [add_head, cell_of_row w b p cur t fz h2]
  simpa using hv

/-- The block of an array, read. -/
theorem Conc.arr (hc : Conc N B M w0 ρ s a w) {q : Id} {fr : Bool} {sz : Nat} {rows : List (List Tr)} (h : s.H q = some (.arr fr sz rows)) : (∀ r ∈ rows, r.length = sz) ∧
    ((ρ q = .slice none 0 0 ∧ rows = []) ∨ ∃ b cap cur e fz, ρ q = .slice (some ⟨b, 0, none⟩) rows.length cap ∧ w.heap[b]? = some (.cells cur e fz) ∧ unfrozen cur.size fz ∧ rows.length ≤ cap ∧ cap ≤ maxLen ∧ cur.size = cap * sz ∧
      RTs w (okF B (okB ρ s.H w) fr) (cur.toList.take (rows.length * sz)) rows.flatten ∧ (∀ (p : Nat) (v : Value), (cur.toList.take (rows.length * sz))[p]? = some v → w.cell? ((⟨b, 0, none⟩ : Addr).add p) = some v) ∧ (fr = true → B ≤ b)) := by
  obtain ⟨hu, h⟩ := hc.obj q _ h
  refine ⟨hu, ?_⟩
  rcases h with h | ⟨b, cap, cur, e, fz, h1, h2, h3, h4, h5, h6, h7, h8⟩
  · exact .inl h
  · refine .inr ⟨b, cap, cur, e, fz, h1, h2, h3, h4, h5, h6, h7, fun p v hv => ?_, h8⟩
    rw [add_head, cell_of_row w b p cur e fz h2]
    rw [List.getElem?_take] at hv
    split at hv
    · simpa using hv
    · cases hv

/-- A row of an own array: its cells. -/
theorem arr_row {sz : Nat} {rows : List (List Tr)} {us : List Value} {ok : Nat → Prop} (hu : ∀ r ∈ rows, r.length = sz) (ht : RTs w ok us rows.flatten) (i : Nat) (row : List Tr) (hr : rows[i]? = some row) :
    RTs w ok ((us.drop (i * sz)).take sz) row := by
  have hi : i < rows.length := by
    rcases Nat.lt_or_ge i rows.length with h' | h'
    · exact h'
    · rw [List.getElem?_eq_none h'] at hr; cases hr
  have hrl : row.length = sz := hu row (List.mem_of_getElem? hr)
  have hd := flatten_drop sz rows i hu (by omega)
  rw [List.drop_eq_getElem_cons hi] at hd
  have hrow : rows[i] = row := by rw [List.getElem?_eq_getElem hi] at hr; simpa using hr
  rw [hrow, List.flatten_cons] at hd
  have := (ht.drop (i * sz)).take sz
  rw [hd, List.take_append_of_le_length (by omega), List.take_of_length_le (show row.length ≤ sz by omega)] at this
  exact this

theorem sound_load {T : TypeId} {x : Operand} {ti : TI} (hΓ : Γ.chk P = true) (hT : Γ.get T = some ti) (ho : o.op = .load T x) (h : semLoad ti (ev x) H K) : ∃ e, K e ∧ Good P o ev H e := by
  obtain ⟨i, d, fit⟩ := Env.fit hΓ hT
  have hopx : x ∈ o.op.operands.toList := by simp [ho, Op.operands]
  unfold semLoad at h
  split at h
  · rename_i q off hx
    split at h
    · rename_i cells hq
      have base : ∀ (N B : Nat) (M : Nat → Prop) (w0 : World) (ρ : Id → Value) (s : FS) (a : Act) (w : World), Conc N B M w0 ρ s a w → (∀ x ∈ o.op.operands.toList, evL s.L x = ev x) → (∀ id ∈ [q], s.H id = H id) →
          s.H q = some (.box cells) ∧ ∃ ad us, a.eval x = .pointer (some (Addr.add ad off)) ∧ (∀ (p : Nat) (v : Value), us[p]? = some v → w.cell? (ad.add p) = some v) ∧ RCs B ρ w (okB ρ s.H w) us cells := by
        intro N B M w0 ρ s a w hc hop hR
        have hq' : s.H q = some (.box cells) := by rw [hR q (by simp)]; exact hq
        obtain ⟨b, us, t, fz, g1, g2, g3, g4, g5⟩ := hc.box hq'
        have hv := (hc.eval x).1
        rw [hop x hopx, hx] at hv
        obtain ⟨b', e1, e2⟩ := hv
        rw [g1] at e1
        injection e1 with e1; injection e1 with e1; injection e1 with e1
        subst e1
        exact ⟨hq', ⟨b, 0, none⟩, us.toList, by rw [add_head]; exact e2, g5, g4⟩
      split at h
      · rename_i hagg
        split at h
        · rename_i cs hcut
          refine ⟨_, h, good_val fun N B M w0 ρ s a w hc hop hR => ?_⟩
          obtain ⟨hq', ad, us, e1, e2, e3⟩ := base N B M w0 ρ s a w hc hop hR
          obtain ⟨v, r1, r2⟩ := (sound_load_at fit ho hc ad us cells off e1 e2 e3).1 cs hagg hcut
          refine ⟨v, r1, r2, ?_⟩
          obtain ⟨_, rfl⟩ := cut_spec hcut
          exact ids_take_drop (U := s.U) (hc.usedH q _ hq').2 off ti.size
        · exact h.elim
      · rename_i hagg
        split at h
        · rename_i c hcut
          refine ⟨_, h, good_val fun N B M w0 ρ s a w hc hop hR => ?_⟩
          obtain ⟨hq', ad, us, e1, e2, e3⟩ := base N B M w0 ρ s a w hc hop hR
          obtain ⟨v, r1, r2⟩ := (sound_load_at fit ho hc ad us cells off e1 e2 e3).2 c hagg hcut
          refine ⟨v, r1, r2, ?_⟩
          obtain ⟨_, hh⟩ := cut_spec hcut
          have := ids_take_drop (U := s.U) (hc.usedH q _ hq').2 off 1
          rw [← hh] at this
          intro id hid
          exact this id (List.mem_flatMap.2 ⟨c, by simp, hid⟩)
        · exact h.elim
    · exact h.elim
  · rename_i q sz i' off hx
    split at h
    · rename_i fr sz' rows hq
      obtain ⟨hsz, row, hrow, h⟩ := h
      subst hsz
      have base : ∀ (N B : Nat) (M : Nat → Prop) (w0 : World) (ρ : Id → Value) (s : FS) (a : Act) (w : World), Conc N B M w0 ρ s a w → (∀ x ∈ o.op.operands.toList, evL s.L x = ev x) → (∀ id ∈ [q], s.H id = H id) →
          ∃ ad us, a.eval x = .pointer (some (Addr.add ad off)) ∧ (∀ (p : Nat) (v : Value), us[p]? = some v → w.cell? (ad.add p) = some v) ∧ RCs B ρ w (okB ρ s.H w) us (row.map (mkC fr)) := by
        intro N B M w0 ρ s a w hc hop hR
        have hq' : s.H q = some (.arr fr sz' rows) := by rw [hR q (by simp)]; exact hq
        have hv := (hc.eval x).1
        rw [hop x hopx, hx] at hv
        obtain ⟨b', n, c, e1, e2, e3⟩ := hv
        obtain ⟨hu, g⟩ := hc.arr hq'
        rcases g with ⟨g1, _⟩ | ⟨b, cap, cur, e, fz, g1, g2, g3, g4, g5, g6, g7, g8, g9⟩
        · rw [g1] at e1; injection e1 with e1; cases e1
        · rw [g1] at e1
          injection e1 with e1; injection e1 with e1; injection e1 with e1
          subst e1
          refine ⟨⟨b, i' * sz', none⟩, ((cur.toList.take (rows.length * sz')).drop (i' * sz')).take sz', by rw [add_mid]; exact e3, fun p v hv => ?_, (arr_row hu g7 i' row hrow).toRCs⟩
          rw [List.getElem?_take] at hv
          split at hv
          · rw [List.getElem?_drop] at hv
            rw [add_mid, ← add_head]; exact g8 _ v hv
          · cases hv
      split at h
      · rename_i hagg
        split at h
        · rename_i cs hcut
          refine ⟨_, h, good_val fun N B M w0 ρ s a w hc hop hR => ?_⟩
          obtain ⟨ad, us, e1, e2, e3⟩ := base N B M w0 ρ s a w hc hop hR
          obtain ⟨v, r1, r2⟩ := (sound_load_at fit ho hc ad us _ off e1 e2 e3).1 (cs.map (mkC fr)) hagg (cut_map hcut)
          exact ⟨v, r1, r2, by simp [AV.ids, AR.ids, ids_map_t]⟩
        · exact h.elim
      · rename_i hagg
        split at h
        · rename_i c hcut
          refine ⟨_, h, good_val fun N B M w0 ρ s a w hc hop hR => ?_⟩
          obtain ⟨ad, us, e1, e2, e3⟩ := base N B M w0 ρ s a w hc hop hR
          obtain ⟨v, r1, r2⟩ := (sound_load_at fit ho hc ad us _ off e1 e2 e3).2 (mkC fr c) hagg (cut_map hcut)
          exact ⟨v, r1, r2, by simp [AV.ids, AR.ids, mkC_ids]⟩
        · exact h.elim
    · exact h.elim
  · rename_i fr row off hx
    have base : ∀ (N B : Nat) (M : Nat → Prop) (w0 : World) (ρ : Id → Value) (s : FS) (a : Act) (w : World), Conc N B M w0 ρ s a w → (∀ x ∈ o.op.operands.toList, evL s.L x = ev x) →
          ∃ ad us, a.eval x = .pointer (some (Addr.add ad off)) ∧ (∀ (p : Nat) (v : Value), us[p]? = some v → w.cell? (ad.add p) = some v) ∧ RCs B ρ w (okB ρ s.H w) us (row.map (mkC fr)) := by
      intro N B M w0 ρ s a w hc hop
      have hv := (hc.eval x).1
      rw [hop x hopx, hx] at hv
      obtain ⟨ad, us, e1, e2, e3, e4, e5⟩ := hv
      exact ⟨ad, us, e1, e4, e5.toRCs⟩
    split at h
    · rename_i hagg
      split at h
      · rename_i cs hcut
        refine ⟨_, h, good_val fun N B M w0 ρ s a w hc hop hR => ?_⟩
        obtain ⟨ad, us, e1, e2, e3⟩ := base N B M w0 ρ s a w hc hop
        obtain ⟨v, r1, r2⟩ := (sound_load_at fit ho hc ad us _ off e1 e2 e3).1 (cs.map (mkC fr)) hagg (cut_map hcut)
        exact ⟨v, r1, r2, by simp [AV.ids, AR.ids, ids_map_t]⟩
      · exact h.elim
    · rename_i hagg
      split at h
      · rename_i c hcut
        refine ⟨_, h, good_val fun N B M w0 ρ s a w hc hop hR => ?_⟩
        obtain ⟨ad, us, e1, e2, e3⟩ := base N B M w0 ρ s a w hc hop
        obtain ⟨v, r1, r2⟩ := (sound_load_at fit ho hc ad us _ off e1 e2 e3).2 (mkC fr c) hagg (cut_map hcut)
        exact ⟨v, r1, r2, by simp [AV.ids, AR.ids, mkC_ids]⟩
      · exact h.elim
  · exact h.elim

theorem sound_fieldAddr {T : TypeId} {x : Operand} {f off sz : Nat} {ft : TypeId} {ti : TI} {KV : AV → Prop} (hΓ : Γ.chk P = true) (hT : Γ.get T = some ti) (hf : ti.fields[f]? = some (off, sz, ft)) (ho : o.op = .fieldAddr T x f) (h : semFieldAddr off (ev x) KV) :
    ∃ v, KV v ∧ Good P o ev H (.val v []) := by
  obtain ⟨i, d, fit⟩ := Env.fit hΓ hT
  have hopx : x ∈ o.op.operands.toList := by simp [ho, Op.operands]
  obtain ⟨fs, F, rfl, h1, h2, _, h3', h4', _⟩ := fit.field hf
  have h3 : P.cellsOf F.type ≠ 0 := by rw [h3']; exact h4'
  have hrun : ∀ (ad : Addr) (w : World), (Instr.fieldAt T (.pointer (some ad)) f).run P w = .ok (.pointer (some (ad.add off))) w := by
    intro ad w
    unfold Program.cellsOf at h3
    cases hi : P.info? F.type with
    | none => rw [hi] at h3; simp at h3
    | some j =>
      rw [hi] at h3
      simp at h3
      simp [Instr.fieldAt, run_underlying fit.und, h1, Instr.sureAddr, fieldPlace, run_sizeOf hi, h3, h2]
  unfold semFieldAddr at h
  split at h
  · rename_i q k hx
    refine ⟨_, h, good_val fun N B M w0 ρ s a w hc hop hR => ?_⟩
    have hv := hc.eval x
    rw [hop x hopx, hx] at hv
    obtain ⟨⟨b, e1, e2⟩, hi⟩ := hv
    exact ⟨.pointer (some ⟨b, k + off, none⟩), by simp [execOp, ho, e2, hrun, add_mid], ⟨b, e1, rfl⟩, hi⟩
  · rename_i q sz j k hx
    refine ⟨_, h, good_val fun N B M w0 ρ s a w hc hop hR => ?_⟩
    have hv := hc.eval x
    rw [hop x hopx, hx] at hv
    obtain ⟨⟨b, n, c, e1, e2, e3⟩, hi⟩ := hv
    exact ⟨.pointer (some ⟨b, j * sz + (k + off), none⟩), by simp [execOp, ho, e3, hrun, add_mid, Nat.add_assoc], ⟨b, n, c, e1, e2, rfl⟩, hi⟩
  · rename_i fr row k hx
    refine ⟨_, h, good_val fun N B M w0 ρ s a w hc hop hR => ?_⟩
    have hv := hc.eval x
    rw [hop x hopx, hx] at hv
    obtain ⟨⟨ad, us, e1, e2, e3⟩, hi⟩ := hv
    exact ⟨.pointer (some (ad.add (k + off))), by simp [execOp, ho, e1, hrun, add_add], ⟨ad, us, rfl, e2, e3⟩, by simp [AV.ids]⟩
  · exact h.elim

theorem sound_index {T : TypeId} {x i : Operand} {ti : TI} {KV : AV → Prop} (hΓ : Γ.chk P = true) (hT : Γ.get T = some ti) (hs : ti.str = true) (ho : o.op = .index T x i) (h : semIndex (ev x) (ev i) KV) :
    ∃ v, KV v ∧ Good P o ev H (.val v []) := by
  obtain ⟨ii, d, fit⟩ := Env.fit hΓ hT
  have hopx : x ∈ o.op.operands.toList := by simp [ho, Op.operands]
  have hopi : i ∈ o.op.operands.toList := by simp [ho, Op.operands]
  have hd : d = .string := by have := fit.str; rw [hs] at this; cases d <;> simp [dStr] at this ⊢
  subst hd
  unfold semIndex at h
  split at h
  · rename_i s k n hx hi
    obtain ⟨j, b, rfl, hb, h⟩ := h
    refine ⟨_, h, good_val fun N B M w0 ρ st a w hc hop hR => ?_⟩
    have hv := (hc.eval x).1
    have hv' := (hc.eval i).1
    rw [hop x hopx, hx] at hv
    rw [hop i hopi, hi] at hv'
    have e1 := inv_str hv
    have e2 := inv_int hv'
    have hlt : j < s.length := by
      rcases Nat.lt_or_ge j s.length with h' | h'
      · exact h'
      · rw [List.getElem?_eq_none h'] at hb; cases hb
    have hg : (⟨s.toArray⟩ : ByteArray)[j]? = some b := by
      rw [← hb]
      have hsz : (⟨s.toArray⟩ : ByteArray).size = s.length := by simp [ByteArray.size]
      rw [getElem?_pos (⟨s.toArray⟩ : ByteArray) j (by omega), List.getElem?_eq_getElem hlt]
      rfl
    refine ⟨.int .u8 b.toNat, ?_, .int _ _, by simp [AV.ids, AR.ids, AC.ids]⟩
    simp [execOp, ho, e1, e2, Instr.index, asIntOf, run_underlying fit.und, hg]
  · exact h.elim

theorem sound_indexAddr {T e : TypeId} {x i : Operand} {ti te : TI} (hΓ : Γ.chk P = true) (hT : Γ.get T = some ti) (he : ti.elem = some e) (hE : Γ.get e = some te) (ho : o.op = .indexAddr T x i) (h : semIndexAddr te.size (ev x) (ev i) H K) :
    ∃ ef, K ef ∧ Good P o ev H ef := by
  obtain ⟨ii, d, fit⟩ := Env.fit hΓ hT
  obtain ⟨ie, de, fite⟩ := Env.fit hΓ hE
  have hopx : x ∈ o.op.operands.toList := by simp [ho, Op.operands]
  have hopi : i ∈ o.op.operands.toList := by simp [ho, Op.operands]
  have hd : d = .slice e := by
    have := fit.elem; rw [he] at this
    cases d <;> simp [dElem] at this
    rw [this]
  subst hd
  have hrun : ∀ (ad : Addr) (n c : Nat) (k : IntKind) (j : Nat) (w : World), j < n → (Instr.indexAt T (.slice (some ad) n c) (.int k (j : Int))).run P w = .ok (.pointer (some (ad.add (j * te.size)))) w := by
    intro ad n c k j w hj
    simp [Instr.indexAt, asIntOf, run_underlying fit.und, run_sizeOf fite.info, fite.size, hj]
  unfold semIndexAddr at h
  split at h
  · rename_i sz rows k n hx hi
    obtain ⟨rfl, j, row, rfl, hr, h⟩ := h
    refine ⟨_, h, good_val fun N B M w0 ρ st a w hc hop hR => ?_⟩
    have hv := (hc.eval x).1
    have hv' := (hc.eval i).1
    rw [hop x hopx, hx] at hv
    rw [hop i hopi, hi] at hv'
    have e2 := inv_int hv'
    have hv : RT w (okB ρ st.H w) (a.eval x) (.lst te.size rows) := hv
    obtain ⟨A, c, e1, hc1, hc2, hu, _⟩ := hv.slice_inv
    rw [e1] at hv
    obtain ⟨ad, us, rfl, g1, g2, g3, g4, g5, g6⟩ := hv.row j row hr
    refine ⟨.pointer (some (ad.add (j * te.size))), by simp [execOp, ho, e1, e2, hrun ad _ c k j w g3], ⟨ad.add (j * te.size), us, by rw [add_zero'], ⟨by rw [add_block]; exact g1, fun h => by cases h⟩, g4, g5, g6.keep fun b hb => ⟨rfl, hb, fun h => by cases h⟩⟩, by simp [AV.ids]⟩
  · rename_i sz rows k n hx hi
    obtain ⟨rfl, j, row, rfl, hr, h⟩ := h
    refine ⟨_, h, good_val fun N B M w0 ρ st a w hc hop hR => ?_⟩
    have hv := (hc.eval x).1
    have hv' := (hc.eval i).1
    rw [hop x hopx, hx] at hv
    rw [hop i hopi, hi] at hv'
    have e2 := inv_int hv'
    have hv : RT w (okF B (okB ρ st.H w) true) (a.eval x) (.lst te.size rows) := hv
    obtain ⟨A, c, e1, hc1, hc2, hu, _⟩ := hv.slice_inv
    rw [e1] at hv
    obtain ⟨ad, us, rfl, g1, g2, g3, g4, g5, g6⟩ := hv.row j row hr
    refine ⟨.pointer (some (ad.add (j * te.size))), by simp [execOp, ho, e1, e2, hrun ad _ c k j w g3], ⟨ad.add (j * te.size), us, by rw [add_zero'], by rw [add_block]; exact g1, g4, g5, g6⟩, by simp [AV.ids]⟩
  · rename_i q k n hx hi
    split at h
    · rename_i fr sz rows hq
      obtain ⟨rfl, j, rfl, hj, h⟩ := h
      refine ⟨_, h, good_val fun N B M w0 ρ st a w hc hop hR => ?_⟩
      have hv := hc.eval x
      have hv' := (hc.eval i).1
      rw [hop x hopx, hx] at hv
      rw [hop i hopi, hi] at hv'
      have e2 := inv_int hv'
      obtain ⟨⟨_, e1⟩, hid⟩ := hv
      have hq' : st.H q = some (.arr fr te.size rows) := by rw [hR q (by simp)]; exact hq
      obtain ⟨hu, g⟩ := hc.arr hq'
      rcases g with ⟨_, g1⟩ | ⟨b, cap, cur, e, fz, g1, g2, g3, g4, g5, g6, g7, g8, g9⟩
      · rw [g1] at hj; simp at hj
      · rw [g1] at e1
        exact ⟨.pointer (some ⟨b, j * te.size + 0, none⟩), by simp [execOp, ho, e1, e2, hrun _ _ cap k j w hj, add_head], ⟨b, _, cap, g1, hj, rfl⟩, hid⟩
    · exact h.elim
  · rename_i q kk k n hx hi
    split at h
    · rename_i fr sz rows hq
      obtain ⟨rfl, j, rfl, hj, hj', h⟩ := h
      refine ⟨_, h, good_val fun N B M w0 ρ st a w hc hop hR => ?_⟩
      have hv := hc.eval x
      have hv' := (hc.eval i).1
      rw [hop x hopx, hx] at hv
      rw [hop i hopi, hi] at hv'
      have e2 := inv_int hv'
      obtain ⟨⟨A, n', c', e0, e1, e3⟩, hid⟩ := hv
      have hq' : st.H q = some (.arr fr te.size rows) := by rw [hR q (by simp)]; exact hq
      obtain ⟨hu, g⟩ := hc.arr hq'
      rcases g with ⟨_, g1⟩ | ⟨b, cap, cur, e, fz, g1, g2, g3, g4, g5, g6, g7, g8, g9⟩
      · rw [g1] at hj'; simp at hj'
      · rw [g1] at e0
        injection e0 with e01 e02 e03
        subst e01; subst e02; subst e03
        exact ⟨.pointer (some ⟨b, j * te.size + 0, none⟩), by simp [execOp, ho, e1, e2, hrun _ _ cap k j w hj, add_head], ⟨b, _, cap, g1, hj', rfl⟩, hid⟩
    · exact h.elim
  · exact h.elim
end
end Go.Sim
