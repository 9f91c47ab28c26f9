/- Operations that read memory. -/
import Derived.Test.YtehniaekfijmiaaSimD
namespace Go.Sim
open Go.RowKit
theorem cut_spec {α : Type} : ∀ {i n : Nat} {l xs : List α}, cut i n l = some xs → i + n ≤ l.length ∧ xs = (l.drop i).take n
  | 0, 0, l, xs, h => by simp [cut] at h; subst h; simp
  | 0, n + 1, [], xs, h => by simp [cut] at h
  | 0, n + 1, x :: r, xs, h => by
    simp only [cut, Option.map_eq_some_iff] at h
    obtain ⟨ys, h1, rfl⟩ := h
    obtain ⟨h2, rfl⟩ := cut_spec h1
    exact ⟨by simp; omega, by simp⟩
  | i + 1, n, [], xs, h => by simp [cut] at h
  | i + 1, n, x :: r, xs, h => by
    simp only [cut] at h
    obtain ⟨h2, rfl⟩ := cut_spec h
    exact ⟨by simp; omega, by simp⟩
theorem lay_spec {α : Type} : ∀ {i : Nat} {xs l l' : List α}, lay i xs l = some l' → i + xs.length ≤ l.length ∧ l' = l.take i ++ xs ++ l.drop (i + xs.length)
  | 0, [], l, l', h => by simp [lay] at h; subst h; simp
  | 0, x :: xs, [], l', h => by simp [lay] at h
  | 0, x :: xs, y :: r, l', h => by
    simp only [lay, Option.map_eq_some_iff] at h
    obtain ⟨ys, h1, rfl⟩ := h
    obtain ⟨h2, rfl⟩ := lay_spec h1
    exact ⟨by simp; omega, by simp⟩
  | i + 1, xs, [], l', h => by simp [lay] at h
  | i + 1, xs, y :: r, l', h => by
    simp only [lay, Option.map_eq_some_iff] at h
    obtain ⟨ys, h1, rfl⟩ := h
    obtain ⟨h2, rfl⟩ := lay_spec h1
    refine ⟨by simp; omega, ?_⟩
    rw [show i + 1 + xs.length = i + xs.length + 1 by omega]
    simp
section
variable {P : Program} {Γ : Env} {N B : Nat} {M : Nat → Prop} {w0 : Start} {ρ : Rho} {s : F_} {a : Act} {w : World} {o : Oper} {ev : Operand → AV} {H : Id → Option AO} {K : Eff → Prop}
theorem run_isAgg {t : TypeId} {d : TypeDesc} (h : P.underlying t = some d) : (isAgg t).run P w = .ok (dAgg d) w := by
  simp only [isAgg, Sem.run_bind, run_underlying h, Result.andThen_ok]
  cases d <;> rfl
theorem run_sizeOf {t : TypeId} {i : TypeInfo} (h : P.info? t = some i) : (sizeOf t).run P w = .ok i.size w := by simp [sizeOf, typeInfo, h]
theorem run_typeInfo {t : TypeId} {i : TypeInfo} (h : P.info? t = some i) : (typeInfo t).run P w = .ok i w := by simp [typeInfo, h]
theorem run_zeroValue {t : TypeId} {i : TypeInfo} {z : Value} (h : P.info? t = some i) (hz : i.zero = some z) : (zeroValue t).run P w = .ok z w := by simp [zeroValue, typeInfo, h, hz]
theorem run_loadAt_agg {T : TypeId} {ti : TI} {i : TypeInfo} {d : TypeDesc} (fit : ti.Fit P T i d) (ad : Addr) (us : List Value) (hcell : ∀ (p : Nat) (v : Value), us[p]? = some v → w.cell? (ad.add p) = some v)
    (ha : ti.agg = true) (hl : us.length = ti.size) : (Instr.loadAt T (.pointer (some ad))).run P w = .ok (.agg us.toArray) w := by
  have h1 := run_loadCells_list (P := P) w ad us hcell
  rw [hl, ← fit.size] at h1
  simp [Instr.loadAt, Instr.sureAddr, loadVar, run_isAgg fit.und, fit.agg, ha, run_sizeOf fit.info, h1]
theorem run_loadAt_one {T : TypeId} {ti : TI} {i : TypeInfo} {d : TypeDesc} (fit : ti.Fit P T i d) (ad : Addr) (u : Value) (hcell : w.cell? ad = some u)
    (ha : ti.agg = false) : (Instr.loadAt T (.pointer (some ad))).run P w = .ok u w := by
  simp [Instr.loadAt, Instr.sureAddr, loadVar, run_isAgg fit.und, fit.agg, ha, run_load, hcell]
theorem mkC_ok {fr : Bool} {ok : Nat → Prop} {v : Value} {t : Tr} (h : RT w (okF B ok fr) v t) : RC B ρ w ok v (mkC fr t) := by
  cases t with
  | lst sz rows =>
    cases fr with
    | true => exact h
    | false => exact RT.keep h okF_drop
  | int => exact RT.keep h okF_drop
  | bool => exact RT.keep h okF_drop
  | str => exact RT.keep h okF_drop
theorem RTs.toRCs {fr : Bool} : ∀ {w : World} {ok : Nat → Prop} {us : List Value} {ts : List Tr}, RTs w (okF B ok fr) us ts → RCs B ρ w ok us (ts.map (mkC fr))
  | _, _, [], [], _ => trivial
  | _, _, _ :: _, _ :: _, h => ⟨mkC_ok h.1, RTs.toRCs h.2⟩
  | _, _, [], _ :: _, h => h.elim
  | _, _, _ :: _, [], h => h.elim
theorem sound_load_at {T : TypeId} {x : Operand} {ti : TI} {i : TypeInfo} {d : TypeDesc} (fit : ti.Fit P T i d) (ho : o.op = .load T x) (hc : Conc N B M w0 ρ s a w)
    (ad : Addr) (us : List Value) (cs : List AC) (off : Nat) (hx : a.eval x = .pointer (some (ad.add off))) (hcell : ∀ (p : Nat) (v : Value), us[p]? = some v → w.cell? (ad.add p) = some v)
    (hr : RCs B ρ w (okB ρ s.H w) us cs) :
    (∀ ys, ti.agg = true → cut off ti.size cs = some ys → ∃ v, (execOp a.eval o).run P w = .ok (.value v) w ∧ RV B ρ w (okB ρ s.H w) v (.r (.agg ys))) ∧
    (∀ c, ti.agg = false → cut off 1 cs = some [c] → ∃ v, (execOp a.eval o).run P w = .ok (.value v) w ∧ RV B ρ w (okB ρ s.H w) v (.r (.c c))) := by
  have hl := hr.length
  refine ⟨fun ys ha hcut => ?_, fun c ha hcut => ?_⟩
  · obtain ⟨h1, rfl⟩ := cut_spec hcut
    refine ⟨.agg ((us.drop off).take ti.size).toArray, ?_, _, rfl, ?_⟩
    · have := run_loadAt_agg (w := w) fit (ad.add off) ((us.drop off).take ti.size) (fun p v hv => by
        rw [List.getElem?_take] at hv
        split at hv
        · rw [List.getElem?_drop] at hv; rw [add_add]; exact hcell _ v hv
        · cases hv) ha (by rw [List.length_take, List.length_drop]; omega)
      simp [execOp, ho, hx, this]
    · exact (hr.drop off).take ti.size
  · obtain ⟨h1, h2⟩ := cut_spec hcut
    have hc0 : cs[off]? = some c := by
      have : ((cs.drop off).take 1)[0]? = some c := by rw [← h2]; rfl
      simpa using this
    obtain ⟨u, hu, hru⟩ := hr.get off c hc0
    refine ⟨u, ?_, hru⟩
    have := run_loadAt_one (w := w) fit (ad.add off) u (hcell off u hu) ha
    simp [execOp, ho, hx, this]
theorem cut_map {α β : Type} {f : α → β} : ∀ {i n : Nat} {l xs : List α}, cut i n l = some xs → cut i n (l.map f) = some (xs.map f)
  | 0, 0, l, xs, h => by simp [cut] at h; subst h; simp [cut]
  | 0, n + 1, [], xs, h => by simp [cut] at h
  | 0, n + 1, x :: r, xs, h => by
    simp only [cut, Option.map_eq_some_iff] at h
    obtain ⟨ys, h1, rfl⟩ := h
    simp [cut, cut_map h1]
  | i + 1, n, [], xs, h => by simp [cut] at h
  | i + 1, n, x :: r, xs, h => by
    simp only [cut] at h
    simp [cut, cut_map h]
theorem mkC_ids (fr : Bool) (t : Tr) : (mkC fr t).ids = [] := by
  cases t <;> first | rfl | (cases fr <;> rfl)
theorem ids_map_t (fr : Bool) (cs : List Tr) : (cs.map (mkC fr)).flatMap AC.ids = [] := by
  induction cs with
  | nil => rfl
  | cons c cs ih => simp [List.flatMap_cons, ih, mkC_ids]
theorem ids_take_drop {U : Nat → Prop} {cs : List AC} (h : ∀ id ∈ cs.flatMap AC.ids, U id.1) (i n : Nat) : ∀ id ∈ ((cs.drop i).take n).flatMap AC.ids, U id.1 := by
  intro id hid
  rw [List.mem_flatMap] at hid
  obtain ⟨c, hc, hi⟩ := hid
  exact h id (List.mem_flatMap.2 ⟨c, List.mem_of_mem_drop (List.mem_of_mem_take hc), hi⟩)
theorem Conc.box (hc : Conc N B M w0 ρ s a w) {q : Id} {cells : List AC} (h : s.H q = some (.box cells)) : ∃ b us t fz, ρ q = .pointer (some ⟨b, 0, none⟩) ∧ w.heap[b]? = some (.cells us t fz) ∧ unfrozen us.size fz ∧
    RCs B ρ w (okB ρ s.H w) us.toList cells ∧ (∀ (p : Nat) (v : Value), us.toList[p]? = some v → w.cell? ((⟨b, 0, none⟩ : Addr).add p) = some v) := by
  obtain ⟨b, cur, t, fz, h1, h2, h3, h4⟩ := hc.obj q _ h
  refine ⟨b, cur, t, fz, h1, h2, h3, h4, fun p v hv => ?_⟩
  rw [add_head, cell_of_row w b p cur t fz h2]
  simpa using hv
theorem Conc.arr (hc : Conc N B M w0 ρ s a w) {q : Id} {fr : Bool} {sz : Nat} {rows : List (List Tr)} (h : s.H q = some (.arr fr sz rows)) : (∀ r ∈ rows, r.length = sz) ∧
    ((ρ q = .slice none 0 0 ∧ rows = []) ∨ ∃ b cap cur e fz, ρ q = .slice (some ⟨b, 0, none⟩) rows.length cap ∧ w.heap[b]? = some (.cells cur e fz) ∧ unfrozen cur.size fz ∧ rows.length ≤ cap ∧ cap ≤ maxLen ∧ cur.size = cap * sz ∧
      RTs w (okF B (okB ρ s.H w) fr) (cur.toList.take (rows.length * sz)) rows.flatten ∧ (∀ (p : Nat) (v : Value), (cur.toList.take (rows.length * sz))[p]? = some v → w.cell? ((⟨b, 0, none⟩ : Addr).add p) = some v) ∧ (fr = true → B ≤ b)) := by
  obtain ⟨hu, h⟩ := hc.obj q _ h
  refine ⟨hu, ?_⟩
  rcases h with h | ⟨b, cap, cur, e, fz, h1, h2, h3, h4, h5, h6, h7, h8⟩
  · exact .inl h
  · refine .inr ⟨b, cap, cur, e, fz, h1, h2, h3, h4, h5, h6, h7, fun p v hv => ?_, h8⟩
    rw [add_head, cell_of_row w b p cur e fz h2]
    rw [List.getElem?_take] at hv
    split at hv
    · simpa using hv
    · cases hv
theorem idEq_iff {a b : Id} : idEq a b = true ↔ a = b := by
  obtain ⟨x, y, z⟩ := a
  obtain ⟨x', y', z'⟩ := b
  simp [idEq]
theorem Conc.dar (hc : Conc N B M w0 ρ s a w) {q : Id} {sz : Nat} {rows : List (List DC)} {hole : Option (Nat × Nat × Id)} (h : s.H q = some (.dar sz rows hole)) : (∀ r ∈ rows, r.length = sz) ∧
    ((ρ q = .slice none 0 0 ∧ rows = [] ∧ hole = none) ∨ ∃ b cap cur e fz Fp, ρ q = .slice (some ⟨b, 0, none⟩) rows.length cap ∧ w.heap[b]? = some (.cells cur e fz) ∧ unfrozen cur.size fz ∧ rows.length ≤ cap ∧ cap ≤ maxLen ∧ cur.size = cap * sz ∧
      (∀ p c, Fp p c → ρ.fp q c ∧ c ≠ b) ∧ (∀ p q c, p ≠ q → Fp p c → ¬ Fp q c) ∧ RDs ρ w (okB ρ s.H w) sz hole Fp (cur.toList.take (rows.length * sz)) rows.flatten ∧
      (∀ (p : Nat) (v : Value), (cur.toList.take (rows.length * sz))[p]? = some v → w.cell? ((⟨b, 0, none⟩ : Addr).add p) = some v)) := by
  obtain ⟨hu, h⟩ := hc.obj q _ h
  refine ⟨hu, ?_⟩
  rcases h with h | ⟨b, cap, cur, e, fz, Fp, h1, h2, h3, h4, h5, h6, h7, h8, h9⟩
  · exact .inl h
  · refine .inr ⟨b, cap, cur, e, fz, Fp, h1, h2, h3, h4, h5, h6, h7, h8, h9, fun p v hv => ?_⟩
    rw [add_head, cell_of_row w b p cur e fz h2]
    rw [List.getElem?_take] at hv
    split at hv
    · simpa using hv
    · cases hv
theorem DC.ld_ok {ok F : Nat → Prop} {v : Value} {c : DC} (h : RD w ok F v c) : RC B ρ w ok v c.ld := by
  cases c with
  | t x => exact h
  | d x =>
    cases x with
    | lst sz rows => exact ⟨DT.one h, DT.cells1 h⟩
    | int k n => cases h; exact .int _ _
    | bool b => cases h; exact .bool _
    | str b => cases h; exact .str _
theorem DC.ld_ids (c : DC) : c.ld.ids = [] := by
  cases c with
  | t x => rfl
  | d x => cases x <;> rfl
theorem ids_map_ld (cs : List DC) : (cs.map DC.ld).flatMap AC.ids = [] := by
  induction cs with
  | nil => rfl
  | cons c cs ih => simp [List.flatMap_cons, ih, DC.ld_ids]
theorem dar_row {sz : Nat} {rows : List (List DC)} {us : List Value} {ok : Nat → Prop} {Fp : Nat → Nat → Prop} (hu : ∀ r ∈ rows, r.length = sz) (h : RDs ρ w ok sz none Fp us rows.flatten) (i : Nat) (row : List DC) (hr : rows[i]? = some row) :
    RCs B ρ w ok ((us.drop (i * sz)).take sz) (row.map DC.ld) ∧ ∀ off v c, ((us.drop (i * sz)).take sz)[off]? = some v → row[off]? = some c → us[i * sz + off]? = some v ∧ rows.flatten[i * sz + off]? = some c ∧ RD w ok (Fp (i * sz + off)) v c := by
  have hi : i < rows.length := by
    rcases Nat.lt_or_ge i rows.length with h' | h'
    · exact h'
    · rw [List.getElem?_eq_none h'] at hr; cases hr
  have hrl : row.length = sz := hu row (List.mem_of_getElem? hr)
  have hfl := flatten_length sz rows hu
  have hmul : i * sz + sz ≤ rows.length * sz := by have := Nat.mul_le_mul_right sz hi; rw [Nat.succ_mul] at this; omega
  have key : ∀ off v c, ((us.drop (i * sz)).take sz)[off]? = some v → row[off]? = some c → us[i * sz + off]? = some v ∧ rows.flatten[i * sz + off]? = some c ∧ RD w ok (Fp (i * sz + off)) v c := by
    intro off v c hv hc
    rw [List.getElem?_take] at hv
    split at hv
    · rename_i ho
      rw [List.getElem?_drop] at hv
      have hf := flatten_get sz rows i off row hu hr ho
      rw [hc] at hf
      have := h.2 _ v c hv hf
      simp only [holeAt] at this
      exact ⟨hv, hf, this⟩
    · cases hv
  refine ⟨?_, key⟩
  have hl : ((us.drop (i * sz)).take sz).length = row.length := by
    rw [List.length_take, List.length_drop, h.1, hfl]; omega
  have gen : ∀ (vs : List Value) (cs : List DC), vs.length = cs.length → (∀ (off : Nat) (v : Value) (c : DC), vs[off]? = some v → cs[off]? = some c → ∃ F, RD w ok F v c) → RCs B ρ w ok vs (cs.map DC.ld) := by
    intro vs
    induction vs with
    | nil => intro cs hl _; cases cs with
      | nil => trivial
      | cons => simp at hl
    | cons v vs ih => intro cs hl hh; cases cs with
      | nil => simp at hl
      | cons c cs =>
        obtain ⟨F, hF⟩ := hh 0 v c (by simp) (by simp)
        exact ⟨DC.ld_ok hF, ih cs (by simpa using hl) fun off v c hv hc => hh (off + 1) v c (by simpa using hv) (by simpa using hc)⟩
  exact gen _ _ hl fun off v c hv hc => ⟨_, (key off v c hv hc).2.2⟩
theorem DT.toArr {ok : Nat → Prop} {F : Nat → Prop} {v : Value} {sz : Nat} {rs : List (List Tr)} (h : DT w F v (.lst sz rs)) (hfl : flat rs) {n : Id} (hn : ρ n = v) : RO B ρ w ok n (.arr false sz rs) := by
  cases h with
  | nil => exact ⟨by simp, .inl ⟨hn, rfl⟩⟩
  | arr F b m cap sz cur e fz rows Fp hb hh hf hm h1 h2 h3 hu hl hp hd hrec =>
    subst hm
    refine ⟨hu, .inr ⟨b, cap, cur, e, fz, hn, hh, hf, h1, h2, h3, ?_, fun e => by cases e⟩⟩
    refine RTs.of hl fun p v u hv hu' => ?_
    have h4 := hrec p v u hv hu'
    obtain ⟨row, g1, g2⟩ := List.mem_flatten.1 (List.mem_of_getElem? hu')
    have h5 := hfl row g1 u g2
    cases h4 with
    | int => exact .int _ _
    | bool => exact .bool _
    | str => exact .str _
    | nil => exact absurd rfl (h5 _ _)
    | arr => exact absurd rfl (h5 _ _)
theorem deep_flatten (rs : List (List Tr)) : (deepRows rs).flatten = rs.flatten.map .d := by
  simp [deepRows, List.map_flatten]
theorem deep_len {rs : List (List Tr)} {sz : Nat} (h : ∀ r ∈ rs, r.length = sz) : ∀ r ∈ deepRows rs, r.length = sz := by
  intro r hr
  obtain ⟨x, h1, rfl⟩ := List.mem_map.1 hr
  simpa using h x h1
theorem DT.toDar {ok : Nat → Prop} {F : Nat → Prop} {v : Value} {sz : Nat} {rs : List (List Tr)} (h : DT w F v (.lst sz rs)) {n : Id} (hn : ρ n = v) (hF : ∀ c, F c → blk v ≠ some c → ρ.fp n c) : RO B ρ w ok n (.dar sz (deepRows rs) none) := by
  cases h with
  | nil => exact ⟨by simp [deepRows], .inl ⟨hn, rfl, rfl⟩⟩
  | arr F b m cap sz cur e fz rows Fp hb hh hf hm h1 h2 h3 hu hl hp hd hrec =>
    subst hm
    have hlen : (deepRows rs).length = rs.length := by simp [deepRows]
    refine ⟨deep_len hu, .inr ⟨b, cap, cur, e, fz, Fp, by rw [hlen]; exact hn, hh, hf, by rw [hlen]; exact h1, h2, h3, fun p c hc => ⟨hF c (hp p c hc).1 (fun e => (hp p c hc).2 (by simpa [blk] using e.symm)), (hp p c hc).2⟩, hd, ?_⟩⟩
    rw [hlen, deep_flatten]
    refine ⟨by rw [hl, List.length_map], fun p v c hv hc => ?_⟩
    simp only [holeAt]
    rw [List.getElem?_map, Option.map_eq_some_iff] at hc
    obtain ⟨u, hu', rfl⟩ := hc
    exact hrec p v u hv hu'
theorem DT.slice {F : Nat → Prop} {v : Value} {sz : Nat} {rs : List (List Tr)} (h : DT w F v (.lst sz rs)) : (∃ A n c, v = .slice A n c) ∧ ∀ b, blk v = some b → F b := by
  cases h with
  | nil => exact ⟨⟨_, _, _, rfl⟩, fun b hb => by cases hb⟩
  | arr F b m cap sz cur e fz rows Fp hb => exact ⟨⟨_, _, _, rfl⟩, fun c hc => by have : b = c := by simpa [blk] using hc
                                                                                  subst this; exact hb⟩
theorem Conc.open (hc : Conc N B M w0 ρ s a w) {q : Id} {sz : Nat} {rows : List (List DC)} (hq : s.H q = some (.dar sz rows none)) {i off t : Nat} {rs : List (List Tr)} {row : List DC} (hr : rows[i]? = some row) (hd0 : row[off]? = some (.d (.lst t rs)))
    {nm : Nat} (hU : ¬ s.U nm) {dst : Option Nat} (hd : ∀ d, dst = some d → d < N) {x : AO} (hx : x = .dar t (deepRows rs) none ∨ (flat rs ∧ x = .arr false t rs)) {v : Value}
    (hv : ∀ b cap cur e fz, ρ q = .slice (some ⟨b, 0, none⟩) rows.length cap → w.heap[b]? = some (.cells cur e fz) → (cur.toList.take (rows.length * sz))[i * sz + off]? = some v) (R : List Id) :
    ∃ ρ', Conc N B M w0 ρ' (s.app dst ⟨.r (.c (.own (nm, 0, 0))), [(q, some (.dar sz rows (some (i, off, (nm, 0, 0))))), ((nm, 0, 0), some x)], some nm, R⟩) (a.put dst v) w := by
  obtain ⟨hu, g⟩ := hc.dar hq
  have hi : i < rows.length := by
    rcases Nat.lt_or_ge i rows.length with h' | h'
    · exact h'
    · rw [List.getElem?_eq_none h'] at hr; cases hr
  rcases g with ⟨_, g, _⟩ | ⟨b, cap, cur, e, fz, Fp, g1, g2, g3, g4, g5, g6, g7, g8, g9, g10⟩
  · subst g; simp at hr
  have hv1 := hv b cap cur e fz g1 g2
  have ho : off < sz := by
    have h1 := hu row (List.mem_of_getElem? hr)
    rcases Nat.lt_or_ge off row.length with h' | h'
    · omega
    · rw [List.getElem?_eq_none h'] at hd0; cases hd0
  have hf := flatten_get sz rows i off row hu hr ho
  rw [hd0] at hf
  have hDT : DT w (Fp (i * sz + off)) v (.lst t rs) := by
    have := g9.2 _ v _ hv1 hf
    simp only [holeAt] at this
    exact this
  obtain ⟨⟨A, n1, c1, hsl⟩, hblk⟩ := hDT.slice
  have hqU : s.U q.1 := (hc.usedH q _ hq).1
  let n : Id := (nm, 0, 0)
  have hqn : q ≠ n := fun e => hU (by have : q.1 = nm := by rw [e]
                                      rw [← this]; exact hqU)
  let ρ' : Rho := ⟨fun o => if o.1 = nm then v else ρ o, fun o c => if o = n then Fp (i * sz + off) c else if o = q then ρ.fp q c ∧ ¬ Fp (i * sz + off) c else ρ.fp o c, ρ.al⟩
  have hρ : ∀ o : Id, s.U o.1 → ρ' o = ρ o := fun o h => by
    show (if o.1 = nm then v else ρ o) = ρ o
    exact if_neg (fun e : o.1 = nm => hU (by rw [← e]; exact h))
  have hn : ρ' n = v := by show (if nm = nm then v else _) = v; simp
  have hfn : ∀ c, ρ'.fp n c ↔ Fp (i * sz + off) c := fun c => by show (if n = n then _ else _) ↔ _; simp
  have hfq : ∀ c, ρ'.fp q c ↔ (ρ.fp q c ∧ ¬ Fp (i * sz + off) c) := fun c => by show (if q = n then _ else if q = q then _ else _) ↔ _; simp [hqn]
  have ownn : ∀ c, Own ρ' n c → Fp (i * sz + off) c := fun c hc' => hc'.elim (fun h => hblk c (by rwa [hn] at h)) (hfn c).1
  have ownq : ∀ c, Own ρ' q c → Own ρ q c ∧ ¬ Fp (i * sz + off) c := fun c hc' => hc'.elim (fun h => by
    rw [hρ q hqU] at h
    refine ⟨.inl h, fun hF => ?_⟩
    rw [g1] at h
    have : b = c := by simpa [blk] using h
    exact (g7 _ c hF).2 this.symm) fun h => ⟨.inr ((hfq c).1 h).1, ((hfq c).1 h).2⟩
  have hUpd : ∀ o, updH s.H [(q, some (.dar sz rows (some (i, off, n)))), (n, some x)] o = if o = n then some x else if o = q then some (.dar sz rows (some (i, off, n))) else s.H o := by
    intro o; simp only [updH]
  refine ⟨ρ', ?_⟩
  have := hc.step (fun _ => False) [q, n] (w' := w) (ρ' := ρ') (H' := updH s.H [(q, some (.dar sz rows (some (i, off, n)))), (n, some x)]) (U' := fun m => s.U m ∨ m = nm) (a' := a.put dst v) (L' := putL s.L dst (.r (.c (.own n)))) (Turn.refl _ _)
    (by rw [put_size]; exact hc.size) (by rw [put_defers]; exact hc.defers) hρ
    (fun o x' h1 h2 => by
      simp only [List.mem_cons, List.not_mem_nil, or_false, not_or] at h1
      funext c
      show (if o = n then _ else if o = q then _ else ρ.fp o c) = _
      rw [if_neg h1.2, if_neg h1.1]) rfl
    (fun o h1 => by
      simp only [List.mem_cons, List.not_mem_nil, or_false, not_or] at h1
      rw [hUpd, if_neg h1.2, if_neg h1.1])
    (fun m hm => .inl hm) (fun _ _ h => h) (fun _ _ _ _ _ _ h => h) (fun _ _ _ h => h)
    (fun o x' c h1 h2 h3 => by
      have hq3 : Own ρ q c := by
        simp only [List.mem_cons, List.not_mem_nil, or_false] at h1
        rcases h1 with rfl | rfl
        · exact (ownq c h3).1
        · exact .inr (g7 _ c (ownn c h3)).1
      have := hc.rng q _ c hq hq3
      exact ⟨this.1, this.2, .inr ⟨q, _, hq, by simp, hq3⟩⟩)
    (fun o o' x1 x2 c h1 h2 h3 h4 hne h5 h6 => by
      simp only [List.mem_cons, List.not_mem_nil, or_false] at h1 h2
      rcases h1 with rfl | rfl
      · rcases h2 with rfl | rfl
        · exact hne rfl
        · exact (ownq c h5).2 (ownn c h6)
      · rcases h2 with rfl | rfl
        · exact (ownq c h6).2 (ownn c h5)
        · exact hne rfl)
    (fun hk o x' h1 h2 => by
      rw [hUpd] at h2
      simp only [List.mem_cons, List.not_mem_nil, or_false] at h1
      rcases h1 with rfl | rfl
      · rw [if_neg hqn, if_pos rfl] at h2
        injection h2 with h2; subst h2
        refine ⟨⟨hu, .inr ⟨b, cap, cur, e, fz, fun p c => p ≠ i * sz + off ∧ Fp p c, by rw [hρ _ hqU]; exact g1, g2, g3, g4, g5, g6, fun p c hc' => ⟨(hfq c).2 ⟨(g7 p c hc'.2).1, g8 p _ c hc'.1 hc'.2⟩, (g7 p c hc'.2).2⟩, fun p p' c hne h1 h2 => g8 p p' c hne h1.2 h2.2, g9.1, fun p u c hu' hc' => ?_⟩⟩, .inl hqU, ?_⟩
        · simp only [holeAt]
          by_cases hp : p = i * sz + off
          · rw [if_pos hp]
            subst hp
            have huv : u = v := by rw [hv1] at hu'; injection hu' with hu'; exact hu'.symm
            subst huv
            exact ⟨hn.symm, hDT.one, hDT.cells1⟩
          · rw [if_neg hp]
            have := g9.2 p u c hu' hc'
            simp only [holeAt] at this
            exact this.keep hk fun b' hb' => ⟨rfl, hp, hb'⟩
        · intro o' ho'
          have : o' = n := by simpa [AO.ids] using ho'
          subst this
          exact .inr rfl
      · rw [if_pos rfl] at h2
        injection h2 with h2; subst h2
        refine ⟨?_, .inr rfl, ?_⟩
        · rcases hx with rfl | ⟨h3, rfl⟩
          · exact hDT.toDar hn fun c hc' _ => (hfn c).2 hc'
          · exact hDT.toArr h3 hn
        · rcases hx with rfl | ⟨h3, rfl⟩ <;> simp [AO.ids])
    (fun hk j => hc.slots hd (U' := fun m => s.U m ∨ m = nm) (av := .r (.c (.own n))) (v := v) ⟨⟨A, n1, c1, hn.trans hsl⟩, hn.symm⟩ (fun id hid => by
      have : id = n := by simpa [AV.ids, AR.ids, AC.ids] using hid
      subst this; exact .inr rfl) j)
  exact this.congr (fun _ => rfl) (fun _ => rfl) (fun m => by simp [F_.app, eq_comm])
theorem arr_row {sz : Nat} {rows : List (List Tr)} {us : List Value} {ok : Nat → Prop} (hu : ∀ r ∈ rows, r.length = sz) (ht : RTs w ok us rows.flatten) (i : Nat) (row : List Tr) (hr : rows[i]? = some row) :
    RTs w ok ((us.drop (i * sz)).take sz) row := by
  have hi : i < rows.length := by
    rcases Nat.lt_or_ge i rows.length with h' | h'
    · exact h'
    · rw [List.getElem?_eq_none h'] at hr; cases hr
  have hrl : row.length = sz := hu row (List.mem_of_getElem? hr)
  have hd := flatten_drop sz rows i hu (by omega)
  rw [List.drop_eq_getElem_cons hi] at hd
  have hrow : rows[i] = row := by rw [List.getElem?_eq_getElem hi] at hr; simpa using hr
  rw [hrow, List.flatten_cons] at hd
  have := (ht.drop (i * sz)).take sz
  rw [hd, List.take_append_of_le_length (by omega), List.take_of_length_le (show row.length ≤ sz by omega)] at this
  exact this
theorem sound_load {T : TypeId} {x : Operand} {ti : TI} (hΓ : Γ.chk P = true) (hT : Γ.get T = some ti) (ho : o.op = .load T x) {deep : Bool} {nm : Nat} (h : semLoad deep nm ti (ev x) H K) : ∃ e, K e ∧ Good P o ev H e := by
  obtain ⟨i, d, fit⟩ := Env.fit hΓ hT
  have hopx : x ∈ o.op.operands.toList := by simp [ho, Op.operands]
  unfold semLoad at h
  split at h
  · rename_i q off hx
    split at h
    · rename_i cells hq
      have base : ∀ (N B : Nat) (M : Nat → Prop) (w0 : Start) (ρ : Rho) (s : F_) (a : Act) (w : World), Conc N B M w0 ρ s a w → (∀ x ∈ o.op.operands.toList, evL s.L x = ev x) → (∀ id ∈ [q], s.H id = H id) →
          s.H q = some (.box cells) ∧ ∃ ad us, a.eval x = .pointer (some (Addr.add ad off)) ∧ (∀ (p : Nat) (v : Value), us[p]? = some v → w.cell? (ad.add p) = some v) ∧ RCs B ρ w (okB ρ s.H w) us cells := by
        intro N B M w0 ρ s a w hc hop hR
        have hq' : s.H q = some (.box cells) := by rw [hR q (by simp)]; exact hq
        obtain ⟨b, us, t, fz, g1, g2, g3, g4, g5⟩ := hc.box hq'
        have hv := (hc.eval x).1
        rw [hop x hopx, hx] at hv
        obtain ⟨b', e1, e2⟩ := hv
        rw [g1] at e1
        injection e1 with e1; injection e1 with e1; injection e1 with e1
        subst e1
        exact ⟨hq', ⟨b, 0, none⟩, us.toList, by rw [add_head]; exact e2, g5, g4⟩
      split at h
      · rename_i hagg
        split at h
        · rename_i cs hcut
          refine ⟨_, h, good_val fun N B M w0 ρ s a w hc hop hR => ?_⟩
          obtain ⟨hq', ad, us, e1, e2, e3⟩ := base N B M w0 ρ s a w hc hop hR
          obtain ⟨v, r1, r2⟩ := (sound_load_at fit ho hc ad us cells off e1 e2 e3).1 cs hagg hcut
          refine ⟨v, r1, r2, ?_⟩
          obtain ⟨_, rfl⟩ := cut_spec hcut
          exact ids_take_drop (U := s.U) (hc.usedH q _ hq').2 off ti.size
        · exact h.elim
      · rename_i hagg
        split at h
        · rename_i c hcut
          refine ⟨_, h, good_val fun N B M w0 ρ s a w hc hop hR => ?_⟩
          obtain ⟨hq', ad, us, e1, e2, e3⟩ := base N B M w0 ρ s a w hc hop hR
          obtain ⟨v, r1, r2⟩ := (sound_load_at fit ho hc ad us cells off e1 e2 e3).2 c hagg hcut
          refine ⟨v, r1, r2, ?_⟩
          obtain ⟨_, hh⟩ := cut_spec hcut
          have := ids_take_drop (U := s.U) (hc.usedH q _ hq').2 off 1
          rw [← hh] at this
          intro id hid
          exact this id (List.mem_flatMap.2 ⟨c, by simp, hid⟩)
        · exact h.elim
    · exact h.elim
  · rename_i q sz i' off hx
    split at h
    · rename_i fr sz' rows hq
      obtain ⟨hsz, row, hrow, h⟩ := h
      subst hsz
      have base : ∀ (N B : Nat) (M : Nat → Prop) (w0 : Start) (ρ : Rho) (s : F_) (a : Act) (w : World), Conc N B M w0 ρ s a w → (∀ x ∈ o.op.operands.toList, evL s.L x = ev x) → (∀ id ∈ [q], s.H id = H id) →
          ∃ ad us, a.eval x = .pointer (some (Addr.add ad off)) ∧ (∀ (p : Nat) (v : Value), us[p]? = some v → w.cell? (ad.add p) = some v) ∧ RCs B ρ w (okB ρ s.H w) us (row.map (mkC fr)) := by
        intro N B M w0 ρ s a w hc hop hR
        have hq' : s.H q = some (.arr fr sz' rows) := by rw [hR q (by simp)]; exact hq
        have hv := (hc.eval x).1
        rw [hop x hopx, hx] at hv
        obtain ⟨b', n, c, e1, e2, e3⟩ := hv
        obtain ⟨hu, g⟩ := hc.arr hq'
        rcases g with ⟨g1, _⟩ | ⟨b, cap, cur, e, fz, g1, g2, g3, g4, g5, g6, g7, g8, g9⟩
        · rw [g1] at e1; injection e1 with e1; cases e1
        · rw [g1] at e1
          injection e1 with e1; injection e1 with e1; injection e1 with e1
          subst e1
          refine ⟨⟨b, i' * sz', none⟩, ((cur.toList.take (rows.length * sz')).drop (i' * sz')).take sz', by rw [add_mid]; exact e3, fun p v hv => ?_, (arr_row hu g7 i' row hrow).toRCs⟩
          rw [List.getElem?_take] at hv
          split at hv
          · rw [List.getElem?_drop] at hv
            rw [add_mid, ← add_head]; exact g8 _ v hv
          · cases hv
      split at h
      · rename_i hagg
        split at h
        · rename_i cs hcut
          refine ⟨_, h, good_val fun N B M w0 ρ s a w hc hop hR => ?_⟩
          obtain ⟨ad, us, e1, e2, e3⟩ := base N B M w0 ρ s a w hc hop hR
          obtain ⟨v, r1, r2⟩ := (sound_load_at fit ho hc ad us _ off e1 e2 e3).1 (cs.map (mkC fr)) hagg (cut_map hcut)
          exact ⟨v, r1, r2, by simp [AV.ids, AR.ids, ids_map_t]⟩
        · exact h.elim
      · rename_i hagg
        split at h
        · rename_i c hcut
          refine ⟨_, h, good_val fun N B M w0 ρ s a w hc hop hR => ?_⟩
          obtain ⟨ad, us, e1, e2, e3⟩ := base N B M w0 ρ s a w hc hop hR
          obtain ⟨v, r1, r2⟩ := (sound_load_at fit ho hc ad us _ off e1 e2 e3).2 (mkC fr c) hagg (cut_map hcut)
          exact ⟨v, r1, r2, by simp [AV.ids, AR.ids, mkC_ids]⟩
        · exact h.elim
    · rename_i sz' rows hq
      obtain ⟨hsz, row, hrow, h⟩ := h
      subst hsz
      have base : ∀ (N B : Nat) (M : Nat → Prop) (w0 : Start) (ρ : Rho) (s : F_) (a : Act) (w : World), Conc N B M w0 ρ s a w → (∀ x ∈ o.op.operands.toList, evL s.L x = ev x) → (∀ id ∈ [q], s.H id = H id) →
          s.H q = some (.dar sz' rows none) ∧ ∃ b cap cur e fz, ρ q = .slice (some ⟨b, 0, none⟩) rows.length cap ∧ w.heap[b]? = some (.cells cur e fz) ∧ a.eval x = .pointer (some (Addr.add ⟨b, i' * sz', none⟩ off)) ∧
            (∀ (p : Nat) (v : Value), ((cur.toList.take (rows.length * sz')).drop (i' * sz') |>.take sz')[p]? = some v → w.cell? ((⟨b, i' * sz', none⟩ : Addr).add p) = some v) ∧
            RCs B ρ w (okB ρ s.H w) ((cur.toList.take (rows.length * sz')).drop (i' * sz') |>.take sz') (row.map DC.ld) := by
        intro N B M w0 ρ s a w hc hop hR
        have hq' : s.H q = some (.dar sz' rows none) := by rw [hR q (by simp)]; exact hq
        have hv := (hc.eval x).1
        rw [hop x hopx, hx] at hv
        obtain ⟨b', n, c, e1, e2, e3⟩ := hv
        obtain ⟨hu, g⟩ := hc.dar hq'
        rcases g with ⟨g1, _⟩ | ⟨b, cap, cur, e, fz, Fp, g1, g2, g3, g4, g5, g6, g7, g8, g9, g10⟩
        · rw [g1] at e1; injection e1 with e1; cases e1
        · rw [g1] at e1
          injection e1 with e1; injection e1 with e1; injection e1 with e1
          subst e1
          refine ⟨hq', b, cap, cur, e, fz, g1, g2, by rw [add_mid]; exact e3, fun p v hv => ?_, (dar_row (B := B) hu g9 i' row hrow).1⟩
          rw [List.getElem?_take] at hv
          split at hv
          · rw [List.getElem?_drop] at hv
            rw [add_mid, ← add_head]; exact g10 _ v hv
          · cases hv
      split at h
      · rename_i hagg
        split at h
        · rename_i cs hcut
          refine ⟨_, h, good_val fun N B M w0 ρ s a w hc hop hR => ?_⟩
          obtain ⟨_, b, cap, cur, e, fz, _, _, e1, e2, e3⟩ := base N B M w0 ρ s a w hc hop hR
          obtain ⟨v, r1, r2⟩ := (sound_load_at fit ho hc _ _ _ off e1 e2 e3).1 (cs.map DC.ld) hagg (cut_map hcut)
          exact ⟨v, r1, r2, by simp [AV.ids, AR.ids, ids_map_ld]⟩
        · exact h.elim
      · rename_i hagg
        have opens : ∀ (t : Nat) (rs : List (List Tr)) (x' : AO), cut off 1 row = some [.d (.lst t rs)] → (x' = .dar t (deepRows rs) none ∨ (flat rs ∧ x' = .arr false t rs)) →
            Good P o ev H ⟨.r (.c (.own (nm, 0, 0))), [(q, some (.dar sz' rows (some (i', off, (nm, 0, 0))))), ((nm, 0, 0), some x')], some nm, [q]⟩ := by
          intro t rs x' hcut hx' N B M w0 ρ s a w Q K hc hop hR hn hd hK
          obtain ⟨hq', b, cap, cur, e, fz, k1, k2, e1, e2, e3⟩ := base N B M w0 ρ s a w hc hop hR
          obtain ⟨v, r1, r2⟩ := (sound_load_at fit ho hc _ _ _ off e1 e2 e3).2 (DC.ld (.d (.lst t rs))) hagg (cut_map hcut)
          obtain ⟨h1, h2⟩ := cut_spec hcut
          have hro : row[off]? = some (.d (.lst t rs)) := by
            have : ((row.drop off).take 1)[0]? = some (.d (.lst t rs)) := by rw [← h2]; rfl
            simpa using this
          have hu := (hc.dar hq').1
          have hrl := hu row (List.mem_of_getElem? hrow)
          have hvat : ((cur.toList.take (rows.length * sz')).drop (i' * sz') |>.take sz')[off]? = some v := by
            have hl := e3.length
            have hlt : off < ((cur.toList.take (rows.length * sz')).drop (i' * sz') |>.take sz').length := by rw [hl, List.length_map]; omega
            rw [List.getElem?_eq_getElem hlt]
            have hcell := e2 off _ (List.getElem?_eq_getElem hlt)
            have hrun := run_loadAt_one (w := w) fit (Addr.add ⟨b, i' * sz', none⟩ off) _ hcell hagg
            simp only [execOp, ho, e1, Sem.run_bind, hrun, Result.andThen_ok, Sem.run_pure, Result.ok.injEq, and_true] at r1
            first | (injection r1 with r1; rw [r1]) | simp_all
          obtain ⟨ρ', h'⟩ := hc.open hq' hrow hro (hn nm rfl) hd hx' (v := v) (fun b' cap' cur' e' fz' m1 m2 => by
            rw [k1] at m1
            injection m1 with m1 m3 m4
            injection m1 with m1; injection m1 with m1
            subst m1
            rw [k2] at m2
            injection m2 with m2; injection m2 with m2
            subst m2
            rw [List.getElem?_take] at hvat
            split at hvat
            · rwa [List.getElem?_drop] at hvat
            · cases hvat) [q]
          unfold Oper.wp
          rw [r1]
          exact hK v w ρ' h'
        split at h
        · rename_i t rs hcut
          split at h
          · exact ⟨_, h, opens t rs _ hcut (.inl rfl)⟩
          · exact ⟨_, h.2, opens t rs _ hcut (.inr ⟨h.1, rfl⟩)⟩
        · rename_i c _ hcut
          refine ⟨_, h, good_val fun N B M w0 ρ s a w hc hop hR => ?_⟩
          obtain ⟨_, b, cap, cur, e, fz, _, _, e1, e2, e3⟩ := base N B M w0 ρ s a w hc hop hR
          obtain ⟨v, r1, r2⟩ := (sound_load_at fit ho hc _ _ _ off e1 e2 e3).2 c.ld hagg (cut_map hcut)
          exact ⟨v, r1, r2, by simp [AV.ids, AR.ids, DC.ld_ids]⟩
        · exact h.elim
    · exact h.elim
  · rename_i fr row off hx
    have base : ∀ (N B : Nat) (M : Nat → Prop) (w0 : Start) (ρ : Rho) (s : F_) (a : Act) (w : World), Conc N B M w0 ρ s a w → (∀ x ∈ o.op.operands.toList, evL s.L x = ev x) →
          ∃ ad us, a.eval x = .pointer (some (Addr.add ad off)) ∧ (∀ (p : Nat) (v : Value), us[p]? = some v → w.cell? (ad.add p) = some v) ∧ RCs B ρ w (okB ρ s.H w) us (row.map (mkC fr)) := by
      intro N B M w0 ρ s a w hc hop
      have hv := (hc.eval x).1
      rw [hop x hopx, hx] at hv
      obtain ⟨ad, us, e1, e2, e3, e4, e5⟩ := hv
      exact ⟨ad, us, e1, e4, e5.toRCs⟩
    split at h
    · rename_i hagg
      split at h
      · rename_i cs hcut
        refine ⟨_, h, good_val fun N B M w0 ρ s a w hc hop hR => ?_⟩
        obtain ⟨ad, us, e1, e2, e3⟩ := base N B M w0 ρ s a w hc hop
        obtain ⟨v, r1, r2⟩ := (sound_load_at fit ho hc ad us _ off e1 e2 e3).1 (cs.map (mkC fr)) hagg (cut_map hcut)
        exact ⟨v, r1, r2, by simp [AV.ids, AR.ids, ids_map_t]⟩
      · exact h.elim
    · rename_i hagg
      split at h
      · rename_i c hcut
        refine ⟨_, h, good_val fun N B M w0 ρ s a w hc hop hR => ?_⟩
        obtain ⟨ad, us, e1, e2, e3⟩ := base N B M w0 ρ s a w hc hop
        obtain ⟨v, r1, r2⟩ := (sound_load_at fit ho hc ad us _ off e1 e2 e3).2 (mkC fr c) hagg (cut_map hcut)
        exact ⟨v, r1, r2, by simp [AV.ids, AR.ids, mkC_ids]⟩
      · exact h.elim
  · exact h.elim
theorem sound_fieldAddr {T : TypeId} {x : Operand} {f off sz : Nat} {ft : TypeId} {ti : TI} {KV : AV → Prop} (hΓ : Γ.chk P = true) (hT : Γ.get T = some ti) (hf : ti.fields[f]? = some (off, sz, ft)) (ho : o.op = .fieldAddr T x f) (h : semFieldAddr off (ev x) KV) :
    ∃ v, KV v ∧ Good P o ev H (.val v []) := by
  obtain ⟨i, d, fit⟩ := Env.fit hΓ hT
  have hopx : x ∈ o.op.operands.toList := by simp [ho, Op.operands]
  obtain ⟨fs, F, rfl, h1, h2, _, h3', h4', _⟩ := fit.field hf
  have h3 : P.cellsOf F.type ≠ 0 := by rw [h3']; exact h4'
  have hrun : ∀ (ad : Addr) (w : World), (Instr.fieldAt T (.pointer (some ad)) f).run P w = .ok (.pointer (some (ad.add off))) w := by
    intro ad w
    unfold Program.cellsOf at h3
    cases hi : P.info? F.type with
    | none => rw [hi] at h3; simp at h3
    | some j =>
      rw [hi] at h3
      simp at h3
      simp [Instr.fieldAt, run_underlying fit.und, h1, Instr.sureAddr, fieldPlace, run_sizeOf hi, h3, h2]
  unfold semFieldAddr at h
  split at h
  · rename_i q k hx
    refine ⟨_, h, good_val fun N B M w0 ρ s a w hc hop hR => ?_⟩
    have hv := hc.eval x
    rw [hop x hopx, hx] at hv
    obtain ⟨⟨b, e1, e2⟩, hi⟩ := hv
    exact ⟨.pointer (some ⟨b, k + off, none⟩), by simp [execOp, ho, e2, hrun, add_mid], ⟨b, e1, rfl⟩, hi⟩
  · rename_i q sz j k hx
    refine ⟨_, h, good_val fun N B M w0 ρ s a w hc hop hR => ?_⟩
    have hv := hc.eval x
    rw [hop x hopx, hx] at hv
    obtain ⟨⟨b, n, c, e1, e2, e3⟩, hi⟩ := hv
    exact ⟨.pointer (some ⟨b, j * sz + (k + off), none⟩), by simp [execOp, ho, e3, hrun, add_mid, Nat.add_assoc], ⟨b, n, c, e1, e2, rfl⟩, hi⟩
  · rename_i fr row k hx
    refine ⟨_, h, good_val fun N B M w0 ρ s a w hc hop hR => ?_⟩
    have hv := hc.eval x
    rw [hop x hopx, hx] at hv
    obtain ⟨⟨ad, us, e1, e2, e3⟩, hi⟩ := hv
    exact ⟨.pointer (some (ad.add (k + off))), by simp [execOp, ho, e1, hrun, add_add], ⟨ad, us, rfl, e2, e3⟩, by simp [AV.ids]⟩
  · exact h.elim
theorem sound_index {T : TypeId} {x i : Operand} {ti : TI} {KV : AV → Prop} (hΓ : Γ.chk P = true) (hT : Γ.get T = some ti) (hs : ti.str = true) (ho : o.op = .index T x i) (h : semIndex (ev x) (ev i) KV) :
    ∃ v, KV v ∧ Good P o ev H (.val v []) := by
  obtain ⟨ii, d, fit⟩ := Env.fit hΓ hT
  have hopx : x ∈ o.op.operands.toList := by simp [ho, Op.operands]
  have hopi : i ∈ o.op.operands.toList := by simp [ho, Op.operands]
  have hd : d = .string := by have := fit.str; rw [hs] at this; cases d <;> simp [dStr] at this ⊢
  subst hd
  unfold semIndex at h
  split at h
  · rename_i s k n hx hi
    obtain ⟨j, b, rfl, hb, h⟩ := h
    refine ⟨_, h, good_val fun N B M w0 ρ st a w hc hop hR => ?_⟩
    have hv := (hc.eval x).1
    have hv' := (hc.eval i).1
    rw [hop x hopx, hx] at hv
    rw [hop i hopi, hi] at hv'
    have e1 := inv_str hv
    have e2 := inv_int hv'
    have hlt : j < s.length := by
      rcases Nat.lt_or_ge j s.length with h' | h'
      · exact h'
      · rw [List.getElem?_eq_none h'] at hb; cases hb
    have hg : (⟨s.toArray⟩ : ByteArray)[j]? = some b := by
      rw [← hb]
      have hsz : (⟨s.toArray⟩ : ByteArray).size = s.length := by simp [ByteArray.size]
      rw [getElem?_pos (⟨s.toArray⟩ : ByteArray) j (by omega), List.getElem?_eq_getElem hlt]
      rfl
    refine ⟨.int .u8 b.toNat, ?_, .int _ _, by simp [AV.ids, AR.ids, AC.ids]⟩
    simp [execOp, ho, e1, e2, Instr.index, asIntOf, run_underlying fit.und, hg]
  · exact h.elim
theorem sound_indexAddr {T e : TypeId} {x i : Operand} {ti te : TI} (hΓ : Γ.chk P = true) (hT : Γ.get T = some ti) (he : ti.elem = some e) (hE : Γ.get e = some te) (ho : o.op = .indexAddr T x i) (h : semIndexAddr te.size (ev x) (ev i) H K) :
    ∃ ef, K ef ∧ Good P o ev H ef := by
  obtain ⟨ii, d, fit⟩ := Env.fit hΓ hT
  obtain ⟨ie, de, fite⟩ := Env.fit hΓ hE
  have hopx : x ∈ o.op.operands.toList := by simp [ho, Op.operands]
  have hopi : i ∈ o.op.operands.toList := by simp [ho, Op.operands]
  have hd : d = .slice e := by
    have := fit.elem; rw [he] at this
    cases d <;> simp [dElem] at this
    rw [this]
  subst hd
  have hrun : ∀ (ad : Addr) (n c : Nat) (k : IntKind) (j : Nat) (w : World), j < n → (Instr.indexAt T (.slice (some ad) n c) (.int k (j : Int))).run P w = .ok (.pointer (some (ad.add (j * te.size)))) w := by
    intro ad n c k j w hj
    simp [Instr.indexAt, asIntOf, run_underlying fit.und, run_sizeOf fite.info, fite.size, hj]
  unfold semIndexAddr at h
  split at h
  · rename_i sz rows k n hx hi
    obtain ⟨rfl, j, row, rfl, hr, h⟩ := h
    refine ⟨_, h, good_val fun N B M w0 ρ st a w hc hop hR => ?_⟩
    have hv := (hc.eval x).1
    have hv' := (hc.eval i).1
    rw [hop x hopx, hx] at hv
    rw [hop i hopi, hi] at hv'
    have e2 := inv_int hv'
    have hv : RT w (okB ρ st.H w) (a.eval x) (.lst te.size rows) := hv
    obtain ⟨A, c, e1, hc1, hc2, hu, _⟩ := hv.slice_inv
    rw [e1] at hv
    obtain ⟨ad, us, rfl, g1, g2, g3, g4, g5, g6⟩ := hv.row j row hr
    refine ⟨.pointer (some (ad.add (j * te.size))), by simp [execOp, ho, e1, e2, hrun ad _ c k j w g3], ⟨ad.add (j * te.size), us, by rw [add_zero'], ⟨by rw [add_block]; exact g1, fun h => by cases h⟩, g4, g5, g6.keep fun b hb => ⟨rfl, hb, fun h => by cases h⟩⟩, by simp [AV.ids]⟩
  · rename_i sz rows k n hx hi
    obtain ⟨rfl, j, row, rfl, hr, h⟩ := h
    refine ⟨_, h, good_val fun N B M w0 ρ st a w hc hop hR => ?_⟩
    have hv := (hc.eval x).1
    have hv' := (hc.eval i).1
    rw [hop x hopx, hx] at hv
    rw [hop i hopi, hi] at hv'
    have e2 := inv_int hv'
    have hv : RT w (okF B (okB ρ st.H w) true) (a.eval x) (.lst te.size rows) := hv
    obtain ⟨A, c, e1, hc1, hc2, hu, _⟩ := hv.slice_inv
    rw [e1] at hv
    obtain ⟨ad, us, rfl, g1, g2, g3, g4, g5, g6⟩ := hv.row j row hr
    refine ⟨.pointer (some (ad.add (j * te.size))), by simp [execOp, ho, e1, e2, hrun ad _ c k j w g3], ⟨ad.add (j * te.size), us, by rw [add_zero'], by rw [add_block]; exact g1, g4, g5, g6⟩, by simp [AV.ids]⟩
  · rename_i q k n hx hi
    split at h
    · rename_i fr sz rows hq
      obtain ⟨rfl, j, rfl, hj, h⟩ := h
      refine ⟨_, h, good_val fun N B M w0 ρ st a w hc hop hR => ?_⟩
      have hv := hc.eval x
      have hv' := (hc.eval i).1
      rw [hop x hopx, hx] at hv
      rw [hop i hopi, hi] at hv'
      have e2 := inv_int hv'
      obtain ⟨⟨_, e1⟩, hid⟩ := hv
      have hq' : st.H q = some (.arr fr te.size rows) := by rw [hR q (by simp)]; exact hq
      obtain ⟨hu, g⟩ := hc.arr hq'
      rcases g with ⟨_, g1⟩ | ⟨b, cap, cur, e, fz, g1, g2, g3, g4, g5, g6, g7, g8, g9⟩
      · rw [g1] at hj; simp at hj
      · rw [g1] at e1
        exact ⟨.pointer (some ⟨b, j * te.size + 0, none⟩), by simp [execOp, ho, e1, e2, hrun _ _ cap k j w hj, add_head], ⟨b, _, cap, g1, hj, rfl⟩, hid⟩
    · rename_i sz rows hole hq
      obtain ⟨rfl, j, rfl, hj, h⟩ := h
      refine ⟨_, h, good_val fun N B M w0 ρ st a w hc hop hR => ?_⟩
      have hv := hc.eval x
      have hv' := (hc.eval i).1
      rw [hop x hopx, hx] at hv
      rw [hop i hopi, hi] at hv'
      have e2 := inv_int hv'
      obtain ⟨⟨_, e1⟩, hid⟩ := hv
      have hq' : st.H q = some (.dar te.size rows hole) := by rw [hR q (by simp)]; exact hq
      obtain ⟨hu, g⟩ := hc.dar hq'
      rcases g with ⟨_, g1, _⟩ | ⟨b, cap, cur, e, fz, Fp, g1, _⟩
      · rw [g1] at hj; simp at hj
      · rw [g1] at e1
        exact ⟨.pointer (some ⟨b, j * te.size + 0, none⟩), by simp [execOp, ho, e1, e2, hrun _ _ cap k j w hj, add_head], ⟨b, _, cap, g1, hj, rfl⟩, hid⟩
    · exact h.elim
  · rename_i q kk k n hx hi
    split at h
    · rename_i fr sz rows hq
      obtain ⟨rfl, j, rfl, hj, hj', h⟩ := h
      refine ⟨_, h, good_val fun N B M w0 ρ st a w hc hop hR => ?_⟩
      have hv := hc.eval x
      have hv' := (hc.eval i).1
      rw [hop x hopx, hx] at hv
      rw [hop i hopi, hi] at hv'
      have e2 := inv_int hv'
      obtain ⟨⟨A, n', c', e0, e1, e3⟩, hid⟩ := hv
      have hq' : st.H q = some (.arr fr te.size rows) := by rw [hR q (by simp)]; exact hq
      obtain ⟨hu, g⟩ := hc.arr hq'
      rcases g with ⟨_, g1⟩ | ⟨b, cap, cur, e, fz, g1, g2, g3, g4, g5, g6, g7, g8, g9⟩
      · rw [g1] at hj'; simp at hj'
      · rw [g1] at e0
        injection e0 with e01 e02 e03
        subst e01; subst e02; subst e03
        exact ⟨.pointer (some ⟨b, j * te.size + 0, none⟩), by simp [execOp, ho, e1, e2, hrun _ _ cap k j w hj, add_head], ⟨b, _, cap, g1, hj', rfl⟩, hid⟩
    · rename_i sz rows hole hq
      obtain ⟨rfl, j, rfl, hj, hj', h⟩ := h
      refine ⟨_, h, good_val fun N B M w0 ρ st a w hc hop hR => ?_⟩
      have hv := hc.eval x
      have hv' := (hc.eval i).1
      rw [hop x hopx, hx] at hv
      rw [hop i hopi, hi] at hv'
      have e2 := inv_int hv'
      obtain ⟨⟨A, n', c', e0, e1, e3⟩, hid⟩ := hv
      have hq' : st.H q = some (.dar te.size rows hole) := by rw [hR q (by simp)]; exact hq
      obtain ⟨hu, g⟩ := hc.dar hq'
      rcases g with ⟨_, g1, _⟩ | ⟨b, cap, cur, e, fz, Fp, g1, _⟩
      · rw [g1] at hj'; simp at hj'
      · rw [g1] at e0
        injection e0 with e01 e02 e03
        subst e01; subst e02; subst e03
        exact ⟨.pointer (some ⟨b, j * te.size + 0, none⟩), by simp [execOp, ho, e1, e2, hrun _ _ cap k j w hj, add_head], ⟨b, _, cap, g1, hj', rfl⟩, hid⟩
    · exact h.elim
  · exact h.elim
end
end Go.Sim
