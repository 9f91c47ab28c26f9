/- Deep arrays: made, grown, read as what they own. -/
import Derived.Test.YtehniaekfijmiaaSimG
namespace Go.Sim
open Go.RowKit
section
variable {P : Program} {Γ : Env} {N B : Nat} {M : Nat → Prop} {w0 : Start} {ρ : Rho} {s : F_} {a : Act} {w : World} {o : Oper} {ev : Operand → AV} {H : Id → Option AO} {K : Eff → Prop} {KV : AV → Prop}
theorem memI_iff {t : Id} {l : List Id} : memI t l = true ↔ t ∈ l := by
  simp only [memI, List.any_eq_true]
  constructor
  · rintro ⟨x, h1, h2⟩; rw [idEq_iff] at h2; exact h2 ▸ h1
  · intro h; exact ⟨t, h, idEq_iff.2 rfl⟩
theorem nodupI_iff : ∀ {l : List Id}, nodupI l = true ↔ l.Nodup
  | [] => by simp [nodupI]
  | o :: l => by
    simp only [nodupI, Bool.and_eq_true, Bool.not_eq_true', List.nodup_cons, nodupI_iff (l := l)]
    constructor
    · rintro ⟨h1, h2⟩
      exact ⟨fun h => (by rw [memI_iff.2 h] at h1; cases h1), h2⟩
    · rintro ⟨h1, h2⟩
      refine ⟨?_, h2⟩
      cases hb : memI o l with
      | false => rfl
      | true => exact absurd (memI_iff.1 hb) h1
def Cells (ρ : Rho) (s : F_) (w : World) (ids : List Id) (bad : Nat → Prop) (us : List Value) (ds : List DC) : Prop :=
  ∃ Fp : Nat → Nat → Prop, us.length = ds.length ∧ (∀ (p : Nat) (v : Value) (d : DC), us[p]? = some v → ds[p]? = some d → RD w (okB ρ s.H w) (Fp p) v d) ∧
    (∀ p c, Fp p c → (∃ o x, o ∈ ids ∧ s.H o = some x ∧ Own ρ o c) ∧ ¬ bad c) ∧ ∀ p q c, p ≠ q → Fp p c → ¬ Fp q c
theorem Cells.mono {ids ids' : List Id} {bad bad' : Nat → Prop} {us : List Value} {ds : List DC} (h : Cells ρ s w ids bad us ds) (hi : ∀ o ∈ ids, o ∈ ids') (hb : ∀ c, bad' c → bad c) : Cells ρ s w ids' bad' us ds := by
  obtain ⟨Fp, h1, h2, h3, h4⟩ := h
  exact ⟨Fp, h1, h2, fun p c hc => by
    obtain ⟨⟨o, x, g1, g2, g3⟩, g4⟩ := h3 p c hc
    exact ⟨⟨o, x, hi o g1, g2, g3⟩, fun hx => g4 (hb c hx)⟩, h4⟩
theorem Cells.append (hc : Conc N B M w0 ρ s a w) {ids ids' : List Id} {bad : Nat → Prop} {us us' : List Value} {ds ds' : List DC} (h : Cells ρ s w ids bad us ds) (h' : Cells ρ s w ids' bad us' ds') (hne : ∀ o ∈ ids, o ∉ ids') :
    Cells ρ s w (ids ++ ids') bad (us ++ us') (ds ++ ds') := by
  obtain ⟨Fp, h1, h2, h3, h4⟩ := h
  obtain ⟨Fp', h1', h2', h3', h4'⟩ := h'
  refine ⟨fun p c => (p < us.length ∧ Fp p c) ∨ (us.length ≤ p ∧ Fp' (p - us.length) c), by simp [h1, h1'], fun p v d hv hd => ?_, fun p c hcc => ?_, fun p q c hpq hp hq => ?_⟩
  · rcases Nat.lt_or_ge p us.length with hlt | hge
    · rw [List.getElem?_append_left hlt] at hv
      rw [List.getElem?_append_left (by omega)] at hd
      have := h2 p v d hv hd
      exact this.keep (fun b hb => ⟨rfl, hb⟩) fun b hb => ⟨rfl, .inl ⟨hlt, hb⟩⟩
    · rw [List.getElem?_append_right hge] at hv
      rw [List.getElem?_append_right (by omega), ← h1] at hd
      have := h2' _ v d hv hd
      exact this.keep (fun b hb => ⟨rfl, hb⟩) fun b hb => ⟨rfl, .inr ⟨hge, hb⟩⟩
  · rcases hcc with ⟨_, hcc⟩ | ⟨_, hcc⟩
    · obtain ⟨⟨o, x, g1, g2, g3⟩, g4⟩ := h3 p c hcc
      exact ⟨⟨o, x, by simp [g1], g2, g3⟩, g4⟩
    · obtain ⟨⟨o, x, g1, g2, g3⟩, g4⟩ := h3' _ c hcc
      exact ⟨⟨o, x, by simp [g1], g2, g3⟩, g4⟩
  · rcases hp with ⟨p1, hp⟩ | ⟨p1, hp⟩
    · rcases hq with ⟨q1, hq⟩ | ⟨q1, hq⟩
      · exact h4 p q c hpq hp hq
      · obtain ⟨⟨o, x, g1, g2, g3⟩, _⟩ := h3 p c hp
        obtain ⟨⟨o', x', g1', g2', g3'⟩, _⟩ := h3' _ c hq
        exact hc.sep o o' x x' c g2 g2' (fun e => hne o g1 (e ▸ g1')) g3 g3'
    · rcases hq with ⟨q1, hq⟩ | ⟨q1, hq⟩
      · obtain ⟨⟨o, x, g1, g2, g3⟩, _⟩ := h3 q c hq
        obtain ⟨⟨o', x', g1', g2', g3'⟩, _⟩ := h3' _ c hp
        exact hc.sep o o' x x' c g2 g2' (fun e => hne o g1 (e ▸ g1')) g3 g3'
      · exact h4' _ _ c (by omega) hp hq
theorem Cells.nil {bad : Nat → Prop} : Cells ρ s w [] bad [] [] := ⟨fun _ _ => False, rfl, by simp, fun _ _ h => h.elim, fun _ _ _ _ h => h.elim⟩
theorem arr_DT (hc : Conc N B M w0 ρ s a w) {q : Id} {fr : Bool} {sz : Nat} {rows : List (List Tr)} (hq : s.H q = some (.arr fr sz rows)) (hfl : flat rows) : DT w (Own ρ q) (ρ q) (.lst sz rows) := by
  obtain ⟨hu, g⟩ := hc.arr hq
  rcases g with ⟨g1, g2⟩ | ⟨b, cap, cur, e, fz, g1, g2, g3, g4, g5, g6, g7, g8, g9⟩
  · subst g2; rw [g1]; exact .nil _ _
  · have hb : Own ρ q b := .inl (by rw [g1]; rfl)
    rw [g1]
    refine .arr _ b _ cap sz cur e fz rows (fun _ _ => False) hb g2 g3 rfl g4 g5 g6 hu g7.length (fun _ _ h => h.elim) (fun _ _ _ _ h => h.elim) fun p v u hv hu' => ?_
    have h4 := g7.get p v u hv hu'
    obtain ⟨row, k1, k2⟩ := List.mem_flatten.1 (List.mem_of_getElem? hu')
    have h5 := hfl row k1 u k2
    cases h4 with
    | int => exact .int _ _ _
    | bool => exact .bool _ _
    | str => exact .str _ _
    | emp => exact absurd rfl (h5 _ _)
    | lst => exact absurd rfl (h5 _ _)
theorem dar_DT (hc : Conc N B M w0 ρ s a w) {q : Id} {sz : Nat} {rows : List (List Tr)} (hq : s.H q = some (.dar sz (deepRows rows) none)) : DT w (Own ρ q) (ρ q) (.lst sz rows) := by
  obtain ⟨hu, g⟩ := hc.dar hq
  have hlen : (deepRows rows).length = rows.length := by simp [deepRows]
  have hu' : ∀ r ∈ rows, r.length = sz := fun r hr => by
    have := hu (r.map .d) (List.mem_map.2 ⟨r, hr, rfl⟩)
    simpa using this
  rcases g with ⟨g1, g2, _⟩ | ⟨b, cap, cur, e, fz, Fp, g1, g2, g3, g4, g5, g6, g7, g8, g9, g10⟩
  · have : rows = [] := by simpa [deepRows] using g2
    subst this; rw [g1]; exact .nil _ _
  · have hb : Own ρ q b := .inl (by rw [g1]; rfl)
    rw [hlen] at g1 g4 g9
    rw [deep_flatten] at g9
    rw [g1]
    refine .arr _ b _ cap sz cur e fz rows Fp hb g2 g3 rfl g4 g5 g6 hu' (by rw [g9.1, List.length_map]) (fun p c h => ⟨.inr (g7 p c h).1, (g7 p c h).2⟩) g8 fun p v u hv hu1 => ?_
    have := g9.2 p v (.d u) hv (by rw [List.getElem?_map, hu1]; rfl)
    simp only [holeAt] at this
    exact this
theorem frzD_spec : ∀ (cs : List AC) (K : List DC → List Id → Prop), frzD H cs K → ∃ ds ids, K ds ids ∧ ∀ {N B : Nat} {M : Nat → Prop} {w0 : Start} {ρ : Rho} {s : F_} {a : Act} {w : World}, Conc N B M w0 ρ s a w → (∀ o ∈ ids, s.H o = H o) → ids.Nodup →
    ∀ vs : List Value, RCs B ρ w (okB ρ s.H w) vs cs → Cells ρ s w ids (fun _ => False) vs ds
  | [], K, h => ⟨[], [], h, fun _ _ _ vs hv => by
      cases vs with
      | nil => exact Cells.nil
      | cons => exact hv.elim⟩
  | c :: r, K, h => by
    have one : ∀ (d : DC) (ids0 : List Id) (rest : frzD H r fun cs ids => K (d :: cs) (ids0 ++ ids)),
        (∀ {N B : Nat} {M : Nat → Prop} {w0 : Start} {ρ : Rho} {s : F_} {a : Act} {w : World}, Conc N B M w0 ρ s a w → (∀ o ∈ ids0, s.H o = H o) → ∀ v, RC B ρ w (okB ρ s.H w) v c → Cells ρ s w ids0 (fun _ => False) [v] [d]) →
        ∃ ds ids, K ds ids ∧ ∀ {N B : Nat} {M : Nat → Prop} {w0 : Start} {ρ : Rho} {s : F_} {a : Act} {w : World}, Conc N B M w0 ρ s a w → (∀ o ∈ ids, s.H o = H o) → ids.Nodup →
          ∀ vs : List Value, RCs B ρ w (okB ρ s.H w) vs (c :: r) → Cells ρ s w ids (fun _ => False) vs ds := by
      intro d ids0 rest h1
      obtain ⟨ds, ids, hK, hrest⟩ := frzD_spec r _ rest
      refine ⟨d :: ds, ids0 ++ ids, hK, fun hc hH hnd vs hv => ?_⟩
      cases vs with
      | nil => exact hv.elim
      | cons v vs =>
        have g1 := h1 hc (fun o ho => hH o (by simp [ho])) v hv.1
        have g2 := hrest hc (fun o ho => hH o (by simp [ho])) (List.nodup_append.1 hnd).2.1 vs hv.2
        exact g1.append hc g2 fun o ho ho' => (List.nodup_append.1 hnd).2.2 o ho o ho' rfl
    have flatC : ∀ (x : Tr), (∀ sz rows, x ≠ .lst sz rows) → ∀ {w : World} {ok F : Nat → Prop} {v : Value}, RT w ok v x → DT w F v x := by
      intro x hx w ok F v hv
      cases hv with
      | int => exact .int _ _ _
      | bool => exact .bool _ _
      | str => exact .str _ _
      | emp => exact absurd rfl (hx _ _)
      | lst => exact absurd rfl (hx _ _)
    have plain : ∀ (d : DC), (∀ {B : Nat} {ρ : Rho} {s : F_} {w : World} (v : Value), RC B ρ w (okB ρ s.H w) v c → RD w (okB ρ s.H w) (fun _ => False) v d) →
        ∀ {N B : Nat} {M : Nat → Prop} {w0 : Start} {ρ : Rho} {s : F_} {a : Act} {w : World}, Conc N B M w0 ρ s a w → (∀ o ∈ ([] : List Id), s.H o = H o) → ∀ v, RC B ρ w (okB ρ s.H w) v c → Cells ρ s w [] (fun _ => False) [v] [d] := by
      intro d hd N B M w0 ρ s a w hc _ v hv
      refine ⟨fun _ _ => False, rfl, fun p v' d' h1 h2 => ?_, fun _ _ h => h.elim, fun _ _ _ _ h => h.elim⟩
      cases p with
      | zero => simp at h1 h2; subst h1; subst h2; exact hd v hv
      | succ p => simp at h1
    have owned : ∀ (q : Id) (t : Tr), c = .own q → (∀ {N B : Nat} {M : Nat → Prop} {w0 : Start} {ρ : Rho} {s : F_} {a : Act} {w : World}, Conc N B M w0 ρ s a w → s.H q = H q → DT w (Own ρ q) (ρ q) t ∧ ∃ x, s.H q = some x) →
        ∀ {N B : Nat} {M : Nat → Prop} {w0 : Start} {ρ : Rho} {s : F_} {a : Act} {w : World}, Conc N B M w0 ρ s a w → (∀ o ∈ [q], s.H o = H o) → ∀ v, RC B ρ w (okB ρ s.H w) v c → Cells ρ s w [q] (fun _ => False) [v] [.d t] := by
      intro q t hcq hdt N B M w0 ρ s a w hc hH v hv
      subst hcq
      obtain ⟨g1, x, g2⟩ := hdt hc (hH q (by simp))
      obtain ⟨_, rfl⟩ := hv
      refine ⟨fun p c => p = 0 ∧ Own ρ q c, rfl, fun p v' d' h1 h2 => ?_, fun p c h => ⟨⟨q, x, by simp, g2, h.2⟩, fun h => h⟩, fun p p' c hne h1 h2 => hne (h1.1.trans h2.1.symm)⟩
      cases p with
      | zero => simp at h1 h2; subst h1; subst h2; exact g1.mono fun c hc => ⟨rfl, hc⟩
      | succ p => simp at h1
    cases c with
    | t x =>
      simp only [frzD] at h
      cases x with
      | lst sz rows => exact one _ [] h (plain (.t (.lst sz rows)) fun v hv => hv)
      | int k n => exact one _ [] h (plain (.d (.int k n)) fun v hv => flatC _ (by simp) hv)
      | bool b => exact one _ [] h (plain (.d (.bool b)) fun v hv => flatC _ (by simp) hv)
      | str b => exact one _ [] h (plain (.d (.str b)) fun v hv => flatC _ (by simp) hv)
    | f x =>
      simp only [frzD] at h
      cases x with
      | lst sz rows => exact one _ [] h (plain (.t (.lst sz rows)) fun v hv => RT.keep (show RT _ _ v _ from hv) okF_drop)
      | int k n => exact one _ [] h (plain (.d (.int k n)) fun v hv => flatC _ (by simp) hv)
      | bool b => exact one _ [] h (plain (.d (.bool b)) fun v hv => flatC _ (by simp) hv)
      | str b => exact one _ [] h (plain (.d (.str b)) fun v hv => flatC _ (by simp) hv)
    | nils sz =>
      simp only [frzD] at h
      exact one _ [] h (plain (.d (.lst sz [])) fun v hv => by
        have : v = .slice none 0 0 := hv
        subst this; exact .nil _ _)
    | own q =>
      simp only [frzD] at h
      split at h
      · rename_i fr sz rows hq
        exact one _ [q] h.2 (owned q _ rfl fun hc hH => ⟨arr_DT hc (hH.trans hq) h.1, _, hH.trans hq⟩)
      · rename_i sz rows hq
        obtain ⟨rows', rfl, h⟩ := h
        exact one _ [q] h (owned q _ rfl fun hc hH => ⟨dar_DT hc (hH.trans hq), _, hH.trans hq⟩)
      · exact h.elim
    | nilp => simp [frzD] at h
    | sub => simp [frzD] at h
    | ptr => simp [frzD] at h
    | opq => simp [frzD] at h
    | mpv => simp [frzD] at h
theorem Conc.newDar (h : Conc N B M w0 ρ s a w) {d : Nat} (hd : d < N) (hU : ¬ s.U d) (rm : List Id) {w' : World} {D : Nat → Prop} (hT : Turn D w w') {b cap sz : Nat} {us : Array Value} {e : TypeId} {fz : Nat × Nat} {rows : List (List DC)}
    (hD : ∀ k, D k → k = b ∧ ∃ o x', o ∈ rm ∧ s.H o = some x' ∧ Own ρ o k) (hb : w.heap.size ≤ b ∨ ∃ o x', o ∈ rm ∧ s.H o = some x' ∧ Own ρ o b)
    (hh : w'.heap[b]? = some (.cells us e fz)) (hf : unfrozen us.size fz) (hu : ∀ r ∈ rows, r.length = sz) (h1 : rows.length ≤ cap) (h2 : cap ≤ maxLen) (h3 : us.size = cap * sz)
    (hcells : Cells ρ s w rm (fun c => c = b) (us.toList.take (rows.length * sz)) rows.flatten) (R : List Id) :
    ∃ ρ', Conc N B M w0 ρ' (s.app (some d) ⟨.r (.c (.own (d, 0, 0))), rm.map (fun r => (r, none)) ++ [((d, 0, 0), some (.dar sz rows none))], some d, R⟩) (a.put (some d) (.slice (some ⟨b, 0, none⟩) rows.length cap)) w' := by
  have hlt : b < w'.heap.size := (Array.getElem?_eq_some_iff.1 hh).1
  obtain ⟨Fp, c1, c2, c3, c4⟩ := hcells
  refine h.make hd hU (D := D) rm hT (v := .slice (some ⟨b, 0, none⟩) rows.length cap) (fun c => ∃ p, Fp p c) (fun k hk => (hD k hk).2) (fun b' hb' => ?_) (fun c hc => by obtain ⟨p, hp⟩ := hc; exact (c3 p c hp).1) (fun id hid => by simp [AO.ids] at hid) (fun id hid => ?_) (fun ρ' ok' hk hkr hρ hq hF => ⟨?_, ?_⟩)
  · injection hb' with hb'; subst hb'; exact ⟨hlt, hb⟩
  · simp [AV.ids, AR.ids, AC.ids] at hid; left; rw [hid]
  · refine ⟨hu, .inr ⟨b, cap, us, e, fz, Fp, hq, hh, hf, h1, h2, h3, fun p c hc => ⟨hF c ⟨p, hc⟩, (c3 p c hc).2⟩, c4, c1, fun p v dd hv hdd => ?_⟩⟩
    simp only [holeAt]
    refine (c2 p v dd hv hdd).keep hk fun c hc => ⟨?_, hc⟩
    obtain ⟨⟨o, x, g1, g2, g3⟩, g4⟩ := c3 p c hc
    exact hT.block c (h.rng o x c g2 g3).1 fun hDc => g4 (hD c hDc).1
  · exact ⟨⟨_, _, _, hq⟩, hq.symm⟩
end
end Go.Sim
