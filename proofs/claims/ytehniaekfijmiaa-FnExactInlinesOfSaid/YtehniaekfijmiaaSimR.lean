/- Deep arrays written out. -/
import Derived.Test.YtehniaekfijmiaaSimH
namespace Go.Sim
open Go.RowKit
section
variable {P : Program} {Γ : Env} {N B : Nat} {M : Nat → Prop} {w0 : Start} {ρ : Rho} {s : F_} {a : Act} {w : World} {o : Oper} {ev : Operand → AV} {H : Id → Option AO} {K : Eff → Prop} {KV : AV → Prop}
theorem semRowsD_spec : ∀ (parts : List (Nat × Operand)) (n : Nat) (K : List (List DC) → List Id → Prop), semRowsD H n (parts.map fun p => (p.1, ev p.2)) K →
    ∃ rows ids, K rows ids ∧ rows.length = parts.length ∧ (∀ (j : Nat) (p : Nat × Operand), parts[j]? = some p → p.1 = n + j) ∧
      ∀ (N B : Nat) (M : Nat → Prop) (w0 : Start) (ρ : Rho) (s : F_) (a : Act) (w : World), Conc N B M w0 ρ s a w → (∀ o ∈ ids, s.H o = H o) → ids.Nodup →
        (∀ p ∈ parts, RV B ρ w (okB ρ s.H w) (a.eval p.2) (ev p.2)) → Cells ρ s w ids (fun _ => False) ((parts.map fun p => (a.eval p.2).cells.toList).flatten) rows.flatten ∧
          ∀ (j : Nat) (p : Nat × Operand) (row : List DC), parts[j]? = some p → rows[j]? = some row → (a.eval p.2).cells.size = row.length
  | [], n, K, h => ⟨[], [], h, rfl, by simp, fun N B M w0 ρ s a w _ _ _ _ => ⟨Cells.nil, by simp⟩⟩
  | (i, x) :: parts, n, K, h => by
    simp only [List.map_cons, semRowsD] at h
    cases hx : ev x with
    | r ar =>
      rw [hx] at h
      simp only [semRowsD] at h
      split at h
      · rename_i hn
        have hin : i = n := by simpa using hn
        obtain ⟨ds, ids0, h0, hds⟩ := frzD_spec _ _ h
        obtain ⟨rows, ids, h1, h2, h3, h4⟩ := semRowsD_spec parts (n + 1) _ h0
        refine ⟨ds :: rows, ids0 ++ ids, h1, by simp [h2], fun j p hj => ?_, fun N B M w0 ρ s a w hc hH hnd hf => ?_⟩
        · cases j with
          | zero => simp at hj; subst hj; simpa using hin
          | succ j => have := h3 j p (by simpa using hj); omega
        · have hv := hf (i, x) (by simp)
          simp only at hv
          rw [hx] at hv
          have c1 := hds hc (fun o ho => hH o (by simp [ho])) (List.nodup_append.1 hnd).1 _ (RR.cells hv)
          obtain ⟨c2, c3⟩ := h4 N B M w0 ρ s a w hc (fun o ho => hH o (by simp [ho])) (List.nodup_append.1 hnd).2.1 (fun p hp => hf p (by simp [hp]))
          refine ⟨?_, fun j p row hj hr => ?_⟩
          · simp only [List.map_cons, List.flatten_cons]
            exact Cells.append hc c1 c2 fun o ho ho' => (List.nodup_append.1 hnd).2.2 o ho o ho' rfl
          · cases j with
            | zero =>
              simp at hj hr
              subst hj; subst hr
              obtain ⟨_, g, _⟩ := c1
              simpa using g
            | succ j => exact c3 j p row (by simpa using hj) (by simpa using hr)
      · exact h.elim
    | tup => rw [hx] at h; exact h.elim
    | el => rw [hx] at h; exact h.elim
    | ro => rw [hx] at h; exact h.elim
    | unk => rw [hx] at h; exact h.elim
  termination_by parts => parts.length
theorem sound_buildSliceD {T e : TypeId} {d n : Nat} {parts : Array (Nat × Operand)} {ti te : TI} (hΓ : Γ.chk P = true) (hT : Γ.get T = some ti) (he : ti.elem = some e) (hE : Γ.get e = some te) (hdst : o.dst = some d) (ho : o.op = .buildSlice T n parts)
    (hn : parts.toList.length = n)
    (h : semRowsD H 0 (parts.toList.map fun p => (p.1, ev p.2)) fun rows ids => (∀ r ∈ rows, r.length = te.size) ∧ n * te.size ≤ 16777216 ∧ nodupI ids = true ∧ K ⟨.r (.c (.own (d, 0, 0))), ids.map (fun r => (r, none)) ++ [((d, 0, 0), some (.dar te.size rows none))], some d, ids⟩) :
    ∃ ef, K ef ∧ Good P o ev H ef := by
  obtain ⟨ii, dd, fit⟩ := Env.fit hΓ hT
  obtain ⟨ie, de, fite⟩ := Env.fit hΓ hE
  have hd := dslice fit he
  subst hd
  obtain ⟨z, hz, hm⟩ := fite.zero
  obtain ⟨rows, ids, ⟨hu, hsz, hnd, hK⟩, hrl, hidx, hrows⟩ := semRowsD_spec parts.toList 0 _ h
  refine ⟨_, hK, ?_⟩
  intro N B M w0 ρ s a w Q K hc hop hR hnew hd hK
  rw [hdst] at hd hK
  have hval : ∀ p ∈ parts.toList, RV B ρ w (okB ρ s.H w) (a.eval p.2) (ev p.2) := fun p hp => by
    have := (hc.eval p.2).1
    rwa [hop p.2 (by simp only [ho, Op.operands]; exact List.mem_map.2 ⟨p, hp, rfl⟩)] at this
  let vss : List (List Value) := parts.toList.map fun p => (a.eval p.2).cells.toList
  have hvl : vss.length = rows.length := by simp [vss, hrl]
  obtain ⟨hcells, hcs⟩ := hrows N B M w0 ρ s a w hc hR (nodupI_iff.1 hnd) hval
  have hcell : ∀ (j : Nat) (p : Nat × Operand), parts.toList[j]? = some p → p.1 = j ∧ (a.eval p.2).cells.size = te.size := by
    intro j p hj
    have hjl : j < parts.toList.length := by
      rcases Nat.lt_or_ge j parts.toList.length with h' | h'
      · exact h'
      · rw [List.getElem?_eq_none h'] at hj; cases hj
    have hjr : rows[j]? = some (rows[j]'(by omega)) := List.getElem?_eq_getElem (by omega)
    have := hcs j p _ hj hjr
    rw [hu _ (List.mem_of_getElem? hjr)] at this
    exact ⟨by simpa using hidx j p hj, this⟩
  let init : Array Value := (Array.range (n * te.size)).map (fun i => (if n * te.size = 0 then #[] else z.cells)[i % (if n * te.size = 0 then #[] else z.cells).size]!)
  have hinit : init.size = n * te.size := by simp [init]
  have hfill : Instr.fill (fun i => some (i * te.size, te.size)) init ((parts.map fun p => (p.1, a.eval p.2)).toList) = some vss.flatten.toArray := by
    have := fill_rows te.size ((parts.map fun p => (p.1, a.eval p.2)).toList) 0 [] init.toList (by simp) (fun j p hj => by
      simp only [Array.toList_map, List.getElem?_map, Option.map_eq_some_iff] at hj
      obtain ⟨q, g1, rfl⟩ := hj
      obtain ⟨g2, g3⟩ := hcell j q g1
      exact ⟨by simp [g2], g3⟩) (by simp only [Array.length_toList, hinit, Array.toList_map, List.length_map]; rw [← hn]; simp)
    simp only [List.nil_append, Array.toArray_toList] at this
    rw [this]
    simp [vss, List.flatMap_def]; rfl
  have hrun : (execOp a.eval o).run P w = .ok (.value (.slice (some ⟨w.heap.size, 0, none⟩) n n)) (w.alloc (.cells vss.flatten.toArray e)) := by
    have := run_buildSlice (w := w) (n := n) (i := ii) fit.und fite.info hz (by rw [fite.size]; exact hsz) (parts.map fun p => (p.1, a.eval p.2)) vss.flatten.toArray (by rw [fite.size]; exact hfill)
    simp only [execOp, ho, Sem.run_bind, this, Result.andThen_ok, Sem.run_pure]
  have hlen : rows.length = n := by rw [hrl, hn]
  have hnmax : n ≤ maxLen := by
    have := fite.pos
    have h1 : n * 1 ≤ n * te.size := Nat.mul_le_mul_left _ (by omega)
    unfold maxLen; omega
  have hfl : vss.flatten.length = n * te.size := by
    obtain ⟨_, g, _⟩ := hcells
    rw [show vss.flatten.length = rows.flatten.length from g, flatten_length te.size rows hu, hlen]
  obtain ⟨ρ', h'⟩ := hc.newDar (hd d rfl) (hnew d rfl) ids (w' := w.alloc (.cells vss.flatten.toArray e)) (D := fun _ => False) (Turn.alloc _ _ _) (b := w.heap.size) (cap := n) (sz := te.size) (us := vss.flatten.toArray) (e := e) (fz := (0, 0)) (rows := rows)
    (fun _ h => h.elim) (.inl (Nat.le_refl _)) (heap_new _ _) (unfrozen_zero _) hu (by omega) hnmax (by simp only [List.size_toArray, hfl]) (by
      rw [hlen, List.take_of_length_le (by simp only [hfl]; omega)]
      obtain ⟨Fp, c1, c2, c3, c4⟩ := hcells
      refine ⟨Fp, c1, c2, fun p c hcc => ⟨(c3 p c hcc).1, fun e => ?_⟩, c4⟩
      obtain ⟨⟨o1, x1, m1, m2, m3⟩, _⟩ := c3 p c hcc
      have := (hc.rng o1 x1 c m2 m3).1
      omega) ids
  rw [hlen] at h'
  unfold Oper.wp
  rw [hrun]
  show K (a.put o.dst _) _
  rw [hdst]
  exact hK _ _ ρ' h'
end
end Go.Sim
