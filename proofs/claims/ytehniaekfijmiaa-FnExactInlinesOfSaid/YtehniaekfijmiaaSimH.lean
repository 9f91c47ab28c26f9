/- The operations that make memory, and those that write. -/
import Derived.Test.YtehniaekfijmiaaSimQ
namespace Go.Sim
open Go.RowKit
section
variable {P : Program} {Γ : Env} {N B : Nat} {M : Nat → Prop} {w0 : Start} {ρ : Rho} {s : F_} {a : Act} {w : World} {o : Oper} {ev : Operand → AV} {H : Id → Option AO} {K : Eff → Prop} {KV : AV → Prop}
theorem append_mem {T U ty e : TypeId} {i : TypeInfo} {z : Value} {du : TypeDesc} (hu : P.underlying T = some (.slice e)) (huU : P.underlying U = some du) (hk : dKind du = none) (hi : P.info? e = some i) (hz : i.zero = some z) (hzs : z.cells.size = i.size)
    (sv x : Value) (n m : Nat) (olds nv : List Value)
    (hs : (sv = .slice none 0 0 ∧ n = 0 ∧ olds = []) ∨ ∃ b cap cur e' fz, sv = .slice (some ⟨b, 0, none⟩) n cap ∧ w.heap[b]? = some (.cells cur e' fz) ∧ unfrozen cur.size fz ∧ n ≤ cap ∧ cap ≤ maxLen ∧ cur.size = cap * i.size ∧ olds = cur.toList.take (n * i.size))
    (hl : ∀ w', (Builtin.lenOf x).run P w' = .ok m w') (hf : ∀ w', w'.heap = w.heap → (Builtin.firstCells i.size m x).run P w' = .ok nv.toArray w') (hnl : nv.length = m * i.size) (hone : ∀ v ∈ nv, v.oneCell' = true)
    (hmx : n + m ≤ 9223372036854775807) (hby : (n + m) * i.bytes ≤ 140737488355328) :
    ∃ v w', (Builtin.append_ #[T, U] ty #[sv, x]).run P w = .ok v w' ∧
      ((v = .slice none 0 0 ∧ w' = w ∧ n = 0 ∧ m = 0 ∧ sv = .slice none 0 0) ∨ ∃ b' cap' cur' e'' fz' D, v = .slice (some ⟨b', 0, none⟩) (n + m) cap' ∧ Turn D w w' ∧ w'.heap[b']? = some (.cells cur' e'' fz') ∧ unfrozen cur'.size fz' ∧ n + m ≤ cap' ∧ cap' ≤ maxLen ∧ cur'.size = cap' * i.size ∧
        cur'.toList.take ((n + m) * i.size) = olds ++ nv ∧ ((w.heap.size ≤ b' ∧ ∀ k, ¬ D k) ∨ (blk sv = some b' ∧ ∀ k, D k → k = b'))) := by
  have hmax : n + m ≤ maxLen := by unfold maxLen; omega
  have grow : ∀ (A : Option Addr) (sCap : Nat), sCap < n + m → olds.length = n * i.size → (Builtin.firstCells i.size n (.slice A n sCap)).run P w.drew = .ok olds.toArray w.drew → sv = .slice A n sCap →
      ∃ v w', (Builtin.append_ #[T, U] ty #[sv, x]).run P w = .ok v w' ∧
      ((v = .slice none 0 0 ∧ w' = w ∧ n = 0 ∧ m = 0 ∧ sv = .slice none 0 0) ∨ ∃ b' cap' cur' e'' fz' D, v = .slice (some ⟨b', 0, none⟩) (n + m) cap' ∧ Turn D w w' ∧ w'.heap[b']? = some (.cells cur' e'' fz') ∧ unfrozen cur'.size fz' ∧ n + m ≤ cap' ∧ cap' ≤ maxLen ∧ cur'.size = cap' * i.size ∧
        cur'.toList.take ((n + m) * i.size) = olds ++ nv ∧ ((w.heap.size ≤ b' ∧ ∀ k, ¬ D k) ∨ (blk sv = some b' ∧ ∀ k, D k → k = b'))) := by
    intro A sCap hlt hol hfo hsv
    have hrun := run_append_new (w := w) (ty := ty) hu huU hk hi hz x A n sCap m olds nv hl (hf _ rfl) hfo hlt hmx hby
    have hge := grownCap_ge w (n + m) sCap e
    have hle := grownCap_le_maxLen w (n + m) sCap e hmax
    generalize grownCap w (n + m) sCap e = gc at hrun hge hle
    rw [hsv]
    refine ⟨_, _, hrun, .inr ⟨w.heap.size, gc, olds.toArray ++ nv.toArray ++ Builtin.zeroCells z.cells (gc - (n + m)), e, (0, 0), fun _ => False, by simp, (Turn.drew _ w).trans (Turn.alloc _ _ _), heap_alloc_new w.drew _, unfrozen_zero _, hge, hle, ?_, ?_, .inl ⟨Nat.le_refl _, fun _ h => h⟩⟩⟩
    · simp only [Array.size_append, List.size_toArray, size_zeroCells, hzs, hol, hnl]; rw [← Nat.add_mul, ← Nat.add_mul]; congr 1; omega
    · rw [Nat.add_mul, ← hol, ← hnl, ← List.length_append]
      simp only [Array.toList_append, List.append_assoc]
      rw [← List.append_assoc, List.take_left]
  rcases hs with ⟨rfl, rfl, rfl⟩ | ⟨b, cap, cur, e', fz, rfl, hb, hfz, hle, hcm, hcs, rfl⟩
  · by_cases h0 : m = 0
    · subst h0
      have hnv : nv = [] := List.eq_nil_of_length_eq_zero (by simpa using hnl)
      subst hnv
      refine ⟨.slice none 0 0, w, ?_, .inl ⟨rfl, rfl, rfl, rfl, rfl⟩⟩
      unfold Builtin.append_
      simp only [List.getElem?_toArray, List.getElem?_cons_zero, List.getElem?_cons_succ, Sem.run_bind, run_underlying hu, run_underlying huU, Result.andThen_ok, run_sizeOf hi, Sem.run_pure]
      have hf' := hf w rfl
      cases du
      case int => simp [dKind] at hk
      all_goals simp [hl] at hf' ⊢; simp [hf']
    · exact grow none 0 (by omega) (by simp) (by simp [Builtin.firstCells]) rfl
  · have hol : (cur.toList.take (n * i.size)).length = n * i.size := by
      rw [List.length_take, Array.length_toList, hcs]
      exact Nat.min_eq_left (Nat.mul_le_mul_right _ hle)
    by_cases hroom : n + m ≤ cap
    · have hrun := run_append_in (w := w) (ty := ty) hu huU hk hi x b n cap m nv hl (hf w rfl) hroom hb hfz (by rw [hnl, hcs, ← Nat.add_mul]; exact Nat.mul_le_mul_right _ hroom) hone
      obtain ⟨cur', g1, g2, g3⟩ := setCells_heap b e' fz nv (n * i.size) w cur hb (by rw [hnl, hcs, ← Nat.add_mul]; exact Nat.mul_le_mul_right _ hroom)
      refine ⟨_, _, hrun, .inr ⟨b, cap, cur', e', fz, fun k => k = b, rfl, setCells_turn b nv (n * i.size) w, g1, by rw [g2]; exact hfz, hroom, hcm, by rw [g2, hcs], ?_, .inr ⟨rfl, fun _ h => h⟩⟩⟩
      rw [g3, Nat.add_mul, List.append_assoc, ← List.append_assoc, ← hnl]
      have e0 : n * i.size + nv.length = (cur.toList.take (n * i.size) ++ nv).length := by rw [List.length_append, hol]
      rw [e0, List.take_left]
    · refine grow (some ⟨b, 0, none⟩) cap (by omega) hol ?_ rfl
      refine run_firstCells_some w.drew i.size n ⟨b, 0, none⟩ n cap _ hol fun j v hv => ?_
      rw [add_head, World.cell?_drew, cell_of_row w b j cur e' fz hb]
      rw [List.getElem?_take] at hv
      split at hv
      · simpa using hv
      · cases hv
theorem RTs.cellsT {ok : Nat → Prop} {us : List Value} {ts : List Tr} {bad : Nat → Prop} (h : RTs w ok us ts) (hok : ∀ b, ok b → okB ρ s.H w b) : Cells ρ s w [] bad us (ts.map .t) := by
  refine ⟨fun _ _ => False, by rw [List.length_map]; exact h.length, fun p v d hv hd => ?_, fun _ _ h => h.elim, fun _ _ _ _ h => h.elim⟩
  rw [List.getElem?_map, Option.map_eq_some_iff] at hd
  obtain ⟨u, hu, rfl⟩ := hd
  exact (h.get p v u hv hu).keep fun b hb => ⟨rfl, hok b hb⟩
theorem srcD_spec {esz : Nat} {x : Operand} {K2 : List (List DC) → List Id → List Id → Prop} (h : srcD esz (ev x) H K2) : ∃ news rm R, K2 news rm R ∧
    ∀ (N B : Nat) (M : Nat → Prop) (w0 : Start) (ρ : Rho) (s : F_) (a : Act) (w : World), Conc N B M w0 ρ s a w → evL s.L x = ev x → (∀ id ∈ rm ++ R, s.H id = H id) →
      ∃ nv, (∀ (P : Program) (w' : World), (Builtin.lenOf (a.eval x)).run P w' = .ok news.length w') ∧ (∀ (P : Program) (w' : World), w'.heap = w.heap → (Builtin.firstCells esz news.length (a.eval x)).run P w' = .ok nv.toArray w') ∧
        (∀ r ∈ news, r.length = esz) ∧ (∀ v ∈ nv, v.oneCell' = true) ∧ ∀ bad : Nat → Prop, (∀ o x c, o ∈ rm → s.H o = some x → Own ρ o c → ¬ bad c) → Cells ρ s w rm bad nv news.flatten := by
  have plain : ∀ (y : AV), ev x = y → (srcRows esz y H fun _ rows R => K2 (rows.map (·.map .t)) [] R) → ∃ news rm R, K2 news rm R ∧
    ∀ (N B : Nat) (M : Nat → Prop) (w0 : Start) (ρ : Rho) (s : F_) (a : Act) (w : World), Conc N B M w0 ρ s a w → evL s.L x = ev x → (∀ id ∈ rm ++ R, s.H id = H id) →
      ∃ nv, (∀ (P : Program) (w' : World), (Builtin.lenOf (a.eval x)).run P w' = .ok news.length w') ∧ (∀ (P : Program) (w' : World), w'.heap = w.heap → (Builtin.firstCells esz news.length (a.eval x)).run P w' = .ok nv.toArray w') ∧
        (∀ r ∈ news, r.length = esz) ∧ (∀ v ∈ nv, v.oneCell' = true) ∧ ∀ bad : Nat → Prop, (∀ o x c, o ∈ rm → s.H o = some x → Own ρ o c → ¬ bad c) → Cells ρ s w rm bad nv news.flatten := by
    intro y hy h
    rw [← hy] at h
    obtain ⟨fr, rows, R, hK, hsrc⟩ := src_ok h
    refine ⟨_, [], R, hK, fun N B M w0 ρ s a w hc hev hR => ?_⟩
    obtain ⟨nv, g1, g2, g3, g4⟩ := hsrc N B M w0 ρ s a w hc hev (fun id hid => hR id (by simpa using hid))
    refine ⟨nv, by simpa using g1, by simpa using g2, fun r hr => ?_, g3.one, fun bad _ => ?_⟩
    · obtain ⟨r', h1, rfl⟩ := List.mem_map.1 hr
      simpa using g4 r' h1
    · rw [← List.map_flatten]
      exact g3.cellsT fun b hb => hb.1
  unfold srcD at h
  split at h
  · rename_i q hx
    split at h
    · rename_i sz rows hq
      obtain ⟨rfl, hK⟩ := h
      refine ⟨rows, [q], [], hK, fun N B M w0 ρ s a w hc hev hR => ?_⟩
      have hq' : s.H q = some (.dar sz rows none) := by rw [hR q (by simp)]; exact hq
      have hv := (hc.eval x).1
      rw [hev, hx] at hv
      obtain ⟨_, e1⟩ := hv
      obtain ⟨hu, g⟩ := hc.dar hq'
      rcases g with ⟨g1, g2, _⟩ | ⟨b, cap, cur, e, fz, Fp, g1, g2, g3, g4, g5, g6, g7, g8, g9, g10⟩
      · subst g2
        rw [e1, g1]
        exact ⟨[], fun P w' => by simp [Builtin.lenOf], fun P w' _ => by simp [Builtin.firstCells], by simp, by simp, fun bad _ => Cells.nil.mono (by simp) (fun _ h => h)⟩
      · rw [e1, g1]
        have hfl := flatten_length sz rows hu
        refine ⟨cur.toList.take (rows.length * sz), fun P w' => by simp [Builtin.lenOf], fun P w' e => ?_, hu, fun v hv => ?_, fun bad hbad => ?_⟩
        · refine run_firstCells_some w' sz rows.length ⟨b, 0, none⟩ rows.length cap _ (by rw [g9.1, hfl]) fun j v hv => ?_
          have := g10 j v hv
          unfold World.cell? at this ⊢
          rw [e]; exact this
        · obtain ⟨p, hp⟩ := List.getElem?_of_mem hv
          have hlt : p < rows.flatten.length := by
            rw [← g9.1]
            rcases Nat.lt_or_ge p (cur.toList.take (rows.length * sz)).length with h | h
            · exact h
            · rw [List.getElem?_eq_none h] at hp; cases hp
          have := g9.2 p v _ hp (List.getElem?_eq_getElem hlt)
          simp only [holeAt] at this
          generalize rows.flatten[p] = dd at this
          cases dd with
          | t x => exact RT.one this
          | d x => exact DT.one this
        · refine ⟨Fp, g9.1, fun p v d hv hd => ?_, fun p c hc' => ⟨⟨q, _, by simp, hq', .inr (g7 p c hc').1⟩, hbad q _ c (by simp) hq' (.inr (g7 p c hc').1)⟩, g8⟩
          have := g9.2 p v d hv hd
          simpa only [holeAt] using this
    · exact plain (ev x) rfl h
  · exact plain _ rfl h
theorem Conc.appendD (h : Conc N B M w0 ρ s a w) {T U e ty : TypeId} {d : Nat} {te : TI} {ie : TypeInfo} {de du : TypeDesc} (hu : P.underlying T = some (.slice e)) (fite : te.Fit P e ie de) (huU : P.underlying U = some du) (hk : dKind du = none)
    (hd : d < N) (hU : ¬ s.U d) (rm rm' : List Id) (rows news : List (List DC)) (sv x : Value) (hun : ∀ r ∈ news, r.length = te.size) (hur : ∀ r ∈ rows, r.length = te.size) (hne : ∀ o ∈ rm, o ∉ rm')
    (hs : (sv = .slice none 0 0 ∧ rows = []) ∨ ∃ b cap cur e' fz, sv = .slice (some ⟨b, 0, none⟩) rows.length cap ∧ w.heap[b]? = some (.cells cur e' fz) ∧ unfrozen cur.size fz ∧ rows.length ≤ cap ∧ cap ≤ maxLen ∧ cur.size = cap * te.size ∧
      Cells ρ s w rm (fun c => c = b) (cur.toList.take (rows.length * te.size)) rows.flatten ∧ ∃ o x', o ∈ rm ∧ s.H o = some x' ∧ blk (ρ o) = some b)
    (nv : List Value) (hl : ∀ w', (Builtin.lenOf x).run P w' = .ok news.length w') (hf : ∀ w', w'.heap = w.heap → (Builtin.firstCells te.size news.length x).run P w' = .ok nv.toArray w') (hone : ∀ v ∈ nv, v.oneCell' = true)
    (hnc : ∀ bad : Nat → Prop, (∀ o x c, o ∈ rm' → s.H o = some x → Own ρ o c → ¬ bad c) → Cells ρ s w rm' bad nv news.flatten)
    (hfit : fits (rows.length + news.length) te.bytes) (R : List Id) :
    ∃ v w' ρ', (Builtin.append_ #[T, U] ty #[sv, x]).run P w = .ok v w' ∧ Conc N B M w0 ρ' (s.app (some d) ⟨.r (.c (.own (d, 0, 0))), (rm ++ rm').map (fun r => (r, none)) ++ [((d, 0, 0), some (.dar te.size (rows ++ news) none))], some d, R⟩) (a.put (some d) v) w' := by
  obtain ⟨z, hz, hm⟩ := fite.zero
  have hzs : z.cells.size = te.size := by
    have h1 := (zMatches_ok (B := B) (ρ := ρ) (w := w) (ok := fun _ => True) hm).length
    rw [fite.zlen] at h1
    simpa using h1
  have hnl : nv.length = news.length * te.size := by
    obtain ⟨Fp, h1, _⟩ := hnc (fun _ => False) (fun _ _ _ _ _ _ h => h)
    rw [h1, flatten_length te.size news hun]
  have hcl : ∀ bad : Nat → Prop, (∀ c, bad c → ¬ ∃ o x, o ∈ rm' ∧ s.H o = some x ∧ Own ρ o c) → Cells ρ s w rm' bad nv news.flatten := fun bad hb => hnc bad fun o x c h1 h2 h3 h4 => hb c h4 ⟨o, x, h1, h2, h3⟩
  obtain ⟨olds, hs⟩ : ∃ olds, (sv = .slice none 0 0 ∧ rows = [] ∧ olds = []) ∨ ∃ b cap cur e' fz, sv = .slice (some ⟨b, 0, none⟩) rows.length cap ∧ w.heap[b]? = some (.cells cur e' fz) ∧ unfrozen cur.size fz ∧ rows.length ≤ cap ∧ cap ≤ maxLen ∧ cur.size = cap * te.size ∧
      Cells ρ s w rm (fun c => c = b) olds rows.flatten ∧ (∃ o x', o ∈ rm ∧ s.H o = some x' ∧ blk (ρ o) = some b) ∧ olds = cur.toList.take (rows.length * te.size) := by
    rcases hs with ⟨h1, h2⟩ | ⟨b, cap, cur, e', fz, h1, h2, h3, h4, h5, h6, h7, h8⟩
    · exact ⟨[], .inl ⟨h1, h2, rfl⟩⟩
    · exact ⟨_, .inr ⟨b, cap, cur, e', fz, h1, h2, h3, h4, h5, h6, h7, h8, rfl⟩⟩
  obtain ⟨v, w', hrun, hres⟩ := append_mem (w := w) (ty := ty) hu huU hk fite.info hz (by rw [fite.size]; exact hzs) sv x rows.length news.length olds nv
    (by
      rcases hs with ⟨h1, h2, h3⟩ | ⟨b, cap, cur, e', fz, h1, h2, h3, h4, h5, h6, _, _, h9⟩
      · exact .inl ⟨h1, by rw [h2]; rfl, h3⟩
      · exact .inr ⟨b, cap, cur, e', fz, h1, h2, h3, h4, h5, by rw [fite.size]; exact h6, by rw [fite.size]; exact h9⟩) hl (by rw [fite.size]; exact hf) (by rw [fite.size]; exact hnl) hone hfit.2 (by rw [fite.bytes]; exact hfit.1)
  refine ⟨v, w', ?_⟩
  have huu : ∀ r ∈ rows ++ news, r.length = te.size := fun r hr => (List.mem_append.1 hr).elim (hur r) (hun r)
  have hfl : (rows ++ news).flatten = rows.flatten ++ news.flatten := by simp
  rcases hres with ⟨rfl, rfl, hn0, hm0, _⟩ | ⟨b', cap', cur', e'', fz', D, rfl, hT, g1, g2, g3, g4, g5, g6, g7⟩
  · have e1 : rows = [] := List.eq_nil_of_length_eq_zero hn0
    have e2 : news = [] := List.eq_nil_of_length_eq_zero hm0
    subst e1; subst e2
    obtain ⟨ρ', h'⟩ := h.make hd hU (D := fun _ => False) (rm ++ rm') (Turn.refl _ w') (v := .slice none 0 0) (vv := .slice none 0 0) (x := .dar te.size ([] ++ []) none) (av := .r (.c (.own (d, 0, 0)))) (R := R) (fun _ => False) (fun _ h => h.elim) (fun b hb => by cases hb) (fun _ h => h.elim) (fun id hid => by simp [AO.ids] at hid)
      (fun id hid => by simp [AV.ids, AR.ids, AC.ids] at hid; left; rw [hid]) (fun ρ' ok' hk _ hρ hq _ => ⟨⟨by simp, .inl ⟨hq, rfl, rfl⟩⟩, ⟨_, _, _, hq⟩, hq.symm⟩)
    exact ⟨ρ', hrun, h'⟩
  · rw [fite.size] at g5 g6
    have hcells : ∀ bad : Nat → Prop, (∀ c, bad c → c = b') → Cells ρ s w (rm ++ rm') bad (cur'.toList.take ((rows ++ news).length * te.size)) (rows ++ news).flatten := by
      intro bad hbad
      rw [List.length_append, g6, hfl]
      rcases hs with ⟨h1, h2, h0⟩ | ⟨b, cap, cur, e', fz, h1, h2, h3, h4, h5, h6, h7, ⟨o, x', k1, k2, k3⟩, h0⟩
      · subst h1; subst h2; subst h0
        rcases g7 with ⟨g7, _⟩ | ⟨g7, _⟩
        · refine Cells.append h (Cells.nil.mono (by simp) (fun _ h => h)) (hcl bad fun c hb' ⟨o1, x1, m1, m2, m3⟩ => ?_) hne
          have := (h.rng o1 x1 c m2 m3).1
          rw [hbad c hb'] at this
          omega
        · cases g7
      · subst h1
        have hbb : blk (ρ o) = some b := k3
        have hb1 : ∀ c, bad c → c = b ∨ w.heap.size ≤ c := fun c hc => by
          rw [hbad c hc]
          rcases g7 with ⟨g7, _⟩ | ⟨g7, _⟩
          · exact .inr g7
          · have : b = b' := by simpa [blk] using g7
            exact .inl this.symm
        obtain ⟨Fp, c1, c2, c3, c4⟩ := h7
        refine Cells.append h ⟨Fp, c1, c2, fun p c hc => ⟨(c3 p c hc).1, fun hx => ?_⟩, c4⟩ (hcl bad fun c hb' ⟨o1, x1, m1, m2, m3⟩ => ?_) hne
        · rcases hb1 c hx with e | e
          · exact (c3 p c hc).2 e
          · obtain ⟨⟨o2, x2, m1, m2, m3⟩, _⟩ := c3 p c hc
            have := (h.rng o2 x2 c m2 m3).1
            omega
        · rcases hb1 c hb' with e | e
          · subst e
            exact h.sep o o1 x' x1 c k2 m2 (fun e => hne o k1 (e ▸ m1)) (.inl k3) m3
          · have := (h.rng o1 x1 c m2 m3).1
            omega
    obtain ⟨ρ', h'⟩ := h.newDar hd hU (rm ++ rm') hT (b := b') (cap := cap') (sz := te.size) (us := cur') (e := e'') (fz := fz') (rows := rows ++ news)
      (fun k hk => by
        rcases g7 with ⟨_, g7⟩ | ⟨g7, g8⟩
        · exact absurd hk (g7 k)
        · refine ⟨g8 k hk, ?_⟩
          rw [g8 k hk]
          rcases hs with ⟨h1, h2, h0⟩ | ⟨b, cap, cur, e', fz, h1, h2, h3, h4, h5, h6, h7, ⟨o, x', k1, k2, k3⟩, h0⟩
          · subst h1; cases g7
          · subst h1
            have : b = b' := by simpa [blk] using g7
            subst this
            exact ⟨o, x', by simp [k1], k2, .inl k3⟩)
      (by
        rcases g7 with ⟨g7, _⟩ | ⟨g7, _⟩
        · exact .inl g7
        · rcases hs with ⟨h1, h2, h0⟩ | ⟨b, cap, cur, e', fz, h1, h2, h3, h4, h5, h6, h7, ⟨o, x', k1, k2, k3⟩, h0⟩
          · subst h1; cases g7
          · subst h1
            have : b = b' := by simpa [blk] using g7
            subst this
            exact .inr ⟨o, x', by simp [k1], k2, .inl k3⟩) g1 g2 huu (by simpa using g3) g4 g5 (hcells _ fun _ h => h) R
    exact ⟨ρ', hrun, by simpa using h'⟩
theorem sound_append {T U e : TypeId} {d : Nat} {sx x : Operand} {ti tu te : TI} (hΓ : Γ.chk P = true) (hT : Γ.get T = some ti) (hTU : Γ.get U = some tu) (he : ti.elem = some e) (hk : tu.kind = none) (hE : Γ.get e = some te) (hdst : o.dst = some d)
    (ho : o.op = .call { callee := .builtin .append, args := #[sx, x], argTypes := #[T, U] }) (h : semAppend d te.size te.bytes (ev sx) (ev x) H K) : ∃ ef, K ef ∧ Good P o ev H ef := by
  obtain ⟨ii, dd, fit⟩ := Env.fit hΓ hT
  obtain ⟨iu, du, fitu⟩ := Env.fit hΓ hTU
  obtain ⟨ie, de, fite⟩ := Env.fit hΓ hE
  have hd := dslice fit he
  subst hd
  have hopx : x ∈ o.op.operands.toList := by simp [ho, Op.operands, Call.operands]
  have hops : sx ∈ o.op.operands.toList := by simp [ho, Op.operands, Call.operands]
  have hkk : dKind du = none := fitu.kind.trans hk
  have fin : ∀ (rm : List Id) (rows news : List (List Tr)) (fr fr' : Bool) (R R' : List Id),
      (∀ (N B : Nat) (M : Nat → Prop) (w0 : Start) (ρ : Rho) (s : F_) (a : Act) (w : World), Conc N B M w0 ρ s a w → evL s.L sx = ev sx → (∀ id ∈ R', s.H id = H id) →
        (∀ r ∈ rows, r.length = te.size) ∧ ((a.eval sx = .slice none 0 0 ∧ rows = []) ∨ ∃ b cap cur e' fz, a.eval sx = .slice (some ⟨b, 0, none⟩) rows.length cap ∧ w.heap[b]? = some (.cells cur e' fz) ∧ unfrozen cur.size fz ∧ rows.length ≤ cap ∧ cap ≤ maxLen ∧ cur.size = cap * te.size ∧
          RTs w (okF B (okB ρ s.H w) fr) (cur.toList.take (rows.length * te.size)) rows.flatten ∧ (fr = true → B ≤ b) ∧ ∃ o x', o ∈ rm ∧ s.H o = some x' ∧ Own ρ o b)) →
      (∀ (N B : Nat) (M : Nat → Prop) (w0 : Start) (ρ : Rho) (s : F_) (a : Act) (w : World), Conc N B M w0 ρ s a w → evL s.L x = ev x → (∀ id ∈ R, s.H id = H id) →
        ∃ nv, (∀ (P : Program) (w' : World), (Builtin.lenOf (a.eval x)).run P w' = .ok news.length w') ∧ (∀ (P : Program) (w' : World), w'.heap = w.heap → (Builtin.firstCells te.size news.length (a.eval x)).run P w' = .ok nv.toArray w') ∧
        RTs w (okF B (okB ρ s.H w) fr') nv news.flatten ∧ ∀ r ∈ news, r.length = te.size) → fits (rows.length + news.length) te.bytes → (∀ id ∈ R, id ∈ R') →
      Good P o ev H ⟨.r (.c (.own (d, 0, 0))), rm.map (fun r => (r, none)) ++ [((d, 0, 0), some (.arr (fr && fr') te.size (rows ++ news)))], some d, R'⟩ := by
    intro rm rows news fr fr' R R' h1 h2 hfit hsub N B M w0 ρ s a w Q K hc hop hR hnew hd hK
    rw [hdst] at hd hK
    obtain ⟨g1, g2⟩ := h1 N B M w0 ρ s a w hc (hop sx hops) hR
    obtain ⟨nv, f1, f2, f3, f4⟩ := h2 N B M w0 ρ s a w hc (hop x hopx) (fun id hid => hR id (hsub id hid))
    obtain ⟨v, w', ρ', r1, r2⟩ := hc.append fit.und fite fitu.und hkk (hd d rfl) (hnew d rfl) rm rows news fr fr' o.type (a.eval sx) (a.eval x) f4 g1 g2 nv (f1 P) (f2 P) f3 hfit R' (i := ii)
    have hrun : (execOp a.eval o).run P w = .ok (.value v) w' := by
      simp [execOp, ho, resolve, invoke, builtin, r1]
    unfold Oper.wp
    rw [hrun]
    show K (a.put o.dst _) _
    rw [hdst]
    exact hK _ _ ρ' r2
  have finD : ∀ (rm rm' : List Id) (rows news : List (List DC)) (R R' : List Id), (∀ o ∈ rm, o ∉ rm') →
      (∀ (N B : Nat) (M : Nat → Prop) (w0 : Start) (ρ : Rho) (s : F_) (a : Act) (w : World), Conc N B M w0 ρ s a w → evL s.L sx = ev sx → (∀ id ∈ R', s.H id = H id) →
        (∀ r ∈ rows, r.length = te.size) ∧ ((a.eval sx = .slice none 0 0 ∧ rows = []) ∨ ∃ b cap cur e' fz, a.eval sx = .slice (some ⟨b, 0, none⟩) rows.length cap ∧ w.heap[b]? = some (.cells cur e' fz) ∧ unfrozen cur.size fz ∧ rows.length ≤ cap ∧ cap ≤ maxLen ∧ cur.size = cap * te.size ∧
          Cells ρ s w rm (fun c => c = b) (cur.toList.take (rows.length * te.size)) rows.flatten ∧ ∃ o x', o ∈ rm ∧ s.H o = some x' ∧ blk (ρ o) = some b)) →
      (∀ (N B : Nat) (M : Nat → Prop) (w0 : Start) (ρ : Rho) (s : F_) (a : Act) (w : World), Conc N B M w0 ρ s a w → evL s.L x = ev x → (∀ id ∈ rm' ++ R, s.H id = H id) →
        ∃ nv, (∀ (P : Program) (w' : World), (Builtin.lenOf (a.eval x)).run P w' = .ok news.length w') ∧ (∀ (P : Program) (w' : World), w'.heap = w.heap → (Builtin.firstCells te.size news.length (a.eval x)).run P w' = .ok nv.toArray w') ∧
        (∀ r ∈ news, r.length = te.size) ∧ (∀ v ∈ nv, v.oneCell' = true) ∧ ∀ bad : Nat → Prop, (∀ o x c, o ∈ rm' → s.H o = some x → Own ρ o c → ¬ bad c) → Cells ρ s w rm' bad nv news.flatten) → fits (rows.length + news.length) te.bytes → (∀ id ∈ rm' ++ R, id ∈ R') →
      Good P o ev H ⟨.r (.c (.own (d, 0, 0))), (rm ++ rm').map (fun r => (r, none)) ++ [((d, 0, 0), some (.dar te.size (rows ++ news) none))], some d, R'⟩ := by
    intro rm rm' rows news R R' hne h1 h2 hfit hsub N B M w0 ρ s a w Q K hc hop hR hnew hd hK
    rw [hdst] at hd hK
    obtain ⟨g1, g2⟩ := h1 N B M w0 ρ s a w hc (hop sx hops) hR
    obtain ⟨nv, f1, f2, f3, f4, f5⟩ := h2 N B M w0 ρ s a w hc (hop x hopx) (fun id hid => hR id (hsub id hid))
    obtain ⟨v, w', ρ', r1, r2⟩ := hc.appendD (ty := o.type) fit.und fite fitu.und hkk (hd d rfl) (hnew d rfl) rm rm' rows news (a.eval sx) (a.eval x) f3 g1 hne g2 nv (f1 P) (f2 P) f4 f5 hfit R'
    have hrun : (execOp a.eval o).run P w = .ok (.value v) w' := by
      simp [execOp, ho, resolve, invoke, builtin, r1]
    unfold Oper.wp
    rw [hrun]
    show K (a.put o.dst _) _
    rw [hdst]
    exact hK _ _ ρ' r2
  unfold semAppend at h
  split at h
  · rename_i sz hs
    split at h
    · obtain ⟨news, rm, R, ⟨hfit, hK⟩, hsrc⟩ := srcD_spec h
      refine ⟨_, hK, ?_⟩
      have := finD [] rm [] news R (rm ++ R) (by simp) (fun N B M w0 ρ s a w hc hop _ => ⟨by simp, .inl ⟨by have := (hc.eval sx).1; rw [hop, hs] at this; exact this, rfl⟩⟩) hsrc (by simpa using hfit) (fun _ h => h)
      simpa using this
    · obtain ⟨fr', news, R, ⟨hfit, hK⟩, hsrc⟩ := src_ok h
      refine ⟨_, hK, ?_⟩
      have := fin [] [] news true fr' R R (fun N B M w0 ρ s a w hc hop _ => ⟨by simp, .inl ⟨by have := (hc.eval sx).1; rw [hop, hs] at this; exact this, rfl⟩⟩) hsrc (by simpa using hfit) (fun _ h => h)
      simpa using this
  · rename_i q hs
    split at h
    · rename_i fr sz rows hq
      obtain ⟨rfl, h⟩ := h
      obtain ⟨fr', news, R, ⟨hfit, hno, hK⟩, hsrc⟩ := src_ok h
      refine ⟨_, hK, ?_⟩
      have := fin [q] rows news fr fr' R (q :: R) (fun N B M w0 ρ s a w hc hop hR => by
        have hv := (hc.eval sx).1
        rw [hop, hs] at hv
        obtain ⟨_, e1⟩ := hv
        have hq' : s.H q = some (.arr fr te.size rows) := by rw [hR q (by simp)]; exact hq
        obtain ⟨hu, g⟩ := hc.arr hq'
        refine ⟨hu, ?_⟩
        rcases g with ⟨g1, g2⟩ | ⟨b, cap, cur, e, fz, g1, g2, g3, g4, g5, g6, g7, g8, g9⟩
        · exact .inl ⟨e1.trans g1, g2⟩
        · exact .inr ⟨b, cap, cur, e, fz, e1.trans g1, g2, g3, g4, g5, g6, g7, g9, q, _, by simp, hq', .inl (by rw [g1]; rfl)⟩) hsrc hfit (fun id hid => by simp [hid])
      simpa using this
    · rename_i sz rows hq
      obtain ⟨rfl, h⟩ := h
      obtain ⟨news, rm, R, ⟨hfit, hno, hK⟩, hsrc⟩ := srcD_spec h
      refine ⟨_, hK, ?_⟩
      have hno' : q ∉ rm ++ R := fun hm => by rw [memI_iff.2 hm] at hno; cases hno
      have := finD [q] rm rows news R (q :: (rm ++ R)) (by simpa using fun h => hno' (by simp [h])) (fun N B M w0 ρ s a w hc hop hR => by
        have hv := (hc.eval sx).1
        rw [hop, hs] at hv
        obtain ⟨_, e1⟩ := hv
        have hq' : s.H q = some (.dar te.size rows none) := by rw [hR q (by simp)]; exact hq
        obtain ⟨hu, g⟩ := hc.dar hq'
        refine ⟨hu, ?_⟩
        rcases g with ⟨g1, g2, _⟩ | ⟨b, cap, cur, e, fz, Fp, g1, g2, g3, g4, g5, g6, g7, g8, g9, g10⟩
        · exact .inl ⟨e1.trans g1, g2⟩
        · refine .inr ⟨b, cap, cur, e, fz, e1.trans g1, g2, g3, g4, g5, g6, ⟨Fp, g9.1, fun p v d hv hd => ?_, fun p c hc' => ⟨⟨q, _, by simp, hq', .inr (g7 p c hc').1⟩, (g7 p c hc').2⟩, g8⟩, q, _, by simp, hq', by rw [g1]; rfl⟩
          have := g9.2 p v d hv hd
          simpa only [holeAt] using this) hsrc hfit (fun id hid => by simp only [List.mem_cons]; exact .inr hid)
      simpa using this
    · exact h.elim
  · rename_i q k hs
    split at h
    · rename_i fr sz rows hq
      obtain ⟨rfl, hkl, h⟩ := h
      obtain ⟨fr', news, R, ⟨hfit, hno, hK⟩, hsrc⟩ := src_ok h
      refine ⟨_, hK, ?_⟩
      have hkt : (rows.take k).length = k := by rw [List.length_take]; omega
      have := fin [q] (rows.take k) news fr fr' R (q :: R) (fun N B M w0 ρ s a w hc hop hR => by
        have hv := (hc.eval sx).1
        rw [hop, hs] at hv
        obtain ⟨A, n, c, e0, e1, e2⟩ := hv
        have hq' : s.H q = some (.arr fr te.size rows) := by rw [hR q (by simp)]; exact hq
        obtain ⟨hu, g⟩ := hc.arr hq'
        refine ⟨fun r hr => hu r (List.mem_of_mem_take hr), ?_⟩
        rcases g with ⟨g1, g2⟩ | ⟨b, cap, cur, e, fz, g1, g2, g3, g4, g5, g6, g7, g8, g9⟩
        · subst g2
          have : k = 0 := by simpa using hkl
          subst this
          rw [g1] at e0
          injection e0 with x1 x2 x3
          subst x1; subst x3
          exact .inl ⟨e1, by simp⟩
        · rw [g1] at e0
          injection e0 with x1 x2 x3
          subst x1; subst x2; subst x3
          have hfl : (rows.take k).flatten = rows.flatten.take (k * te.size) := (flatten_take te.size rows k hu hkl).symm
          have hts := g7.take (k * te.size)
          rw [← hfl, List.take_take] at hts
          have hmin : min (k * te.size) (rows.length * te.size) = k * te.size := Nat.min_eq_left (Nat.mul_le_mul_right _ hkl)
          rw [hmin] at hts
          exact .inr ⟨b, cap, cur, e, fz, by rw [hkt]; exact e1, g2, g3, by omega, g5, g6, by rw [hkt]; exact hts, g9, q, _, by simp, hq', .inl (by rw [g1]; rfl)⟩) hsrc (by rw [hkt]; exact hfit) (fun id hid => by simp [hid])
      simpa using this
    · rename_i sz rows hq
      obtain ⟨rfl, hkl, h⟩ := h
      obtain ⟨news, rm, R, ⟨hfit, hno, hK⟩, hsrc⟩ := srcD_spec h
      refine ⟨_, hK, ?_⟩
      have hno' : q ∉ rm ++ R := fun hm => by rw [memI_iff.2 hm] at hno; cases hno
      have hkt : (rows.take k).length = k := by rw [List.length_take]; omega
      have := finD [q] rm (rows.take k) news R (q :: (rm ++ R)) (by simpa using fun h => hno' (by simp [h])) (fun N B M w0 ρ s a w hc hop hR => by
        have hv := (hc.eval sx).1
        rw [hop, hs] at hv
        obtain ⟨A, n, c, e0, e1, e2⟩ := hv
        have hq' : s.H q = some (.dar te.size rows none) := by rw [hR q (by simp)]; exact hq
        obtain ⟨hu, g⟩ := hc.dar hq'
        refine ⟨fun r hr => hu r (List.mem_of_mem_take hr), ?_⟩
        rcases g with ⟨g1, g2, _⟩ | ⟨b, cap, cur, e, fz, Fp, g1, g2, g3, g4, g5, g6, g7, g8, g9, g10⟩
        · subst g2
          have : k = 0 := by simpa using hkl
          subst this
          rw [g1] at e0
          injection e0 with x1 x2 x3
          subst x1; subst x3
          exact .inl ⟨e1, by simp⟩
        · rw [g1] at e0
          injection e0 with x1 x2 x3
          subst x1; subst x2; subst x3
          have hfl : (rows.take k).flatten = rows.flatten.take (k * te.size) := (flatten_take te.size rows k hu hkl).symm
          have hmin : min (k * te.size) (rows.length * te.size) = k * te.size := Nat.min_eq_left (Nat.mul_le_mul_right _ hkl)
          have hus : cur.toList.take (k * te.size) = (cur.toList.take (rows.length * te.size)).take (k * te.size) := by rw [List.take_take, hmin]
          refine .inr ⟨b, cap, cur, e, fz, by rw [hkt]; exact e1, g2, g3, by omega, g5, g6, ⟨Fp, ?_, fun p v d hv hd => ?_, fun p c hc' => ⟨⟨q, _, by simp, hq', .inr (g7 p c hc').1⟩, (g7 p c hc').2⟩, g8⟩, q, _, by simp, hq', by rw [g1]; rfl⟩
          · rw [hkt, hus, hfl, List.length_take, g9.1, List.length_take]
          · rw [hkt, hus, List.getElem?_take] at hv
            rw [hfl, List.getElem?_take] at hd
            split at hv
            · rename_i hp
              rw [if_pos hp] at hd
              have := g9.2 p v d hv hd
              simpa only [holeAt] using this
            · cases hv) hsrc (by rw [hkt]; exact hfit) (fun id hid => by simp only [List.mem_cons]; exact .inr hid)
      simpa using this
    · exact h.elim
  · exact h.elim
theorem madeCells_eq (z : Array Value) (n : Nat) (h : 0 < z.size) : (madeCells z (n * z.size)).toList = (List.replicate n z.toList).flatten := by
  apply List.ext_getElem?
  intro p
  have hl : (List.replicate n z.toList).flatten.length = n * z.size := by
    rw [flatten_length z.size _ (by intro r hr; rw [(List.mem_replicate.1 hr).2]; simp)]; simp
  by_cases hp : p < n * z.size
  · have h1 : (madeCells z (n * z.size)).toList[p]? = some (z[p % z.size]'(Nat.mod_lt _ h)) := by
      simp [madeCells, hp]
      rw [getElem!_pos z _ (Nat.mod_lt _ h)]
    rw [h1]
    have hpd : p = (p / z.size) * z.size + p % z.size := by rw [Nat.mul_comm]; exact (Nat.div_add_mod p z.size).symm
    have hlt : p / z.size < n := (Nat.div_lt_iff_lt_mul h).2 hp
    have := flatten_get z.size (List.replicate n z.toList) (p / z.size) (p % z.size) z.toList (by intro r hr; rw [(List.mem_replicate.1 hr).2]; simp) (by simp [hlt]) (Nat.mod_lt _ h)
    rw [← hpd] at this
    rw [this]
    simp [Nat.mod_lt _ h]
  · rw [List.getElem?_eq_none (by simp [madeCells]; omega), List.getElem?_eq_none (by rw [hl]; omega)]
theorem RTs.replicate {ok : Nat → Prop} {vs : List Value} {ts : List Tr} (h : RTs w ok vs ts) : ∀ n : Nat, RTs w ok (List.replicate n vs).flatten (List.replicate n ts).flatten
  | 0 => trivial
  | n + 1 => by simp only [List.replicate_succ, List.flatten_cons]; exact h.append (RTs.replicate h n)
theorem zfrz_ok {ok' : Nat → Prop} : ∀ {vs : List Value} {cs : List AC} {ts : List Tr} {fr : Bool} {ids : List Id}, zMatches vs cs = true → frz (fun _ => none) cs = some (ts, fr, ids) → RTs w ok' vs ts
  | [], [], ts, fr, ids, _, h => by simp only [frz, Option.some.injEq, Prod.mk.injEq] at h; obtain ⟨rfl, _⟩ := h; trivial
  | v :: vs, c :: cs, ts, fr, ids, hm, h => by
    have hrc := zMatches_ok (B := 0) (ρ := ⟨fun _ => default, fun _ _ => False, fun _ => True⟩) (w := w) (ok := ok') hm
    simp only [zMatches, Bool.and_eq_true] at hm
    cases c with
    | t x =>
      simp only [frz] at h
      cases hf : frz (fun _ => none) cs with
      | none => rw [hf] at h; simp at h
      | some p =>
        obtain ⟨ts', fr', ids'⟩ := p
        rw [hf] at h
        have ih := zfrz_ok (ok' := ok') hm.2 hf
        cases x <;> (simp only [Option.some.injEq, Prod.mk.injEq] at h; obtain ⟨rfl, rfl, rfl⟩ := h; exact ⟨hrc.1, ih⟩)
    | nils sz =>
      simp only [frz] at h
      cases hf : frz (fun _ => none) cs with
      | none => rw [hf] at h; simp at h
      | some p =>
        obtain ⟨ts', fr', ids'⟩ := p
        rw [hf] at h
        simp only [Option.some.injEq, Prod.mk.injEq] at h
        obtain ⟨rfl, rfl, rfl⟩ := h
        have hx : v = .slice none 0 0 := hrc.1
        subst hx
        exact ⟨.emp _ _ _ (Nat.zero_le _), zfrz_ok hm.2 hf⟩
    | f => simp [zMatch] at hm
    | own => simp [frz] at h
    | nilp => simp [frz] at h
    | sub => simp [frz] at h
    | ptr => simp [frz] at h
    | opq => simp [frz] at h
    | mpv => simp [frz] at h
  | [], _ :: _, _, _, _, hm, _ => by simp [zMatches] at hm
  | _ :: _, [], _, _, _, hm, _ => by simp [zMatches] at hm
theorem zD_ok : ∀ {vs : List Value} {cs : List AC} {ts : List Tr} {fr : Bool} {ids : List Id}, zMatches vs cs = true → frz (fun _ => none) cs = some (ts, fr, ids) → ∀ (w : World) (F : Nat → Prop) (p : Nat) (v : Value) (t : Tr), vs[p]? = some v → ts[p]? = some t → DT w F v t
  | [], [], ts, fr, ids, _, _, w, F, p, v, t, hv, _ => by simp at hv
  | v0 :: vs, c :: cs, ts, fr, ids, hm, h, w, F, p, v, t, hv, ht => by
    simp only [zMatches, Bool.and_eq_true] at hm
    have head : ∀ (t0 : Tr) (rest : List Tr), ts = t0 :: rest → DT w F v0 t0 → (∀ (q : Nat) (v : Value) (t : Tr), vs[q]? = some v → rest[q]? = some t → DT w F v t) → DT w F v t := by
      intro t0 rest e h0 hr
      subst e
      cases p with
      | zero => simp at hv ht; subst hv; subst ht; exact h0
      | succ p => exact hr p v t (by simpa using hv) (by simpa using ht)
    have h1 := hm.1
    cases hf : frz (fun _ => none) cs with
    | none => cases c <;> simp [frz, hf] at h
    | some q =>
      obtain ⟨ts', fr', ids'⟩ := q
      have hrec := fun q v t => zD_ok hm.2 hf w F q v t
      unfold zMatch at h1
      split at h1
      · simp only [Bool.and_eq_true, decide_eq_true_eq] at h1
        obtain ⟨rfl, rfl⟩ := h1
        simp only [frz, hf, Option.some.injEq, Prod.mk.injEq] at h
        exact head _ _ h.1.symm (.int _ _ _) hrec
      · simp only [beq_iff_eq] at h1; subst h1
        simp only [frz, hf, Option.some.injEq, Prod.mk.injEq] at h
        exact head _ _ h.1.symm (.bool _ _) hrec
      · rename_i s l
        simp only [Bool.and_eq_true, List.isEmpty_iff] at h1
        obtain ⟨h2, rfl⟩ := h1
        have : s = ⟨#[]⟩ := by
          obtain ⟨d⟩ := s
          have : d = #[] := by simpa using h2
          rw [this]
        subst this
        simp only [frz, hf, Option.some.injEq, Prod.mk.injEq] at h
        exact head _ _ h.1.symm (.str _ []) hrec
      · simp only [frz, hf, Option.some.injEq, Prod.mk.injEq] at h
        exact head _ _ h.1.symm (.nil _ _) hrec
      · simp [frz] at h
      · simp [frz] at h
      · simp [frz] at h
      · simp [frz] at h
      · cases h1
  | [], _ :: _, _, _, _, hm, _, _, _, _, _, _, _, _ => by simp [zMatches] at hm
  | _ :: _, [], _, _, _, hm, _, _, _, _, _, _, _, _ => by simp [zMatches] at hm
theorem Cells.replicate (hc : Conc N B M w0 ρ s a w) {bad : Nat → Prop} {vs : List Value} {ds : List DC} (h : Cells ρ s w [] bad vs ds) : ∀ n : Nat, Cells ρ s w [] bad (List.replicate n vs).flatten (List.replicate n ds).flatten
  | 0 => Cells.nil
  | n + 1 => by
    simp only [List.replicate_succ, List.flatten_cons]
    exact Cells.append hc h (Cells.replicate hc h n) (by simp)
theorem sound_make {T e : TypeId} {d : Nat} {l c : Operand} {ti te : TI} (hΓ : Γ.chk P = true) (hT : Γ.get T = some ti) (he : ti.elem = some e) (hE : Γ.get e = some te) (hdst : o.dst = some d)
    (ho : o.op = .makeSlice T l c) (h : semMake d te.size te.bytes te.zero (ev l) (ev c) K) : ∃ ef, K ef ∧ Good P o ev H ef := by
  obtain ⟨ii, dd, fit⟩ := Env.fit hΓ hT
  obtain ⟨ie, de, fite⟩ := Env.fit hΓ hE
  have hd := dslice fit he
  subst hd
  obtain ⟨z, hz, hm⟩ := fite.zero
  unfold semMake at h
  split at h
  · rename_i k n k' m zt _ _ hl hc' hzt
    obtain ⟨j, rfl, rfl, hj, hb, hK⟩ := h
    split at hK
    · refine ⟨_, hK, ?_⟩
      intro N B M w0 ρ s a w Q K hc hop hR hnew hd hK
      rw [hdst] at hd hK
      have hv1 := (hc.eval l).1
      have hv2 := (hc.eval c).1
      rw [hop l (by simp [ho, Op.operands]), hl] at hv1
      rw [hop c (by simp [ho, Op.operands]), hc'] at hv2
      have e1 := inv_int hv1
      have e2 := inv_int hv2
      have hzr := zMatches_ok (B := B) (ρ := ρ) (w := w) (ok := okB ρ s.H w) hm
      have hzs : z.cells.size = te.size := by have h1 := hzr.length; rw [fite.zlen] at h1; simpa using h1
      have hztr : ∀ ok' : Nat → Prop, RTs w ok' z.cells.toList zt := fun ok' => zfrz_ok hm hzt
      have hbytes : (ie.bytes : Int) * (j : Int) ≤ 281474976710656 := by
        rw [fite.bytes, Int.mul_comm]; omega
      have hrun := run_make (P := P) w T e ie z fit.und fite.info hz k k' (j : Int) (j : Int) (by omega) (Int.le_refl _) hbytes (by omega)
      simp only [Int.toNat_natCast, fite.size] at hrun
      have hmc := madeCells_eq z.cells j (by have := fite.pos; omega)
      rw [hzs] at hmc
      have hexec : (execOp a.eval o).run P w = .ok (.value (.slice (some ⟨w.heap.size, 0, none⟩) j j)) (w.alloc (.cells (madeCells z.cells (j * te.size)) e)) := by
        simp [execOp, ho, e1, e2, hrun]
      have hzl : zt.length = te.size := by have := (hztr fun _ => True).length; rw [← this]; simpa using hzs
      obtain ⟨ρ', h'⟩ := hc.newArr (hd d rfl) (hnew d rfl) [] (w' := w.alloc (.cells (madeCells z.cells (j * te.size)) e)) (Turn.alloc _ _ _) (b := w.heap.size) (cap := j) (sz := te.size) (us := madeCells z.cells (j * te.size)) (e := e) (fz := (0, 0)) (rows := List.replicate j zt) (fr := true)
        (Nat.le_refl _) (heap_new _ _) (unfrozen_zero _) (by intro r hr; rw [(List.mem_replicate.1 hr).2]; exact hzl) (by simp) (by unfold maxLen; omega) (by simp [size_madeCells])
        (fun ok' _ _ => by rw [List.take_of_length_le (by simp [size_madeCells]), hmc]; exact (hztr _).replicate j) []
      simp only [List.length_replicate, List.map_nil, List.nil_append] at h'
      unfold Oper.wp
      rw [hexec]
      show K (a.put o.dst _) _
      rw [hdst]
      exact hK _ _ ρ' h'
    · refine ⟨_, hK, ?_⟩
      intro N B M w0 ρ s a w Q K hc hop hR hnew hd hK
      rw [hdst] at hd hK
      have hv1 := (hc.eval l).1
      have hv2 := (hc.eval c).1
      rw [hop l (by simp [ho, Op.operands]), hl] at hv1
      rw [hop c (by simp [ho, Op.operands]), hc'] at hv2
      have e1 := inv_int hv1
      have e2 := inv_int hv2
      have hzr := zMatches_ok (B := B) (ρ := ρ) (w := w) (ok := okB ρ s.H w) hm
      have hzs : z.cells.size = te.size := by have h1 := hzr.length; rw [fite.zlen] at h1; simpa using h1
      have hztr : ∀ ok' : Nat → Prop, RTs w ok' z.cells.toList zt := fun ok' => zfrz_ok hm hzt
      have hbytes : (ie.bytes : Int) * (j : Int) ≤ 281474976710656 := by
        rw [fite.bytes, Int.mul_comm]; omega
      have hrun := run_make (P := P) w T e ie z fit.und fite.info hz k k' (j : Int) (j : Int) (by omega) (Int.le_refl _) hbytes (by omega)
      simp only [Int.toNat_natCast, fite.size] at hrun
      have hmc := madeCells_eq z.cells j (by have := fite.pos; omega)
      rw [hzs] at hmc
      have hexec : (execOp a.eval o).run P w = .ok (.value (.slice (some ⟨w.heap.size, 0, none⟩) j j)) (w.alloc (.cells (madeCells z.cells (j * te.size)) e)) := by
        simp [execOp, ho, e1, e2, hrun]
      have hzl : zt.length = te.size := by have := (hztr fun _ => True).length; rw [← this]; simpa using hzs
      obtain ⟨ρ', h'⟩ := hc.newDar (hd d rfl) (hnew d rfl) [] (w' := w.alloc (.cells (madeCells z.cells (j * te.size)) e)) (D := fun _ => False) (Turn.alloc _ _ _) (b := w.heap.size) (cap := j) (sz := te.size) (us := madeCells z.cells (j * te.size)) (e := e) (fz := (0, 0)) (rows := List.replicate j (zt.map .d))
        (fun _ h => h.elim) (.inl (Nat.le_refl _)) (heap_new _ _) (unfrozen_zero _) (by intro r hr; rw [(List.mem_replicate.1 hr).2, List.length_map]; exact hzl) (by simp) (by unfold maxLen; omega) (by simp [size_madeCells])
        (by
          rw [List.length_replicate, List.take_of_length_le (by simp [size_madeCells]), hmc]
          refine Cells.replicate hc ⟨fun _ _ => False, by rw [List.length_map, hzl]; simpa using hzs, fun p v dd hv hdd => ?_, fun _ _ h => h.elim, fun _ _ _ _ h => h.elim⟩ j
          rw [List.getElem?_map, Option.map_eq_some_iff] at hdd
          obtain ⟨t, ht, rfl⟩ := hdd
          exact zD_ok hm hzt w _ p v t hv ht) []
      simp only [List.length_replicate, List.map_nil, List.nil_append] at h'
      unfold Oper.wp
      rw [hexec]
      show K (a.put o.dst _) _
      rw [hdst]
      exact hK _ _ ρ' h'
  · exact h.elim
theorem isBytes_ok {ti : TI} (hΓ : Γ.chk P = true) (h : isBytes Γ ti = true) : ∃ e te ie de, ti.elem = some e ∧ Γ.get e = some te ∧ te.Fit P e ie de ∧ de = .int .u8 := by
  unfold isBytes at h
  split at h
  · rename_i e he
    split at h
    · rename_i te hE
      obtain ⟨ie, de, fite⟩ := Env.fit hΓ hE
      split at h
      · rename_i hk
        refine ⟨e, te, ie, de, he, hE, fite, ?_⟩
        have := fite.kind
        rw [hk] at this
        cases de <;> simp [dKind] at this
        rw [this]
      · cases h
    · cases h
  · cases h
theorem byteRow_flat (bs : List UInt8) : (bs.map byteRow).flatten = bs.map fun u => Tr.int .u8 u.toNat := by
  induction bs with
  | nil => rfl
  | cons b bs ih => simp [byteRow, ← ih]
theorem RTs_mkBytes {ok : Nat → Prop} : ∀ bs : List UInt8, RTs w ok (bs.map fun u => Value.int .u8 u.toNat) (bs.map fun u => Tr.int .u8 u.toNat)
  | [] => trivial
  | _ :: bs => ⟨.int _ _, RTs_mkBytes bs⟩
theorem RTs_bytes {ok : Nat → Prop} : ∀ {vs : List Value} {bs : List UInt8}, RTs w ok vs (bs.map fun u => Tr.int .u8 u.toNat) → vs = bs.map fun u => Value.int .u8 u.toNat
  | [], [], _ => rfl
  | v :: vs, b :: bs, h => by
    have h1 : RT w ok v (.int .u8 b.toNat) := h.1
    have : v = .int .u8 b.toNat := by cases h1; rfl
    rw [this, RTs_bytes h.2]
    rfl
  | [], _ :: _, h => h.elim
  | _ :: _, [], h => h.elim
theorem src_slice {esz : Nat} {y : AV} {K2 : Bool → List (List Tr) → List Id → Prop} {ok : Nat → Prop} {v : Value} (h : srcRows esz y H K2) (hn : ∀ t, y ≠ tS t) (hv : RV B ρ w ok v y) : ∃ A n c, v = .slice A n c := by
  unfold srcRows at h
  split at h
  · rename_i b; exact absurd rfl (hn b)
  · exact ⟨_, _, _, hv⟩
  · have hv : RT w ok v (.lst _ _) := hv
    obtain ⟨A, c, e, _⟩ := hv.slice_inv
    exact ⟨_, _, _, e⟩
  · have hv : RT w (okF B ok true) v (.lst _ _) := hv
    obtain ⟨A, c, e, _⟩ := hv.slice_inv
    exact ⟨_, _, _, e⟩
  · obtain ⟨⟨A, n, c, e⟩, e1⟩ := hv
    exact ⟨_, _, _, e1.trans e⟩
  · obtain ⟨A, n, c, _, e1, _⟩ := hv
    exact ⟨_, _, _, e1⟩
  · exact h.elim
theorem sound_convert {Ts Td : TypeId} {d : Nat} {x : Operand} {ts td : TI} (hΓ : Γ.chk P = true) (hTs : Γ.get Ts = some ts) (hTd : Γ.get Td = some td) (hdst : o.dst = some d)
    (ho : o.op = .convert Ts Td x) (h : semConvert Γ ts td d (ev x) H K) : ∃ ef, K ef ∧ Good P o ev H ef := by
  obtain ⟨is, ds, fits⟩ := Env.fit hΓ hTs
  obtain ⟨id, dd, fitd⟩ := Env.fit hΓ hTd
  have hopx : x ∈ o.op.operands.toList := by simp [ho, Op.operands]
  unfold semConvert at h
  split at h
  · rename_i k n hx
    split at h
    · rename_i k' hk
      have hd : dd = .int k' := by have := fitd.kind; rw [hk] at this; cases dd <;> simp [dKind] at this; rw [this]
      subst hd
      refine ⟨_, h, good_val fun N B M w0 ρ s a w hc hop hR => ?_⟩
      have hv := (hc.eval x).1
      rw [hop x hopx, hx] at hv
      have e1 := inv_int hv
      refine ⟨.int k' (k'.wrap n), ?_, .int _ _, by simp [AV.ids, AR.ids, AC.ids]⟩
      have : (convert Ts Td (.int k n)).run P w = .ok (.int k' (k'.wrap n)) w := by
        simp only [convert, Sem.run_bind, run_underlying fits.und, run_underlying fitd.und, Result.andThen_ok]
        cases ds <;> simp [Conv.intToInt]
      simp only [execOp, ho, e1, Sem.run_bind, this, Result.andThen_ok, Sem.run_pure]
    · exact h.elim
  · rename_i t hx
    split at h
    · rename_i hs
      have hd : dd = .string := by have := fitd.str; rw [hs] at this; cases dd <;> simp [dStr] at this ⊢
      subst hd
      refine ⟨_, h, good_val fun N B M w0 ρ s a w hc hop hR => ?_⟩
      have hv := (hc.eval x).1
      rw [hop x hopx, hx] at hv
      have e1 := inv_str hv
      refine ⟨.string ⟨t.toArray⟩, ?_, .str _, by simp [AV.ids, AR.ids, AC.ids]⟩
      have : (convert Ts Td (.string ⟨t.toArray⟩)).run P w = .ok (.string ⟨t.toArray⟩) w := by
        simp only [convert, Sem.run_bind, run_underlying fits.und, run_underlying fitd.und, Result.andThen_ok]
        cases ds <;> simp
      simp only [execOp, ho, e1, Sem.run_bind, this, Result.andThen_ok, Sem.run_pure]
    · split at h
      · rename_i hbt
        simp only [Bool.and_eq_true] at hbt
        obtain ⟨hss, hbt⟩ := hbt
        obtain ⟨e, te, ie, de, he, hE, fite, rfl⟩ := isBytes_ok hΓ hbt
        have hsd : ds = .string := by have := fits.str; rw [hss] at this; cases ds <;> simp [dStr] at this ⊢
        subst hsd
        have hd := dslice fitd he
        subst hd
        obtain ⟨hlen, hK⟩ := h
        refine ⟨_, hK, ?_⟩
        intro N B M w0 ρ s a w Q K hc hop hR hnew hd hK
        rw [hdst] at hd hK
        have hv := (hc.eval x).1
        rw [hop x hopx, hx] at hv
        have e1 := inv_str hv
        have hsz : (⟨t.toArray⟩ : ByteArray).size = t.length := by simp [ByteArray.size]
        have hr := run_bytes_of_string w Ts Td e ⟨t.toArray⟩ fits.und fitd.und fite.und
        have hge := grownCap_ge w (⟨t.toArray⟩ : ByteArray).size 0 e
        have hle := grownCap_le_maxLen w (⟨t.toArray⟩ : ByteArray).size 0 e (by rw [hsz]; unfold maxLen; omega)
        generalize grownCap w (⟨t.toArray⟩ : ByteArray).size 0 e = gc at hr hge hle
        rw [hsz] at hr hge
        have hexec : (execOp a.eval o).run P w = .ok (.value (.slice (some ⟨w.heap.size, 0, none⟩) t.length gc)) (w.drew.alloc (.cells (bytesRow ⟨t.toArray⟩ gc) e ((bytesRow ⟨t.toArray⟩ gc).size, (bytesRow ⟨t.toArray⟩ gc).size + 1))) := by
          simp only [execOp, ho, e1, Sem.run_bind, hr, Result.andThen_ok, Sem.run_pure]
        have hrs : (bytesRow ⟨t.toArray⟩ gc).size = gc := by simp [bytesRow, ByteArray.size]; omega
        have hrl : (bytesRow ⟨t.toArray⟩ gc).toList.take t.length = t.map fun u => Value.int .u8 u.toNat := by
          simp only [bytesRow, Array.toList_append]
          rw [List.take_append_of_le_length (by simp)]
          rw [List.take_of_length_le (by simp)]
          simp
        obtain ⟨ρ', h'⟩ := hc.newArr (hd d rfl) (hnew d rfl) [] (w' := w.drew.alloc (.cells (bytesRow ⟨t.toArray⟩ gc) e ((bytesRow ⟨t.toArray⟩ gc).size, (bytesRow ⟨t.toArray⟩ gc).size + 1))) ((Turn.drew _ w).trans (Turn.alloc _ _ _)) (b := w.heap.size) (cap := gc) (sz := 1)
          (us := bytesRow ⟨t.toArray⟩ gc) (e := e) (fz := ((bytesRow ⟨t.toArray⟩ gc).size, (bytesRow ⟨t.toArray⟩ gc).size + 1)) (rows := t.map byteRow) (fr := true) (Nat.le_refl _) (heap_alloc_new w.drew _) (fun p hp h => by omega) (by intro r hr; obtain ⟨u, _, rfl⟩ := List.mem_map.1 hr; rfl) (by simpa using hge) hle
          (by rw [hrs]; omega) (fun ok' _ _ => by
            simp only [List.length_map, Nat.mul_one]
            rw [hrl, byteRow_flat]
            exact RTs_mkBytes t) []
        simp only [List.length_map, List.map_nil, List.nil_append] at h'
        unfold Oper.wp
        rw [hexec]
        show K (a.put o.dst _) _
        rw [hdst]
        exact hK _ _ ρ' h'
      · exact h.elim
  · rename_i hn1 hn2
    split at h
    · rename_i hs hbt
      obtain ⟨e, te, ie, de, he, hE, fite, rfl⟩ := isBytes_ok hΓ hbt
      have hd := dslice fits he
      subst hd
      have hd : dd = .string := by have := fitd.str; rw [hs] at this; cases dd <;> simp [dStr] at this ⊢
      subst hd
      obtain ⟨_, rows, R, ⟨bs, rfl, hK⟩, hsrc⟩ := src_ok h
      refine ⟨_, hK, good_val fun N B M w0 ρ s a w hc hop hR => ?_⟩
      obtain ⟨nv, f1, f2, f3, f4⟩ := hsrc N B M w0 ρ s a w hc (hop x hopx) hR
      rw [byteRow_flat] at f3
      have hnv := RTs_bytes f3
      subst hnv
      refine ⟨.string ⟨bs.toArray⟩, ?_, .str _, by simp [AV.ids, AR.ids, AC.ids]⟩
      have hv := (hc.eval x).1
      rw [hop x hopx] at hv
      obtain ⟨A, n, c, e1⟩ := src_slice h (fun t ht => hn2 t ht) hv
      have hlen := f1 P w
      rw [e1] at hlen
      simp only [Builtin.lenOf, Sem.run_pure, Result.ok.injEq, and_true, List.length_map] at hlen
      subst hlen
      have hcells := f2 P w rfl
      rw [e1] at hcells
      have hconv : (convert Ts Td (.slice A bs.length c)).run P w = .ok (.string ⟨bs.toArray⟩) w := by
        cases A with
        | none =>
          simp only [Builtin.firstCells, Sem.run_pure, Result.ok.injEq, and_true] at hcells
          have : bs = [] := by
            have := congrArg Array.size hcells
            simp at this
            exact List.eq_nil_of_length_eq_zero this.symm
          subst this
          rw [run_convert_bytes_string w Ts Td e none _ c fits.und fite.und fitd.und]
          simp [Conv.bytesToString]
          rfl
        | some ad =>
          simp only [Builtin.firstCells, List.length_map, Nat.mul_one] at hcells
          rw [run_convert_bytes_string w Ts Td e (some ad) _ c fits.und fite.und fitd.und]
          rw [run_bytesToString w ad bs.length c (bs.map fun u => (u.toNat : Int)) (by rw [hcells]; simp), foldl_push_byteCells]
          simp
      simp only [execOp, ho, e1, Sem.run_bind, hconv, Result.andThen_ok, Sem.run_pure]
    · exact h.elim
theorem sound_field {T ft : TypeId} {x : Operand} {f off sz : Nat} {ti to : TI} (hΓ : Γ.chk P = true) (hT : Γ.get T = some ti) (hf : ti.fields[f]? = some (off, sz, ft)) (hft : Γ.get ft = some to)
    (ho : o.op = .field T x f) (h : semField off to (ev x) KV) : ∃ v, KV v ∧ Good P o ev H (.val v []) := by
  obtain ⟨i, d, fit⟩ := Env.fit hΓ hT
  obtain ⟨fs, F, rfl, h1, h2, h3, _⟩ := fit.field hf
  subst h3
  obtain ⟨io, dO, fito⟩ := Env.fit hΓ hft
  have hopx : x ∈ o.op.operands.toList := by simp [ho, Op.operands]
  unfold semField at h
  split at h
  · rename_i cs hx
    have base : ∀ (N B : Nat) (M : Nat → Prop) (w0 : Start) (ρ : Rho) (s : F_) (a : Act) (w : World), Conc N B M w0 ρ s a w → (∀ x ∈ o.op.operands.toList, evL s.L x = ev x) →
        ∃ us, a.eval x = .agg us ∧ RCs B ρ w (okB ρ s.H w) us.toList cs ∧ ∀ id ∈ cs.flatMap AC.ids, s.U id.1 := by
      intro N B M w0 ρ s a w hc hop
      have hv := hc.eval x
      rw [hop x hopx, hx] at hv
      obtain ⟨⟨us, e1, e2⟩, e3⟩ := hv
      exact ⟨us, e1, e2, e3⟩
    split at h
    · rename_i hagg
      split at h
      · rename_i xs hcut
        obtain ⟨g1, g2⟩ := cut_spec hcut
        refine ⟨_, h, good_val fun N B M w0 ρ s a w hc hop hR => ?_⟩
        obtain ⟨us, e1, e2, e3⟩ := base N B M w0 ρ s a w hc hop
        refine ⟨.agg (us.extract off (off + to.size)), ?_, ⟨_, rfl, ?_⟩, ?_⟩
        · simp [execOp, ho, e1, Instr.field, run_underlying fit.und, h1, asAgg, part, run_isAgg fito.und, fito.agg, hagg, run_sizeOf fito.info, fito.size, h2]
        · rw [g2]
          have := (e2.drop off).take to.size
          simpa [List.drop_take] using this
        · rw [g2]; exact ids_take_drop e3 off to.size
      · exact h.elim
    · rename_i hagg
      split at h
      · rename_i c hcut
        obtain ⟨g1, g2⟩ := cut_spec hcut
        refine ⟨_, h, good_val fun N B M w0 ρ s a w hc hop hR => ?_⟩
        obtain ⟨us, e1, e2, e3⟩ := base N B M w0 ρ s a w hc hop
        have hc0 : cs[off]? = some c := by
          have : ((cs.drop off).take 1)[0]? = some c := by rw [← g2]; rfl
          simpa using this
        obtain ⟨u, hu, hru⟩ := e2.get off c hc0
        have hu' : us[off]? = some u := by simpa using hu
        refine ⟨u, ?_, hru, fun id hid => e3 id (List.mem_flatMap.2 ⟨c, List.mem_of_getElem? hc0, hid⟩)⟩
        simp [execOp, ho, e1, Instr.field, run_underlying fit.und, h1, asAgg, part, run_isAgg fito.und, fito.agg, hagg, h2, hu']
      · exact h.elim
  · exact h.elim
theorem fill_lay (places : Nat → Option (Nat × Nat)) {B : Nat} {ρ : Rho} {w : World} {ok : Nat → Prop} {f : Operand → Value} {fs : List (Nat × Nat × TypeId)} (hp : ∀ i off sz ft, fs[i]? = some (off, sz, ft) → places i = some (off, sz)) :
    ∀ (parts : List (Nat × Operand)) (zero : List AC) (cells : Array Value) (K : List AC → Prop), (∀ p ∈ parts, RV B ρ w ok (f p.2) (ev p.2)) → RCs B ρ w ok cells.toList zero →
      semBuild fs zero (parts.map fun p => (p.1, ev p.2)) K → ∃ cs out, K cs ∧ Instr.fill places cells (parts.map fun p => (p.1, f p.2)) = some out ∧ RCs B ρ w ok out.toList cs
  | [], zero, cells, K, _, hr, h => ⟨zero, cells, h, by simp [Instr.fill], hr⟩
  | (i, x) :: parts, zero, cells, K, hv, hr, h => by
    simp only [List.map_cons, semBuild] at h
    cases hx : ev x with
    | r ar =>
      rw [hx] at h
      simp only [semBuild] at h
      split at h
      · rename_i off sz ft hoff
        split at h
        · rename_i z hbq hlay
          have hs : ar.cells.length = sz := by simpa using hbq
          have hpl := hp i off sz ft hoff
          obtain ⟨g1, g2⟩ := lay_spec hlay
          have hvx := hv (i, x) (by simp)
          simp only at hvx
          rw [hx] at hvx
          have hcells := RR.cells hvx
          have hcl := hcells.length
          have hrl := hr.length
          have hfold : (f x).cells.zipIdx.foldl (fun cs (y : Value × Nat) => cs.setIfInBounds (off + y.2) y.1) cells = (cells.toList.take off ++ (f x).cells.toList ++ cells.toList.drop (off + (f x).cells.toList.length)).toArray := by
            have key : ∀ (vs : List Value) (k : Nat) (cells : Array Value), off + k + vs.length ≤ cells.size →
                (vs.zipIdx k).foldl (fun (cs : Array Value) (y : Value × Nat) => cs.setIfInBounds (off + y.2) y.1) cells = (cells.toList.take (off + k) ++ vs ++ cells.toList.drop (off + k + vs.length)).toArray := by
              intro vs
              induction vs with
              | nil => intro k cells _; simp
              | cons u vs ih =>
                intro k cells hl
                simp only [List.length_cons] at hl
                simp only [List.zipIdx_cons, List.foldl_cons]
                rw [ih (k + 1) _ (by simp; omega)]
                have hlt : off + k < cells.toList.length := by simp; omega
                have e1 : (cells.toList.set (off + k) u).take (off + (k + 1)) = cells.toList.take (off + k) ++ [u] := by
                  rw [show off + (k + 1) = off + k + 1 by omega, List.take_succ_eq_append_getElem (by simp; omega)]
                  simp [List.take_set_of_le]
                have e2 : (cells.toList.set (off + k) u).drop (off + (k + 1) + vs.length) = cells.toList.drop (off + k + (vs.length + 1)) := by
                  rw [List.drop_set_of_lt (by omega)]
                  congr 1; omega
                simp only [Array.toList_setIfInBounds, List.length_cons, e1, e2]
                simp
            have := key (f x).cells.toList 0 cells (by rw [hcl]; simp at hrl; omega)
            rw [← Array.foldl_toList, Array.toList_zipIdx]
            simpa using this
          have hr' : RCs B ρ w ok (cells.toList.take off ++ (f x).cells.toList ++ cells.toList.drop (off + (f x).cells.toList.length)) z := by
            rw [g2, hcl]
            exact ((hr.take off).append hcells).append (hr.drop _)
          obtain ⟨cs, out, k1, k2, k3⟩ := fill_lay places hp parts z (cells.toList.take off ++ (f x).cells.toList ++ cells.toList.drop (off + (f x).cells.toList.length)).toArray K (fun p hp' => hv p (by simp [hp'])) hr' h
          refine ⟨cs, out, k1, ?_, k3⟩
          simp only [List.map_cons, Instr.fill, hpl]
          have hc1 : (f x).cells.size = sz := by rw [← hs, ← hcl]; simp
          rw [if_neg (by simp at hrl; simp [hc1]; omega), hfold]
          exact k2
        · exact h.elim
      · exact h.elim
    | tup => rw [hx] at h; exact h.elim
    | el => rw [hx] at h; exact h.elim
    | ro => rw [hx] at h; exact h.elim
    | unk => rw [hx] at h; exact h.elim
theorem run_mapM {α β : Type} (g : α → Sem β) (g' : α → β) (w : World) : ∀ l : List α, (∀ x ∈ l, (g x).run P w = .ok (g' x) w) → (l.mapM g).run P w = .ok (l.map g') w
  | [], _ => by simp
  | x :: l, h => by
    simp only [List.mapM_cons, Sem.run_bind, h x (by simp), Result.andThen_ok, run_mapM g g' w l (fun y hy => h y (by simp [hy])), Sem.run_pure, List.map_cons]
theorem sound_build {T : TypeId} {parts : Array (Nat × Operand)} {ti : TI} (hΓ : Γ.chk P = true) (hT : Γ.get T = some ti) (ho : o.op = .build T parts) (hne : ti.fields ≠ [])
    (h : semBuild ti.fields ti.zero (parts.toList.map fun p => (p.1, ev p.2)) fun cs => K (.val (.r (.agg cs)) [])) : ∃ ef, K ef ∧ Good P o ev H ef := by
  obtain ⟨i, d, fit⟩ := Env.fit hΓ hT
  obtain ⟨z, hz, hm⟩ := fit.zero
  have hstruct : ∃ fs, d = .struct fs ∧ fs.toList.map (fun f => (f.offset, P.cellsOf f.type, f.type)) = ti.fields ∧ ∀ F ∈ fs.toList, P.cellsOf F.type ≠ 0 := by
    have ho := fit.fields
    cases d <;> simp only [dFields] at ho <;> try (rw [List.isEmpty_iff] at ho; exact absurd ho hne)
    rename_i fs
    simp only [Bool.and_eq_true, decide_eq_true_eq, List.all_eq_true, Bool.not_eq_true'] at ho
    refine ⟨fs, rfl, ho.1, fun F hF e => ?_⟩
    have := ho.2 (F.offset, P.cellsOf F.type, F.type) (by rw [← ho.1]; exact List.mem_map.2 ⟨F, hF, rfl⟩)
    simp only [e] at this
    simp at this
  obtain ⟨fs, rfl, hfs, hpos⟩ := hstruct
  have hplaces : ∀ w : World, (fs.mapM (fun f : Field => (do pure (f.offset, ← sizeOf f.type) : Sem (Nat × Nat)))).run P w = .ok (fs.map fun f : Field => (f.offset, P.cellsOf f.type)) w := by
    intro w
    rw [Array.mapM_eq_mapM_toList]
    have := run_mapM (P := P) (fun f : Field => (do pure (f.offset, ← sizeOf f.type) : Sem (Nat × Nat))) (fun f : Field => (f.offset, P.cellsOf f.type)) w fs.toList (fun F hF => by
      have := hpos F hF
      unfold Program.cellsOf at this ⊢
      cases hi : P.info? F.type with
      | none => rw [hi] at this; simp at this
      | some j => simp [run_sizeOf hi])
    rw [Sem.run_map, this, Result.andThen_ok]
    congr 1
    apply Array.ext'
    simp
  have hpl : ∀ (i off sz : Nat) (ft : TypeId), ti.fields[i]? = some (off, sz, ft) → (fs.map fun f : Field => (f.offset, P.cellsOf f.type))[i]? = some (off, sz) := by
    intro i off sz ft hi
    rw [← hfs, List.getElem?_map, Option.map_eq_some_iff] at hi
    obtain ⟨F, g1, g2⟩ := hi
    simp only [Prod.mk.injEq] at g2
    have : fs[i]? = some F := by simpa using g1
    simp [this, g2.1, g2.2.1]
  have key : ∀ (B : Nat) (ρ : Rho) (w : World) (ok : Nat → Prop) (f : Operand → Value) (K2 : List AC → Prop), (∀ p ∈ parts.toList, RV B ρ w ok (f p.2) (ev p.2)) → semBuild ti.fields ti.zero (parts.toList.map fun p => (p.1, ev p.2)) K2 →
      ∃ cs out, K2 cs ∧ Instr.fill (fun i => (fs.map fun f : Field => (f.offset, P.cellsOf f.type))[i]?) z.cells (parts.toList.map fun p => (p.1, f p.2)) = some out ∧ RCs B ρ w ok out.toList cs := by
    intro B ρ w ok f K2 hv h
    exact fill_lay _ hpl parts.toList ti.zero z.cells K2 hv (zMatches_ok hm) h
  have det : ∀ (l : List (Nat × AV)) (zero : List AC) (K1 : List AC → Prop), semBuild ti.fields zero l K1 → ∃ cs, K1 cs ∧ ∀ K2 : List AC → Prop, K2 cs → semBuild ti.fields zero l K2 := by
    intro l
    induction l with
    | nil => intro zero K1 h; exact ⟨zero, h, fun K2 h => h⟩
    | cons p l ih =>
      intro zero K1 h
      obtain ⟨i, v⟩ := p
      cases v with
      | r ar =>
        simp only [semBuild] at h ⊢
        split at h
        · rename_i off sz ft hf
          split at h
          · rename_i z' h1 h2
            obtain ⟨cs, g1, g2⟩ := ih _ _ h
            exact ⟨cs, g1, fun K2 hk => g2 K2 hk⟩
          · exact h.elim
        · exact h.elim
      | tup => exact h.elim
      | el => exact h.elim
      | ro => exact h.elim
      | unk => exact h.elim
  obtain ⟨cs, hK, hdet⟩ := det _ _ _ h
  refine ⟨_, hK, good_val fun N B M w0 ρ s a w hc hop hR => ?_⟩
  have hval : ∀ p ∈ parts.toList, RV B ρ w (okB ρ s.H w) (a.eval p.2) (ev p.2) ∧ ∀ id ∈ (ev p.2).ids, s.U id.1 := fun p hp => by
    have := hc.eval p.2
    rwa [hop p.2 (by simp only [ho, Op.operands]; exact List.mem_map.2 ⟨p, hp, rfl⟩)] at this
  obtain ⟨cs', out, rfl, g2, g3⟩ := key B ρ w (okB ρ s.H w) a.eval (fun x => x = cs) (fun p hp => (hval p hp).1) (hdet _ rfl)
  refine ⟨.agg out, ?_, ⟨out, rfl, g3⟩, ?_⟩
  · have : (Instr.build T (parts.map fun p => (p.1, a.eval p.2))).run P w = .ok (.agg out) w := by
      simp only [Instr.build, Sem.run_bind, run_zeroValue fit.info hz, Result.andThen_ok, run_underlying fit.und, hplaces, Array.toList_map]
      simp only [Array.getElem?_map] at g2 ⊢
      rw [g2]
      rfl
    simp only [execOp, ho, Sem.run_bind, this, Result.andThen_ok, Sem.run_pure]
  ·
    have idsb : ∀ (l : List (Nat × AV)) (zero cs : List AC), (∀ id ∈ zero.flatMap AC.ids, s.U id.1) → (∀ p ∈ l, ∀ id ∈ p.2.ids, s.U id.1) → semBuild ti.fields zero l (fun x => x = cs) → ∀ id ∈ cs.flatMap AC.ids, s.U id.1 := by
      intro l
      induction l with
      | nil => intro zero cs hz _ h; cases h; exact hz
      | cons p l ih =>
        intro zero cs hz hl h
        obtain ⟨i, v⟩ := p
        cases v with
        | r ar =>
          simp only [semBuild] at h
          split at h
          · split at h
            · rename_i z' h1 h2
              refine ih z' cs (fun id hid => ?_) (fun p hp => hl p (by simp [hp])) h
              obtain ⟨_, g⟩ := lay_spec h2
              rw [g] at hid
              simp only [List.flatMap_append, List.mem_append] at hid
              rcases hid with (hid | hid) | hid
              · obtain ⟨c, c1, c2⟩ := List.mem_flatMap.1 hid
                exact hz id (List.mem_flatMap.2 ⟨c, List.mem_of_mem_take c1, c2⟩)
              · refine hl (i, .r ar) (by simp) id ?_
                cases ar with
                | c x => simpa [AR.cells, AV.ids, AR.ids] using hid
                | agg xs => exact hid
              · obtain ⟨c, c1, c2⟩ := List.mem_flatMap.1 hid
                exact hz id (List.mem_flatMap.2 ⟨c, List.mem_of_mem_drop c1, c2⟩)
            · exact h.elim
          · exact h.elim
        | tup => exact h.elim
        | el => exact h.elim
        | ro => exact h.elim
        | unk => exact h.elim
    exact idsb _ _ _ (by rw [zMatches_ids hm]; simp) (fun p hp => by
      obtain ⟨q, hq, rfl⟩ := List.mem_map.1 hp
      exact (hval q hq).2) (hdet _ rfl)
end
end Go.Sim
