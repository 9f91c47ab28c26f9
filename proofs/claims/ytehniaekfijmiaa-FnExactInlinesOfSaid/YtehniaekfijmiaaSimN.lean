/- From the statement's reading of the arguments to trees, and from a contract back to the statement. -/
import Derived.Test.YtehniaekfijmiaaSimM
import Derived.ProofKit
import Derived.OpenShut
namespace Go.Sim
open Go.RowKit Go.ChangeShapes Go.WideShapes Go.ChangeAt
def okFs (okT : TypeId → Bool) : Nat → List (Nat × Nat × TypeId) → Nat → Bool
  | o, [], sz => Nat.beq o sz
  | o, (off, s, t) :: r, sz => Nat.beq off o && okT t && okFs okT (o + s) r sz
def okT (Γ : Env) : Nat → TypeId → Bool
  | 0, _ => false
  | n + 1, t => match Γ.get t with
    | none => false
    | some ti => match ti.kind, ti.bool || ti.str, ti.elem, ti.fields with
      | some _, _, _, _ => Nat.beq ti.size 1
      | none, true, _, _ => Nat.beq ti.size 1
      | none, false, some e, _ => Nat.beq ti.size 1 && okT Γ n e
      | none, false, none, f :: fs => okFs (okT Γ n) 0 (f :: fs) ti.size
      | none, false, none, [] => false
def typedFs (T : TypeId → List Tr → Prop) : List (Nat × Nat × TypeId) → List Tr → Prop
  | [], ts => ts = []
  | (_, _, t) :: fs, ts => ∃ xs rest, ts = xs ++ rest ∧ T t xs ∧ typedFs T fs rest
def sizeOfT (Γ : Env) (t : TypeId) : Nat := match Γ.get t with | some ti => ti.size | none => 0
def typed (Γ : Env) : Nat → TypeId → List Tr → Prop
  | 0, _, _ => False
  | n + 1, t, ts => match Γ.get t with
    | none => False
    | some ti => match ti.kind, ti.bool, ti.str, ti.elem with
      | some k, _, _, _ => ∃ m, ts = [.int k m] ∧ (Lit.int k m).wf = true
      | none, true, _, _ => ∃ b, ts = [.bool b]
      | none, false, true, _ => ∃ s : List UInt8, ts = [.str s] ∧ s.length ≤ maxLen
      | none, false, false, some e => ∃ rows, ts = [.lst (sizeOfT Γ e) rows] ∧ rows.length ≤ maxLen ∧ ∀ r ∈ rows, typed Γ n e r
      | none, false, false, none => typedFs (typed Γ n) ti.fields ts
def typedV (Γ : Env) (n : Nat) (t : TypeId) (x : TV) : Prop :=
  match Γ.get t with
  | none => False
  | some ti => match ti.agg with
    | true => ∃ xs, x = .agg xs ∧ typed Γ n t xs
    | false => ∃ y, x = .c y ∧ typed Γ n t [y]
def typedVs (Γ : Env) (n : Nat) : List TypeId → List TV → Prop
  | [], [] => True
  | t :: ts, x :: xs => typedV Γ n t x ∧ typedVs Γ n ts xs
  | _, _ => False
section
variable {H : Type} {enc : TypeId × Value → H} {P : Program} {Γ : Env} {w : World} {sp : Nat → Bool} {held : Bool}
theorem string_data (s : ByteArray) : s = ⟨s.data.toList.toArray⟩ := by cases s; simp
theorem trod_typed (hΓ : Γ.chk P = true) : ∀ (n : Nat) (t : TypeId) (fuel : Nat) (cs : List Value) (x : DataW H × List MemPlace), okT Γ n t = true → DataW.trod enc P w 0 sp held fuel t cs = some x →
    ∃ ts, RTs w (fun b => b < w.heap.size) cs ts ∧ typed Γ n t ts ∧ ts.length = sizeOfT Γ t := by
  intro n
  induction n with
  | zero => intro t fuel cs x h; simp [okT] at h
  | succ n ih =>
    intro t fuel cs x hok hx
    simp only [okT] at hok
    cases hT : Γ.get t with
    | none => rw [hT] at hok; simp at hok
    | some ti =>
      obtain ⟨i, d, fit⟩ := Env.fit hΓ hT
      rw [hT] at hok
      simp only at hok
      simp only [typed, hT, sizeOfT]
      cases d with
      | int k =>
        obtain ⟨m, rfl, rfl, hw⟩ := DataW.trod_int fit.und hx
        have hk : ti.kind = some k := fit.kind.symm
        simp only [hk, Nat.beq_eq] at hok ⊢
        exact ⟨[.int k m], ⟨.int k m, trivial⟩, ⟨m, rfl, hw⟩, hok.symm⟩
      | bool =>
        obtain ⟨b, rfl, rfl⟩ := DataW.trod_bool fit.und hx
        have hk : ti.kind = none := fit.kind.symm
        have hb : ti.bool = true := fit.bool.symm
        simp only [hk, hb, Bool.true_or, Nat.beq_eq] at hok ⊢
        exact ⟨[.bool b], ⟨.bool b, trivial⟩, ⟨b, rfl⟩, hok.symm⟩
      | string =>
        obtain ⟨s, rfl, rfl, hs⟩ := DataW.trod_string fit.und hx
        have hk : ti.kind = none := fit.kind.symm
        have hb : ti.bool = false := fit.bool.symm
        have hst : ti.str = true := fit.str.symm
        simp only [hk, hb, hst, Bool.or_true, Nat.beq_eq] at hok ⊢
        refine ⟨[.str s.data.toList], ⟨?_, trivial⟩, ⟨_, rfl, by simpa using hs⟩, hok.symm⟩
        have := RT.str (w := w) (ok := fun b => b < w.heap.size) s.data.toList
        rwa [← string_data s] at this
      | slice e =>
        have hk : ti.kind = none := fit.kind.symm
        have hb : ti.bool = false := fit.bool.symm
        have hst : ti.str = false := fit.str.symm
        have he : ti.elem = some e := fit.elem.symm
        simp only [hk, hb, hst, he, Bool.or_self, Bool.and_eq_true, Nat.beq_eq] at hok ⊢
        obtain ⟨hz1, hok⟩ := hok
        rcases DataW.trod_slice fit.und hx with ⟨rfl, rfl⟩ | ⟨a, len, cap, elems, rest, m, rfl, rfl, rfl, _, hlen, hcap, hel, hread, _, _⟩
        · exact ⟨[.lst (sizeOfT Γ e) []], ⟨.emp _ _ _ (by simp [maxLen]), trivial⟩, ⟨[], rfl, by simp, by simp⟩, hz1.symm⟩
        · have hsz : P.cellsOf e = sizeOfT Γ e ∧ sizeOfT Γ e ≠ 0 := by
            cases hE : Γ.get e with
            | none => cases n <;> simp [okT, hE] at hok
            | some te =>
              obtain ⟨ie, de, fite⟩ := Env.fit hΓ hE
              simp only [Program.cellsOf, fite.info, Option.map_some, Option.getD_some, sizeOfT, hE]
              exact ⟨fite.size, fite.pos⟩
          have hrow : ∀ j, j < len → ∃ us row, us.length = P.cellsOf e ∧ (∀ p, p < P.cellsOf e → w.cell? (a.add (j * P.cellsOf e + p)) = us[p]?) ∧ RTs w (fun b => b < w.heap.size) us row ∧ typed Γ n e row ∧ row.length = sizeOfT Γ e := by
            intro j hj
            have h1 := hread j hj
            have h2 : j < elems.length := by omega
            rw [List.getElem?_eq_getElem h2] at h1
            obtain ⟨us, g1, g2⟩ := Option.bind_eq_some_iff.1 h1
            obtain ⟨_, g3, g4⟩ := World.cells?_some g1
            obtain ⟨row, g5, g6, g7⟩ := ih e m us _ hok g2
            exact ⟨us, row, g3, fun p hp => by rw [← add_add]; exact g4 p hp, g5, g6, g7⟩
          obtain ⟨f, hf⟩ : ∃ f : Nat → List Value × List Tr, ∀ j, j < len → (f j).1.length = P.cellsOf e ∧ (∀ p, p < P.cellsOf e → w.cell? (a.add (j * P.cellsOf e + p)) = (f j).1[p]?) ∧ RTs w (fun b => b < w.heap.size) (f j).1 (f j).2 ∧ typed Γ n e (f j).2 ∧ (f j).2.length = sizeOfT Γ e := by
            refine ⟨fun j => if h : j < len then (⟨(hrow j h).choose, (hrow j h).choose_spec.choose⟩) else ([], []), fun j hj => ?_⟩
            simp only [dif_pos hj]
            exact (hrow j hj).choose_spec.choose_spec
          let rows := (List.range len).map fun j => (f j).2
          let us := ((List.range len).map fun j => (f j).1).flatten
          have hrl : ∀ r ∈ rows, r.length = sizeOfT Γ e ∧ typed Γ n e r := by
            intro r hr
            obtain ⟨j, hj, rfl⟩ := List.mem_map.1 hr
            have := hf j (by simpa using hj)
            exact ⟨this.2.2.2.2, this.2.2.2.1⟩
          have hflat : ∀ k, k ≤ len → RTs w (fun b => b < w.heap.size) ((List.range k).map fun j => (f j).1).flatten ((List.range k).map fun j => (f j).2).flatten ∧ ((List.range k).map fun j => (f j).1).flatten.length = k * P.cellsOf e ∧
              ∀ p, p < k * P.cellsOf e → w.cell? (a.add p) = (((List.range k).map fun j => (f j).1).flatten)[p]? := by
            intro k
            induction k with
            | zero => intro _; exact ⟨trivial, by simp, fun p hp => by simp at hp⟩
            | succ k ihk =>
              intro hk'
              obtain ⟨q1, q2, q3⟩ := ihk (by omega)
              obtain ⟨r1, r2, r3, _, _⟩ := hf k (by omega)
              have e1 : ((List.range (k + 1)).map fun j => (f j).1).flatten = ((List.range k).map fun j => (f j).1).flatten ++ (f k).1 := by rw [List.range_succ]; simp
              have e2 : ((List.range (k + 1)).map fun j => (f j).2).flatten = ((List.range k).map fun j => (f j).2).flatten ++ (f k).2 := by rw [List.range_succ]; simp
              rw [e1, e2]
              refine ⟨RTs.append q1 r3, by rw [List.length_append, q2, r1, Nat.add_mul]; omega, fun p hp => ?_⟩
              rcases Nat.lt_or_ge p (k * P.cellsOf e) with hlt | hge
              · rw [List.getElem?_append_left (by omega)]; exact q3 p hlt
              · rw [List.getElem?_append_right (by omega), q2]
                have := r2 (p - k * P.cellsOf e) (by rw [Nat.add_mul] at hp; omega)
                rwa [show k * P.cellsOf e + (p - k * P.cellsOf e) = p by omega] at this
          obtain ⟨q1, q2, q3⟩ := hflat len (Nat.le_refl _)
          have hrlen : rows.length = len := by simp [rows]
          refine ⟨[.lst (sizeOfT Γ e) rows], ⟨?_, trivial⟩, ⟨rows, rfl, by rw [hrlen]; omega, fun r hr => (hrl r hr).2⟩, hz1.symm⟩
          cases Nat.eq_zero_or_pos len with
          | inl h0 =>
            have : rows = [] := by simp [rows, h0]
            rw [this, h0]
            exact .emp _ _ _ hcap
          | inr hpos =>
            refine .lst a len cap (sizeOfT Γ e) rows us hrlen hlen hcap (fun r hr => (hrl r hr).1) ?_ q1.length (fun p v hv => ?_) (fun p v u hv hu => q1.get p v u hv hu)
            · have hp0 : 0 < len * P.cellsOf e := Nat.mul_pos hpos (by rw [hsz.1]; omega)
              have := q3 0 hp0
              have h0 : 0 < us.length := by show 0 < (((List.range len).map fun j => (f j).1).flatten).length; omega
              have h2 : w.cell? (a.add 0) = some us[0] := by rw [this]; exact List.getElem?_eq_getElem h0
              have := World.block_lt_of_cell? w _ h2
              rwa [add_block] at this
            · have hp : p < len * P.cellsOf e := by
                rw [← q2]
                rcases Nat.lt_or_ge p us.length with h' | h'
                · exact h'
                · rw [List.getElem?_eq_none h'] at hv; cases hv
              rw [q3 p hp]; exact hv
      | struct fs =>
        have hk : ti.kind = none := fit.kind.symm
        have hb : ti.bool = false := fit.bool.symm
        have hst : ti.str = false := fit.str.symm
        have he : ti.elem = none := fit.elem.symm
        simp only [hk, hb, hst, he, Bool.or_self] at hok ⊢
        obtain ⟨xs, m, rfl, rfl, hl, hxl, hfs⟩ := DataW.trod_struct fit.und hx
        have hcs : cs.length = ti.size := by
          rw [hl]
          simp only [Program.cellsOf, fit.info, Option.map_some, Option.getD_some]
          exact fit.size
        have hok' : okFs (okT Γ n) 0 ti.fields ti.size = true := by
          cases hfl : ti.fields with
          | nil => rw [hfl] at hok; simp at hok
          | cons f fl => rw [hfl] at hok; exact hok
        have key : ∀ (l : List (Nat × Nat × TypeId)) (o : Nat), okFs (okT Γ n) o l ti.size = true → (∀ f ∈ l, ∃ y, DataW.trod enc P w 0 sp held m f.2.2 ((cs.drop f.1).take f.2.1) = some y ∧ P.cellsOf f.2.2 = f.2.1) → o ≤ ti.size →
            ∃ ts, RTs w (fun b => b < w.heap.size) (cs.drop o) ts ∧ typedFs (typed Γ n) l ts ∧ ts.length = ti.size - o := by
          intro l
          induction l with
          | nil =>
            intro o h _ _
            simp only [okFs, Nat.beq_eq] at h
            have : cs.drop o = [] := by rw [List.drop_eq_nil_iff]; omega
            rw [this]
            exact ⟨[], trivial, rfl, by simp; omega⟩
          | cons f l ihl =>
            obtain ⟨off, s, ft⟩ := f
            intro o h hr ho
            simp only [okFs, Bool.and_eq_true, Nat.beq_eq] at h
            obtain ⟨⟨rfl, h2⟩, h3⟩ := h
            obtain ⟨y, hy, hcl⟩ := hr (off, s, ft) (by simp)
            obtain ⟨ts1, g1, g2, g3⟩ := ih ft m _ _ h2 hy
            have hs : ts1.length = ((cs.drop off).take s).length := g1.length.symm
            have hsz : sizeOfT Γ ft = s := by
              cases hE : Γ.get ft with
              | none => cases n <;> simp [okT, hE] at h2
              | some te =>
                obtain ⟨ie, de, fite⟩ := Env.fit hΓ hE
                simp only at hcl
                rw [← hcl]
                simp only [Program.cellsOf, fite.info, Option.map_some, Option.getD_some, sizeOfT, hE]
                exact fite.size.symm
            have hle : off + s ≤ ti.size := by
              simp only [List.length_take, List.length_drop] at hs
              have hpos : s ≠ 0 := by
                cases hE : Γ.get ft with
                | none => cases n <;> simp [okT, hE] at h2
                | some te =>
                  obtain ⟨ie, de, fite⟩ := Env.fit hΓ hE
                  rw [← hsz]; simp only [sizeOfT, hE]; exact fite.pos
              omega
            obtain ⟨ts2, g4, g5, g6⟩ := ihl (off + s) h3 (fun f hf => hr f (by simp [hf])) hle
            refine ⟨ts1 ++ ts2, ?_, ⟨ts1, ts2, rfl, g2, g5⟩, by simp; omega⟩
            have e : cs.drop off = (cs.drop off).take s ++ cs.drop (off + s) := by rw [← List.drop_drop, List.take_append_drop]
            rw [e]
            exact RTs.append g1 g4
        have hfields := fit.fields
        simp only [dFields, Bool.and_eq_true, decide_eq_true_eq] at hfields
        obtain ⟨ts, g1, g2, g3⟩ := key ti.fields 0 hok' (fun f hf => by
          rw [← hfields.1] at hf
          obtain ⟨F, h1, rfl⟩ := List.mem_map.1 hf
          obtain ⟨i, hi⟩ := List.getElem?_of_mem h1
          have hi' : fs[i]? = some F := by simpa using hi
          have hlt : i < xs.length := by
            rw [hxl]
            rcases Nat.lt_or_ge i fs.size with h' | h'
            · exact h'
            · rw [Array.getElem?_eq_none h'] at hi'; cases hi'
          exact ⟨xs[i], by rw [hfs i F hi', List.getElem?_eq_getElem hlt], rfl⟩) (Nat.zero_le _)
        exact ⟨ts, by simpa using g1, g2, by simpa using g3⟩
      | _ =>
        have hk : ti.kind = none := fit.kind.symm
        have hb : ti.bool = false := fit.bool.symm
        have hst : ti.str = false := fit.str.symm
        have he : ti.elem = none := fit.elem.symm
        have hf := fit.fields
        simp only [dFields, List.isEmpty_iff] at hf
        simp [hk, hb, hst, he, hf] at hok
theorem args_typed (hΓ : Γ.chk P = true) {r : Reach} {base n : Nat} : ∀ {ts : List TypeId} {vs : List Value} {ds : List (DataW H)} {ps : List MemPlace}, ts.all (okT Γ n) = true →
    (∀ (j : Nat) t v, ts[j]? = some t → vs[j]? = some v → Value.okWide P w r base t v) → DataW.TrodAll enc P w 0 sp held ts vs ds ps →
    ∃ xs, RTVs w (fun b => b < w.heap.size) vs xs ∧ typedVs Γ n ts xs
  | [], vs, ds, ps, _, _, h => by
    obtain ⟨rfl, rfl, rfl⟩ := trodAll_nil h
    exact ⟨[], trivial, trivial⟩
  | t :: ts, vs, ds, ps, hok, hw, h => by
    obtain ⟨v, vs, d, ds, p, q, rfl, rfl, rfl, h1, h2⟩ := trodAll_cons h
    simp only [List.all_cons, Bool.and_eq_true] at hok
    obtain ⟨xs, g1, g2⟩ := args_typed hΓ hok.2 (fun j t v h3 h4 => hw (j + 1) t v (by simpa using h3) (by simpa using h4)) h2
    obtain ⟨fuel, hf⟩ := h1
    obtain ⟨ys, g3, g4, g5⟩ := trod_typed hΓ n t fuel _ _ hok.1 hf
    have hv := hw 0 t v rfl rfl
    cases hT : Γ.get t with
    | none => cases n <;> simp [okT, hT] at hok
    | some ti =>
      obtain ⟨i, d', fit⟩ := Env.fit hΓ hT
      have hagg := fit.agg
      cases ha : ti.agg with
      | true =>
        rw [ha] at hagg
        have : ∃ cs, v = .agg cs := by
          simp only [Value.okWide, fit.und] at hv
          cases d' <;> simp [dAgg] at hagg
          · obtain ⟨cs, h, _⟩ := hv; exact ⟨cs, h⟩
          · obtain ⟨cs, h, _⟩ := hv; exact ⟨cs, h⟩
        obtain ⟨cs, rfl⟩ := this
        exact ⟨.agg ys :: xs, ⟨⟨cs, rfl, g3⟩, g1⟩, ⟨by simp only [typedV, hT, ha]; exact ⟨ys, rfl, g4⟩, g2⟩⟩
      | false =>
        rw [ha] at hagg
        have hone : v.cells = #[v] := by
          have hk := fit.kind
          have hb := fit.bool
          have hst := fit.str
          have he := fit.elem
          cases d' with
          | int k => obtain ⟨m, rfl⟩ := okWide_int fit.und hv; rfl
          | bool => obtain ⟨m, rfl⟩ := okWide_bool fit.und hv; rfl
          | string => obtain ⟨m, rfl⟩ := okWide_string fit.und hv; rfl
          | slice e => obtain ⟨a, l, c, rfl⟩ := okWide_slice fit.und hv; rfl
          | struct fs => simp [dAgg] at hagg
          | array m e => simp [dAgg] at hagg
          | _ =>
            exfalso
            have hf := fit.fields
            simp only [dFields, List.isEmpty_iff] at hf
            have h1 := hok.1
            cases n with
            | zero => simp [okT] at h1
            | succ n =>
              simp only [okT, hT] at h1
              simp [← hk, ← hb, ← hst, ← he, hf, dKind, dBool, dStr, dElem] at h1
        rw [hone] at g3
        match ys, g3 with
        | [y], g3 => exact ⟨.c y :: xs, ⟨g3.1, g1⟩, ⟨by simp only [typedV, hT, ha]; exact ⟨y, rfl, g4⟩, g2⟩⟩
        | [], g3 => exact g3.elim
        | _ :: _ :: _, g3 => exact g3.2.elim
theorem trodAll_stays (hl : laidOutB P = true) {W W' : World} {sp' : Nat → Bool} (hb : Below W.heap.size W W') : ∀ {ts : List TypeId} {vs : List Value} {ds : List (DataW H)} {ps : List MemPlace},
    ts.all (fun t => P.readableRec t && decide (t < P.types.size)) = true → DataW.TrodAll enc P W 0 (fun _ => true) true ts vs ds ps → (∀ p ∈ ps, p.block < W.heap.size) → (∀ p ∈ ps, sp' p.block = true) → DataW.TrodAll enc P W' 0 sp' true ts vs ds ps
  | [], vs, ds, ps, _, h, _, _ => by
    obtain ⟨rfl, rfl, rfl⟩ := trodAll_nil h
    rfl
  | t :: ts, vs, ds, ps, hr, h, hlt, hs => by
    obtain ⟨v, vs, d, ds, p, q, rfl, rfl, rfl, h1, h2⟩ := trodAll_cons h
    simp only [List.all_cons, Bool.and_eq_true, decide_eq_true_eq] at hr
    exact ⟨p, q, WideElems.Trod_stays hl hr.1.1 hr.1.2 h1 (fun x hx => hb.same (hlt x (by simp [hx]))) (fun x hx => hs x (by simp [hx])),
      trodAll_stays hl hb (by simpa using hr.2) h2 (fun x hx => hlt x (by simp [hx])) (fun x hx => hs x (by simp [hx])), rfl⟩
theorem law_calls (hl : laidOutB P = true) {f : FuncId} {fn : Func} {s : ChangeSpec} {W : World} {args : Array Value} {ds : List (DataW H)} {gs : List (DataW H)} {before : List MemPlace} {tb : TypeId}
    (hres : fn.resultTypes = #[tb]) (htb : P.underlying tb = some .bool) (hvars : s.vars = []) (hparams : fn.params.toList.all (fun t => P.readableRec t && decide (t < P.types.size)) = true)
    (hfn : s.fn H ds = { results := [.lit (.bool true)], args := ds }) {xs : List TV} (hx : RTVs W (fun b => b < W.heap.size) args.toList xs) (hs : Sim.Spec P f xs (.r (.c (.t (.bool true)))))
    (hW : DataW.Whole enc P fn.params.toList s.vars false W args.toList ds gs before) :
    Calls P f args W fun e W' => ∃ v, e = .returned v ∧ s.post enc P fn false true false false W args v W' := by
  refine (hs.2 W args hx).mono fun e W' ⟨v, he, hb, hr⟩ => ⟨v, he, ?_⟩
  obtain ⟨ρ, okp, _, hv, _⟩ := hr
  have hv' : v = .bool true := inv_bool hv
  subst hv'
  have hW0 := hW
  have hlt := hW.lt
  rw [hvars] at hW
  obtain ⟨p, q, hA, hV, hpq, hz, hn⟩ := hW
  obtain ⟨rfl, rfl⟩ := trodVars_none hV
  have hbool : ∀ (b : Nat) (sp : Nat → Bool) (hd : Bool), DataW.TrodAll enc P W' b sp hd fn.resultTypes.toList ((Value.bool true).resultList fn.resultTypes.size) (s.fn H (ds ++ [])).results [] := by
    intro b sp hd
    rw [List.append_nil, hfn, hres]
    exact trodAll_cons_mk (shut_bool htb _) trodAll_mk0
  refine ⟨ds, [], before, [], before, [], hW0, hbool _ _ _, ?_, ?_, hb.frame _, fun h => by cases h⟩
  · rw [List.append_nil, hfn]
    rw [List.append_nil] at hpq
    subst hpq
    exact trodAll_stays hl hb hparams hA hlt (fun x hx => by simpa using hlt x hx)
  · rw [hvars, List.append_nil, hfn]
    rfl
theorem trodAll_len : ∀ {ts : List TypeId} {vs : List Value} {ds : List (DataW H)} {ps : List MemPlace}, DataW.TrodAll enc P w 0 sp held ts vs ds ps → ds.length = ts.length
  | [], vs, ds, ps, h => by
    obtain ⟨rfl, rfl, rfl⟩ := trodAll_nil h
    rfl
  | t :: ts, vs, ds, ps, h => by
    obtain ⟨v, vs, d, ds, p, q, rfl, rfl, rfl, h1, h2⟩ := trodAll_cons h
    simp [trodAll_len h2]
end
theorem typedVs_cons {Γ : Env} {n : Nat} {t : TypeId} {ts : List TypeId} {xs : List TV} (h : typedVs Γ n (t :: ts) xs) : ∃ x xs', xs = x :: xs' ∧ typedV Γ n t x ∧ typedVs Γ n ts xs' := by
  cases xs with
  | nil => exact h.elim
  | cons x xs => exact ⟨x, xs, rfl, h.1, h.2⟩
theorem typedVs_nil {Γ : Env} {n : Nat} {xs : List TV} (h : typedVs Γ n [] xs) : xs = [] := by
  cases xs with
  | nil => rfl
  | cons x xs => exact h.elim
theorem len0 {α β : Type} {l : List α} {t : List β} (h : l.length = t.length) (e : t.length = 0 := by rfl) : l = [] := by
  rw [e] at h; simpa using h
theorem len1 {α : Type} {l : List α} {x : TypeId} (h : l.length = #[x].toList.length) : ∃ a, l = [a] := by
  match l, h with
  | [a], _ => exact ⟨a, rfl⟩
theorem len2 {α : Type} {l : List α} {x y : TypeId} (h : l.length = #[x, y].toList.length) : ∃ a b, l = [a, b] := by
  match l, h with
  | [a, b], _ => exact ⟨a, b, rfl⟩
theorem len3 {α : Type} {l : List α} {x y z : TypeId} (h : l.length = #[x, y, z].toList.length) : ∃ a b c, l = [a, b, c] := by
  match l, h with
  | [a, b, c], _ => exact ⟨a, b, c, rfl⟩
theorem len4 {α : Type} {l : List α} {x y z u : TypeId} (h : l.length = #[x, y, z, u].toList.length) : ∃ a b c d, l = [a, b, c, d] := by
  match l, h with
  | [a, b, c, d], _ => exact ⟨a, b, c, d, rfl⟩
end Go.Sim
