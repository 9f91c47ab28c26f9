/- Each operation of the model does what 'sem' says: the operations that leave memory alone. -/
import Derived.Test.YtehniaekfijmiaaSimC
namespace Go.Sim
open Go.RowKit
def zMatch : Value → AC → Bool
  | .int k n, .t (.int k' n') => decide (k = k') && decide (n = n')
  | .bool b, .t (.bool b') => b == b'
  | .string s, .t (.str l) => s.data.toList.isEmpty && l.isEmpty
  | .slice none 0 0, .nils _ => true
  | .pointer none, .nilp => true
  | .map none, .opq => true
  | .nilIface, .opq => true
  | .nilFunc, .opq => true
  | _, _ => false
def zMatches : List Value → List AC → Bool
  | [], [] => true
  | v :: vs, c :: cs => zMatch v c && zMatches vs cs
  | _, _ => false
def dAgg : TypeDesc → Bool | .struct _ => true | .array _ _ => true | _ => false
def dKind : TypeDesc → Option IntKind | .int k => some k | _ => none
def dStr : TypeDesc → Bool | .string => true | _ => false
def dBool : TypeDesc → Bool | .bool => true | _ => false
def dElem : TypeDesc → Option TypeId | .slice e => some e | _ => none
def dMapK (P : Program) : TypeDesc → Option (Option IntKind)
  | .map kt et => (match P.info? et with
     | some i => (match i.zero with
        | some (.int .i64 n) => (match decide (n = 0), P.underlying kt with
           | true, some (.int k) => some (some k)
           | true, some .string => some none
           | _, _ => none)
        | _ => none)
     | none => none)
  | _ => none
def dFields (P : Program) : TypeDesc → List (Nat × Nat × TypeId) → Bool
  | .struct fs, l => decide (fs.toList.map (fun f => (f.offset, P.cellsOf f.type, f.type)) = l) && l.all fun f => !Nat.beq f.2.1 0
  | _, l => l.isEmpty
def TI.chk (P : Program) (t : TypeId) (ti : TI) : Bool :=
  match P.info? t, P.underlying t with
  | some i, some d => Nat.beq i.size ti.size && Nat.beq i.bytes ti.bytes && (dAgg d == ti.agg) && (match i.zero with | some z => zMatches z.cells.toList ti.zero | none => false) &&
      decide (dKind d = ti.kind) && (dStr d == ti.str) && (dBool d == ti.bool) && decide (dElem d = ti.elem) && dFields P d ti.fields && decide (dMapK P d = ti.map) && !Nat.beq ti.size 0 && Nat.beq ti.zero.length ti.size
  | _, _ => false
def Env.chk (P : Program) : Env → Bool
  | [] => true
  | (t, ti) :: r => ti.chk P t && Env.chk P r
structure TI.Fit (P : Program) (t : TypeId) (ti : TI) (i : TypeInfo) (d : TypeDesc) : Prop where
  info : P.info? t = some i
  und : P.underlying t = some d
  size : i.size = ti.size
  bytes : i.bytes = ti.bytes
  agg : dAgg d = ti.agg
  zero : ∃ z, i.zero = some z ∧ zMatches z.cells.toList ti.zero = true
  kind : dKind d = ti.kind
  str : dStr d = ti.str
  bool : dBool d = ti.bool
  elem : dElem d = ti.elem
  fields : dFields P d ti.fields = true
  map : dMapK P d = ti.map
  pos : ti.size ≠ 0
  zlen : ti.zero.length = ti.size
theorem TI.Fit.field {P : Program} {t : TypeId} {ti : TI} {i : TypeInfo} {d : TypeDesc} (fit : ti.Fit P t i d) {f off sz : Nat} {ft : TypeId} (h : ti.fields[f]? = some (off, sz, ft)) :
    ∃ fs F, d = .struct fs ∧ fs[f]? = some F ∧ F.offset = off ∧ F.type = ft ∧ P.cellsOf F.type = sz ∧ sz ≠ 0 ∧ fs.toList.map (fun f => (f.offset, P.cellsOf f.type, f.type)) = ti.fields := by
  have ho := fit.fields
  cases d <;> simp only [dFields] at ho <;> try (rw [List.isEmpty_iff] at ho; rw [ho] at h; simp at h)
  rename_i fs
  simp only [Bool.and_eq_true, decide_eq_true_eq, List.all_eq_true, Bool.not_eq_true'] at ho
  have h' := h
  rw [← ho.1, List.getElem?_map, Option.map_eq_some_iff] at h'
  obtain ⟨F, h1, h2⟩ := h'
  simp only [Prod.mk.injEq] at h2
  refine ⟨fs, F, rfl, by simpa using h1, h2.1, h2.2.2, h2.2.1, fun e => ?_, ho.1⟩
  have := ho.2 _ (List.mem_of_getElem? h)
  simp only [e] at this
  simp at this
theorem TI.fit {P : Program} {t : TypeId} {ti : TI} (h : ti.chk P t = true) : ∃ i d, ti.Fit P t i d := by
  unfold TI.chk at h
  split at h
  · rename_i i d h1 h2
    simp only [Bool.and_eq_true, beq_iff_eq, Nat.beq_eq, decide_eq_true_eq, Bool.not_eq_true'] at h
    obtain ⟨⟨⟨⟨⟨⟨⟨⟨⟨⟨⟨a1, a2⟩, a3⟩, a4⟩, a5⟩, a6⟩, a7⟩, a8⟩, a9⟩, am⟩, a10⟩, a11⟩ := h
    refine ⟨i, d, h1, h2, a1, a2, a3, ?_, a5, a6, a7, a8, a9, am, ?_, a11⟩
    · split at a4
      · rename_i z hz; exact ⟨z, hz, a4⟩
      · cases a4
    · intro e; rw [e] at a10; simp at a10
  · cases h
theorem Env.fit {P : Program} : ∀ {Γ : Env}, Γ.chk P = true → ∀ {t : TypeId} {ti : TI}, Γ.get t = some ti → ∃ i d, ti.Fit P t i d
  | [], _, t, ti, h => by simp [Env.get] at h
  | (u, i) :: r, hc, t, ti, h => by
    simp only [Env.chk, Bool.and_eq_true] at hc
    simp only [Env.get] at h
    cases hb : Nat.beq u t with
    | true =>
      rw [hb] at h
      simp only [cond_true, Option.some.injEq] at h
      have : u = t := by simpa using hb
      subst this; subst h
      exact TI.fit hc.1
    | false =>
      rw [hb] at h
      exact Env.fit hc.2 (by simpa using h)
theorem zMatches_ok {B : Nat} {ρ : Rho} {w : World} {ok : Nat → Prop} : ∀ {vs : List Value} {cs : List AC}, zMatches vs cs = true → RCs B ρ w ok vs cs
  | [], [], _ => trivial
  | v :: vs, c :: cs, h => by
    simp only [zMatches, Bool.and_eq_true] at h
    refine ⟨?_, zMatches_ok h.2⟩
    have h1 := h.1
    unfold zMatch at h1
    split at h1
    · simp only [Bool.and_eq_true, decide_eq_true_eq] at h1
      obtain ⟨rfl, rfl⟩ := h1
      exact .int _ _
    · simp only [beq_iff_eq] at h1; subst h1; exact .bool _
    · rename_i s l
      simp only [Bool.and_eq_true, List.isEmpty_iff] at h1
      obtain ⟨h2, rfl⟩ := h1
      have : s = ⟨#[]⟩ := by
        obtain ⟨d⟩ := s
        have : d = #[] := by simpa using h2
        rw [this]
      subst this
      exact .str []
    · rfl
    · rfl
    · exact ⟨rfl, rfl⟩
    · exact ⟨rfl, rfl⟩
    · exact ⟨rfl, rfl⟩
    · cases h1
  | [], _ :: _, h => by simp [zMatches] at h
  | _ :: _, [], h => by simp [zMatches] at h
theorem zMatches_ids {vs : List Value} : ∀ {cs : List AC}, zMatches vs cs = true → cs.flatMap AC.ids = [] := by
  induction vs with
  | nil => intro cs h; cases cs with
    | nil => rfl
    | cons c cs => simp [zMatches] at h
  | cons v vs ih => intro cs h; cases cs with
    | nil => simp [zMatches] at h
    | cons c cs =>
      simp only [zMatches, Bool.and_eq_true] at h
      rw [List.flatMap_cons, ih h.2]
      have h1 := h.1
      unfold zMatch at h1
      split at h1 <;> first | rfl | cases h1
def putL (L : Nat → AV) : Option Nat → AV → Nat → AV
  | some d, v => fun t => bif Nat.beq t d then v else L t
  | none, _ => L
def updH (H : Id → Option AO) : List (Id × Option AO) → Id → Option AO
  | [] => H
  | p :: r => updH (fun o => if o = p.1 then p.2 else H o) r
def F_.app (s : F_) (dst : Option Nat) (e : Eff) : F_ := ⟨putL s.L dst e.v, updH s.H e.us, fun n => s.U n ∨ e.new = some n⟩
def Good (P : Program) (o : Oper) (ev : Operand → AV) (H : Id → Option AO) (e : Eff) : Prop :=
  ∀ (N B : Nat) (M : Nat → Prop) (w0 : Start) (ρ : Rho) (s : F_) (a : Act) (w : World) (Q : Exit → Act → World → Prop) (K : Act → World → Prop),
    Conc N B M w0 ρ s a w → (∀ x ∈ o.op.operands.toList, evL s.L x = ev x) → (∀ id ∈ e.R, s.H id = H id) → (∀ n, e.new = some n → ¬ s.U n) → (∀ d, o.dst = some d → d < N) →
    (∀ v w' ρ', Conc N B M w0 ρ' (s.app o.dst e) (a.put o.dst v) w' → K (a.put o.dst v) w') → o.wp P a w K Q
section
variable {P : Program} {N B : Nat} {M : Nat → Prop} {w0 : Start} {ρ : Rho} {s : F_} {a : Act} {w : World} {o : Oper} {ev : Operand → AV} {H : Id → Option AO}
theorem ofConst_ok (v : Value) {ok : Nat → Prop} : RV B ρ w ok v (ofConst v) ∧ (ofConst v).ids = [] := by
  unfold ofConst
  split
  · exact ⟨RT.int _ _, rfl⟩
  · exact ⟨RT.bool _, rfl⟩
  · rename_i s
    exact ⟨RT.str s.data.toList, rfl⟩
  · exact ⟨rfl, rfl⟩
  · exact ⟨rfl, rfl⟩
  · exact ⟨trivial, rfl⟩
theorem Conc.eval (h : Conc N B M w0 ρ s a w) (x : Operand) : RV B ρ w (okB ρ s.H w) (a.eval x) (evL s.L x) ∧ ∀ id ∈ (evL s.L x).ids, s.U id.1 := by
  cases x with
  | tmp t => exact ⟨h.slot t, h.usedL t⟩
  | const v => exact ⟨(ofConst_ok v).1, by show ∀ id ∈ (ofConst v).ids, _; rw [(ofConst_ok (B := B) (ρ := ρ) (w := w) v (ok := okB ρ s.H w)).2]; simp⟩
  | global g => exact ⟨trivial, by simp [evL, AV.ids]⟩
  | func f => exact ⟨trivial, by simp [evL, AV.ids]⟩
theorem put_size (a : Act) (d : Option Nat) (v : Value) : (a.put d v).tmps.size = a.tmps.size := by cases d <;> simp [Act.put]
theorem put_defers (a : Act) (d : Option Nat) (v : Value) : (a.put d v).defers = a.defers := by cases d <;> rfl
theorem put_get (a : Act) (d : Nat) (v : Value) (t : Nat) (hd : d < a.tmps.size) : (a.put (some d) v).tmps.getD t undef = if t = d then v else a.tmps.getD t undef := by
  simp only [Act.put, Array.getD_eq_getD_getElem?, Array.getElem?_setIfInBounds]
  by_cases h : t = d
  · subst h; simp [hd]
  · rw [if_neg (fun e => h e.symm), if_neg h]
theorem Conc.slots (h : Conc N B M w0 ρ s a w) {dst : Option Nat} (hd : ∀ d, dst = some d → d < N) {v : Value} {av : AV} {w' : World} {ρ' : Rho} {ok' : Nat → Prop} {U' : Nat → Prop}
    (hv : RV B ρ' w' ok' v av) (hi : ∀ id ∈ av.ids, U' id.1) (t : Nat) :
    (putL s.L dst av t = s.L t ∧ (a.put dst v).tmps.getD t undef = a.tmps.getD t undef) ∨ (RV B ρ' w' ok' ((a.put dst v).tmps.getD t undef) (putL s.L dst av t) ∧ ∀ id ∈ (putL s.L dst av t).ids, U' id.1) := by
  cases dst with
  | none => exact .inl ⟨rfl, rfl⟩
  | some d =>
    have hlt := hd d rfl
    rw [put_get a d v t (by rw [h.size]; exact hlt)]
    by_cases e : t = d
    · subst e
      have : Nat.beq t t = true := by simp
      simp only [putL, this, cond_true, if_true]
      exact .inr ⟨hv, hi⟩
    · have : Nat.beq t d = false := by cases hb : Nat.beq t d with | false => rfl | true => exact absurd (Nat.eq_of_beq_eq_true hb) e
      simp only [putL, this, cond_false, if_neg e]
      exact .inl ⟨trivial, trivial⟩
theorem Conc.put (h : Conc N B M w0 ρ s a w) {dst : Option Nat} (hd : ∀ d, dst = some d → d < N) {v : Value} {av : AV} (hv : RV B ρ w (okB ρ s.H w) v av) (hi : ∀ id ∈ av.ids, s.U id.1) (R : List Id) :
    Conc N B M w0 ρ (s.app dst (.val av R)) (a.put dst v) w := by
  have := h.step (fun _ => False) [] (w' := w) (ρ' := ρ) (H' := s.H) (U' := s.U) (a' := a.put dst v) (L' := putL s.L dst av) (Turn.refl _ _) (by rw [put_size]; exact h.size) (by rw [put_defers]; exact h.defers)
    (fun _ _ => rfl) (fun _ _ _ _ => rfl) rfl (fun _ _ => rfl) (fun _ h => h) (fun _ _ h => h) (fun _ _ _ _ _ _ h => h) (fun _ _ _ h => h) (by simp) (by simp) (by simp) (fun _ t => h.slots hd hv hi t)
  exact this.congr (fun _ => rfl) (fun _ => rfl) (fun n => by simp [F_.app])
theorem good_val {av : AV} {R : List Id}
    (h : ∀ (N B : Nat) (M : Nat → Prop) (w0 : Start) (ρ : Rho) (s : F_) (a : Act) (w : World), Conc N B M w0 ρ s a w → (∀ x ∈ o.op.operands.toList, evL s.L x = ev x) → (∀ id ∈ R, s.H id = H id) →
      ∃ v, (execOp a.eval o).run P w = .ok (.value v) w ∧ RV B ρ w (okB ρ s.H w) v av ∧ ∀ id ∈ av.ids, s.U id.1) : Good P o ev H (.val av R) := by
  intro N B M w0 ρ s a w Q K hc ho hR _ hd hK
  obtain ⟨v, hr, hv, hi⟩ := h N B M w0 ρ s a w hc ho hR
  unfold Oper.wp
  rw [hr]
  exact hK v w ρ (hc.put hd hv hi R)
theorem inv_int {ok : Nat → Prop} {v : Value} {k : IntKind} {n : Int} (h : RV B ρ w ok v (tI k n)) : v = .int k n := by cases h; rfl
theorem inv_bool {ok : Nat → Prop} {v : Value} {b : Bool} (h : RV B ρ w ok v (tB b)) : v = .bool b := by cases h; rfl
theorem inv_str {ok : Nat → Prop} {v : Value} {b : List UInt8} (h : RV B ρ w ok v (tS b)) : v = .string ⟨b.toArray⟩ := by cases h; rfl
theorem sound_move {x : Operand} (ho : o.op = .move x ∨ o.op = .assign x) : Good P o ev H (.val (ev x) []) := by
  refine good_val fun N B M w0 ρ s a w hc hop _ => ⟨a.eval x, ?_, ?_⟩
  · rcases ho with ho | ho <;> simp [execOp, ho]
  · have := hc.eval x
    rw [hop x (by rcases ho with ho | ho <;> simp [ho, Op.operands])] at this
    exact this
theorem sound_pick {c x y : Operand} (ho : o.op = .pick c x y) {t : Bool} (hc' : ev c = .r (.c (.t (.bool t)))) :
    Good P o ev H (.val (match t with | true => ev x | false => ev y) []) := by
  refine good_val fun N B M w0 ρ s a w hc hop _ => ?_
  have h1 := (hc.eval c).1
  rw [hop c (by simp [ho, Op.operands]), hc'] at h1
  have hb : a.eval c = .bool t := inv_bool h1
  have h2 := hc.eval x
  have h3 := hc.eval y
  rw [hop x (by simp [ho, Op.operands])] at h2
  rw [hop y (by simp [ho, Op.operands])] at h3
  cases t
  · exact ⟨a.eval y, by simp [execOp, ho, hb, asBool], h3⟩
  · exact ⟨a.eval x, by simp [execOp, ho, hb, asBool], h2⟩
theorem run_eqGuard_int (op : BinOp) (T : TypeId) (x y : Operand) (k k' : IntKind) (n m : Int) : (eqGuard op T x y (.int k n) (.int k' m)).run P w = .ok () w := by
  cases op <;> simp [eqGuard]
theorem run_eqGuard_str (op : BinOp) (T : TypeId) (x y : Operand) (n m : ByteArray) : (eqGuard op T x y (.string n) (.string m)).run P w = .ok () w := by
  cases op <;> simp [eqGuard]
theorem run_eqGuard_bool (op : BinOp) (T : TypeId) (x y : Operand) (n m : Bool) : (eqGuard op T x y (.bool n) (.bool m)).run P w = .ok () w := by
  cases op <;> simp [eqGuard]
theorem arith_ok {op : BinOp} {k : IntKind} {n m : Int} {K : AV → Prop} (h : arith op k n m K) :
    ∃ t, K (.r (.c (.t t))) ∧ (∀ (P : Program) (w : World) (T : TypeId), ∃ v, (binOp op T (.int k n) (.int k m)).run P w = .ok v w ∧ ∀ ok, RT w ok v t) := by
  cases op <;> simp only [arith] at h <;> first
    | exact h.elim
    | exact ⟨_, h, fun P w T => ⟨_, by simp [binOp, Op.intArith, Op.intBits, Op.intCmp]; rfl, fun ok => by constructor⟩⟩
    | exact ⟨_, h.2, fun P w T => ⟨_, by simp [binOp, Op.intDiv, h.1]; rfl, fun ok => by constructor⟩⟩
theorem shift_ok {op : BinOp} {k k' : IntKind} {n m : Int} {K : AV → Prop} (h : shift op k n m K) :
    ∃ t, K (.r (.c (.t t))) ∧ (∀ (P : Program) (w : World) (T : TypeId), ∃ v, (binOp op T (.int k n) (.int k' m)).run P w = .ok v w ∧ ∀ ok, RT w ok v t) := by
  cases op <;> simp only [shift] at h <;> first
    | exact h.elim
    | exact ⟨_, h.2, fun P w T => ⟨_, by simp [binOp, Op.shift, Int.not_lt.2 h.1]; rfl, fun ok => by constructor⟩⟩
theorem bytes_toList (l : List UInt8) : (⟨l.toArray⟩ : ByteArray).toList = l := by
  rw [ByteArray.toList_eq]
theorem semBin_ok {op : BinOp} {x y : AV} {K : AV → Prop} (h : semBin op x y K) :
    ∃ t, K (.r (.c (.t t))) ∧ ∀ (P : Program) (B : Nat) (ρ : Rho) (w : World) (ok : Nat → Prop) (T : TypeId) (X Y : Operand) (u v : Value), RV B ρ w ok u x → RV B ρ w ok v y →
      ∃ z, (do eqGuard op T X Y u v; binOp op T u v).run P w = .ok z w ∧ RT w ok z t := by
  unfold semBin at h
  split at h
  · rename_i k a k' b
    have key : (∃ t, K (.r (.c (.t t))) ∧ (∀ (P : Program) (w : World) (T : TypeId), ∃ v, (binOp op T (.int k a) (.int k' b)).run P w = .ok v w ∧ ∀ ok, RT w ok v t)) := by
      split at h
      · exact shift_ok h
      · exact shift_ok h
      · obtain ⟨rfl, h⟩ := h; exact arith_ok h
    obtain ⟨t, hK, hr⟩ := key
    refine ⟨t, hK, fun P B ρ w ok T X Y u v hu hv => ?_⟩
    rw [inv_int hu, inv_int hv]
    obtain ⟨z, h1, h2⟩ := hr P w T
    exact ⟨z, by simp [run_eqGuard_int, h1], h2 ok⟩
  · rename_i a b
    split at h
    · obtain ⟨h1, h2⟩ := h
      refine ⟨_, h2, fun P B ρ w ok T X Y u v hu hv => ?_⟩
      rw [inv_str hu, inv_str hv]
      refine ⟨.string ⟨(a ++ b).toArray⟩, ?_, .str _⟩
      have e : (⟨a.toArray⟩ : ByteArray) ++ ⟨b.toArray⟩ = ⟨(a ++ b).toArray⟩ := by
        apply ByteArray.ext; simp
      have hl : ¬ IntKind.i64.max < ((a.length + b.length : Nat) : Int) := by
        have : IntKind.i64.max = 9223372036854775807 := by decide
        rw [this]; omega
      have hs : ∀ l : List UInt8, (⟨l.toArray⟩ : ByteArray).size = l.length := fun l => by simp [ByteArray.size]
      simp only [Sem.run_bind, run_eqGuard_str, Result.andThen_ok, binOp, Op.stringOp, hs, gt_iff_lt]
      rw [if_neg hl, e]
      rfl
    · refine ⟨_, h, fun P B ρ w ok T X Y u v hu hv => ?_⟩
      rw [inv_str hu, inv_str hv]
      exact ⟨.bool (a == b), by simp [run_eqGuard_str, binOp, Op.stringOp, bytes_toList], .bool _⟩
    · refine ⟨_, h, fun P B ρ w ok T X Y u v hu hv => ?_⟩
      rw [inv_str hu, inv_str hv]
      exact ⟨.bool (!(a == b)), by simp [run_eqGuard_str, binOp, Op.stringOp, bytes_toList], .bool _⟩
    · exact h.elim
  · exact h.elim
end
end Go.Sim
