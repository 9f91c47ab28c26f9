/- Code: the region, the sequence, the choice, the block and the loop; states compared up to the names of what is the call's own. -/
import Derived.Test.YtmjomfgmnkghjaaSimK
namespace Go.Sim
open Go.RowKit

/-! ### One state covers another -/
abbrev Ren := List (Id × Option (Id × Option Nat))
def rget : Ren → Id → Option (Option (Id × Option Nat))
  | [], _ => none
  | (i, x) :: r, o => bif idEq o i then some x else rget r o
def oneEq : Option (Id × Option Nat) → Option (Id × Option Nat) → Prop
  | none, none => True
  | some (a, none), some (b, none) => idEq a b = true
  | some (a, some k), some (b, some k') => idEq a b = true ∧ k = k'
  | _, _ => False
/-- The new name stands for this old one. -/
def tie (r : Ren) (o : Id) (x : Option (Id × Option Nat)) (K : Ren → Prop) : Prop :=
  match rget r o with
  | some y => oneEq y x ∧ K r
  | none => K ((o, x) :: r)

def leC (r : Ren) : AC → AC → (Ren → Prop) → Prop
  | .t x, .t y, K => x = y ∧ K r
  | .f x, .t y, K => x = y ∧ K r
  | .f x, .f y, K => x = y ∧ K r
  | .nils _, .t y, K => (∃ sz, y = .lst sz []) ∧ K r
  | .nils _, .f y, K => (∃ sz, y = .lst sz []) ∧ K r
  | .nils _, .nils _, K => K r
  | .nils _, .own o', K => tie r o' none K
  | .nilp, .nilp, K => K r
  | .own o, .own o', K => tie r o' (some (o, none)) K
  | .sub o k, .sub o' k', K => k = k' ∧ tie r o' (some (o, none)) K
  | .sub o k, .own o', K => tie r o' (some (o, some k)) K
  | .ptr o n, .ptr o' n', K => n = n' ∧ tie r o' (some (o, none)) K
  | _, _, _ => False
def leCs (r : Ren) : List AC → List AC → (Ren → Prop) → Prop
  | [], [], K => K r
  | x :: xs, y :: ys, K => leC r x y fun r => leCs r xs ys K
  | _, _, _ => False
def leR (r : Ren) : AR → AR → (Ren → Prop) → Prop
  | .c x, .c y, K => leC r x y K
  | .agg xs, .agg ys, K => leCs r xs ys K
  | _, _, _ => False
def leRs (r : Ren) : List AR → List AR → (Ren → Prop) → Prop
  | [], [], K => K r
  | x :: xs, y :: ys, K => leR r x y fun r => leRs r xs ys K
  | _, _, _ => False
def leV (r : Ren) (x : AV) : AV → (Ren → Prop) → Prop
  | .unk, K => K r
  | .r y, K => (match x with
     | .r x => leR r x y K
     | _ => False)
  | .tup ys, K => (match x with
     | .tup xs => leRs r xs ys K
     | _ => False)
  | .el o' sz' i' off', K => (match x with
     | .el o sz i off => sz = sz' ∧ i = i' ∧ off = off' ∧ tie r o' (some (o, none)) K
     | _ => False)
  | .ro fr' row' off', K => (match x with
     | .ro fr row off => fr = fr' ∧ row = row' ∧ off = off' ∧ K r
     | _ => False)
def leFr (fr : List (Nat × AV)) : List (Nat × AV) → Ren → (Ren → Prop) → Prop
  | [], r, K => K r
  | (t, y) :: rest, r, K => leV r (look fr t) y fun r => leFr fr rest r K

/-- Nothing in these rows is a slice. -/
def flat (rows : List (List Tr)) : Prop := ∀ row ∈ rows, ∀ x ∈ row, ∀ sz rs, x ≠ .lst sz rs
/-- A mark that may be given: what the call itself made may pass for anything; what holds no slice, where nothing of the caller's may turn, for the call's own. -/
def leB (m fr fr' : Bool) (rows : List (List Tr)) : Prop :=
  match fr' with
  | false => True
  | true => (match fr with
     | true => True
     | false => m = true ∧ flat rows)
def leO (m : Bool) (r : Ren) (cutAt : Option Nat) : AO → AO → (Ren → Prop) → Prop
  | .arr fr sz rows, .arr fr' sz' rows', K => (match cutAt with
     | none => sz = sz' ∧ rows = rows' ∧ leB m fr fr' rows' ∧ K r
     | some k => k ≤ rows.length ∧ sz = sz' ∧ rows.take k = rows' ∧ leB m fr fr' rows' ∧ K r)
  | .box xs, .box ys, K => (match cutAt with
     | none => leCs r xs ys K
     | some _ => False)
  | _, _, _ => False
def leH (m : Bool) (h : List (Id × Option AO)) : List (Id × Option AO) → Ren → (Ren → Prop) → Prop
  | [], r, K => K r
  | (_, none) :: rest, r, K => leH m h rest r K
  | (o', some x) :: rest, r, K => (match rget r o' with
     | some none => (match x with
        | .arr _ _ rows => rows = [] ∧ leH m h rest r K
        | .box _ => False)
     | some (some (o, c)) => (match hget h o with
        | some y => leO m r c y x fun r => leH m h rest r K
        | none => False)
     | none => False)
def renIn (o : Id) : Ren → Bool
  | [] => false
  | (_, some (o', _)) :: r => idEq o o' || renIn o r
  | (_, none) :: r => renIn o r
def renOk : Ren → Bool
  | [] => true
  | (_, some (o, _)) :: r => !renIn o r && renOk r
  | (_, none) :: r => renOk r
def usedIn (u : List Nat) : List Id → Bool
  | [] => true
  | o :: l => used u o.1 && usedIn u l
def usedFr (u : List Nat) : List (Nat × AV) → Bool
  | [] => true
  | (_, v) :: l => usedIn u v.ids && usedFr u l
def usedH (u : List Nat) : List (Id × Option AO) → Bool
  | [] => true
  | (o, some x) :: l => used u o.1 && (usedIn u x.ids && usedH u l)
  | (_, none) :: l => usedH u l
def Leq (m : Bool) (st st' : St) : Prop :=
  (usedFr st'.u st'.fr && usedH st'.u st'.h) = true ∧ leFr st.fr st'.fr [] fun r => leH m st.h st'.h r fun r => renOk r = true

/-! ### Code -/
inductive Out where
  | normal
  | exit (id : Nat)
  | ret
def Out.at : Out → Exit
  | .normal => .normal
  | .exit id => .exit id
  | .ret => .ret

def litc (st : St) (c : Operand) (b : Bool) : St :=
  match c with
  | .tmp t => lit st t b
  | _ => st

def wReg (P : Program) (Γ : Env) (N : Nat) (ops : List Oper) (draw : Bool) (st : St) (K : St → Prop) : Prop :=
  wOps P Γ N ops ops st [] fun st' log => (match draw with
    | false => K st'
    | true => regOk ops log.reverse = true ∧ K st')

def W (m : Bool) (P : Program) (Γ : Env) (N : Nat) : Code → (Out → St → Prop) → St → Prop
  | .skip, K, st => K .normal st
  | .label _, K, st => K .normal st
  | .region _ ops draw, K, st => wReg P Γ N ops.toList draw st (K .normal)
  | .seq x y, K, st => W m P Γ N x (fun e st' => (match e with
      | .normal => W m P Γ N y K st'
      | e => K e st')) st ∨
      ∃ (ι : Type) (S : ι → St), W m P Γ N x (fun e st' => (match e with
        | .normal => ∃ i, Leq m st' (S i)
        | e => K e st')) st ∧ ∀ i, W m P Γ N y K (S i)
  | .cond c x y, K, st => (match evL (look st.fr) c with
      | .r (.c (.t (.bool b))) => ifB b (W m P Γ N x K (litc st c true)) (W m P Γ N y K (litc st c false))
      | _ => False)
  | .block id c, K, st => W m P Γ N c (fun e st' => (match e with
      | .exit id' => (match Nat.beq id' id with
          | true => K .normal st'
          | false => K (.exit id') st')
      | e => K e st')) st
  | .loop c, K, st => ∃ (ι : Type) (S : ι → St) (μ : ι → Nat) (i0 : ι), Leq m st (S i0) ∧ ∀ i, W m P Γ N c (fun e st' => (match e with
      | .normal => ∃ j, Leq m st' (S j) ∧ μ j < μ i
      | e => K e st')) (S i)
  | .exit id, K, st => K (.exit id) st
  | .ret, K, st => K .ret st
  | _, _, _ => False

section
variable {P : Program} {Γ : Env} {N B : Nat} {M : Nat → Prop} {w0 w : World} {ρ : Id → Value} {st st' : St} {a : Act} {m : Bool}

/-! ### The renaming is sound -/
def Ext (r r' : Ren) : Prop := ∀ o x, rget r o = some x → rget r' o = some x
theorem Ext.refl (r : Ren) : Ext r r := fun _ _ h => h
theorem Ext.trans {r r' r'' : Ren} (h : Ext r r') (h' : Ext r' r'') : Ext r r'' := fun o x hx => h' o x (h o x hx)
theorem ext_cons {r : Ren} {o : Id} {x : Option (Id × Option Nat)} (h : rget r o = none) : Ext r ((o, x) :: r) := by
  intro o' x' h'
  rw [rget]
  cases hb : idEq o' o with
  | true => rw [idEq_iff.1 hb, h] at h'; cases h'
  | false => exact h'
/-- What a new name stands for. -/
def ρr (ρ : Id → Value) (r : Ren) (o : Id) : Value :=
  match rget r o with
  | some (some (o, none)) => ρ o
  | some (some (o, some k)) => (match ρ o with
     | .slice A _ c => .slice A k c
     | v => v)
  | some none => .slice none 0 0
  | none => undef

theorem oneEq_iff {x y : Option (Id × Option Nat)} (h : oneEq x y) : x = y := by
  unfold oneEq at h
  split at h
  · rfl
  · rw [idEq_iff.1 h]
  · rw [idEq_iff.1 h.1, h.2]
  · exact h.elim

theorem tie_ok {r : Ren} {o : Id} {x : Option (Id × Option Nat)} {K : Ren → Prop} (h : tie r o x K) : ∃ r', Ext r r' ∧ rget r' o = some x ∧ K r' := by
  unfold tie at h
  split at h
  · rename_i y hy
    exact ⟨r, .refl r, by rw [hy, oneEq_iff h.1], h.2⟩
  · rename_i hy
    exact ⟨_, ext_cons hy, by rw [rget, idEq_iff.2 rfl]; rfl, h⟩

/-- A cell, read under new names. -/
def relC (r : Ren) (x y : AC) : Prop := ∀ {B : Nat} {ρ : Id → Value} {w : World} {ok ok' : Nat → Prop} {v : Value}, (∀ b, ok b → ok' b) → RC B ρ w ok v x → RC B (ρr ρ r) w ok' v y
def relCs (r : Ren) (x y : List AC) : Prop := ∀ {B : Nat} {ρ : Id → Value} {w : World} {ok ok' : Nat → Prop} {v : List Value}, (∀ b, ok b → ok' b) → RCs B ρ w ok v x → RCs B (ρr ρ r) w ok' v y
def relR (r : Ren) (x y : AR) : Prop := ∀ {B : Nat} {ρ : Id → Value} {w : World} {ok ok' : Nat → Prop} {v : Value}, (∀ b, ok b → ok' b) → RR B ρ w ok v x → RR B (ρr ρ r) w ok' v y
def relRs (r : Ren) (x y : List AR) : Prop := ∀ {B : Nat} {ρ : Id → Value} {w : World} {ok ok' : Nat → Prop} {v : List Value}, (∀ b, ok b → ok' b) → RRs B ρ w ok v x → RRs B (ρr ρ r) w ok' v y
def relV (r : Ren) (x y : AV) : Prop := ∀ {B : Nat} {ρ : Id → Value} {w : World} {ok ok' : Nat → Prop} {v : Value}, (∀ b, ok b → ok' b) → RV B ρ w ok v x → RV B (ρr ρ r) w ok' v y

theorem RT.up {w : World} {ok ok' : Nat → Prop} {v : Value} {t : Tr} (h : RT w ok v t) (hk : ∀ b, ok b → ok' b) : RT w ok' v t := h.keep fun b hb => ⟨rfl, hk b hb⟩

theorem leC_ok {r : Ren} {x y : AC} {K : Ren → Prop} (h : leC r x y K) : ∃ r', Ext r r' ∧ (∀ f, Ext r' f → relC f x y) ∧ K r' := by
  cases x <;> cases y <;> simp only [leC] at h
  case t.t => exact ⟨r, .refl r, fun f _ B ρ w ok ok' v hk hv => by rw [← h.1]; exact RT.up hv hk, h.2⟩
  case f.t => exact ⟨r, .refl r, fun f _ B ρ w ok ok' v hk hv => by rw [← h.1]; exact RT.up hv fun b hb => hk b hb.1, h.2⟩
  case f.f => exact ⟨r, .refl r, fun f _ B ρ w ok ok' v hk hv => by rw [← h.1]; exact RT.up hv fun b hb => ⟨hk b hb.1, hb.2⟩, h.2⟩
  case nils.t => obtain ⟨⟨sz, rfl⟩, h⟩ := h; exact ⟨r, .refl r, fun f _ B ρ w ok ok' v hk hv => by rw [show v = _ from hv]; exact .emp _ _ _ (by simp [maxLen]), h⟩
  case nils.f => obtain ⟨⟨sz, rfl⟩, h⟩ := h; exact ⟨r, .refl r, fun f _ B ρ w ok ok' v hk hv => by rw [show v = _ from hv]; exact .emp _ _ _ (by simp [maxLen]), h⟩
  case nils.nils => exact ⟨r, .refl r, fun f _ B ρ w ok ok' v hk hv => hv, h⟩
  case nilp.nilp => exact ⟨r, .refl r, fun f _ B ρ w ok ok' v hk hv => hv, h⟩
  case nils.own =>
    obtain ⟨r', h1, h2, h3⟩ := tie_ok h
    refine ⟨r', h1, fun f hf B ρ w ok ok' v hk hv => ?_, h3⟩
    have e := hf _ _ h2
    have e' : ∀ ρ, ρr ρ f _ = _ := fun ρ => by rw [ρr, e]
    simp only [RC, e'] at hv ⊢
    exact ⟨⟨_, _, _, rfl⟩, hv⟩
  case own.own =>
    obtain ⟨r', h1, h2, h3⟩ := tie_ok h
    refine ⟨r', h1, fun f hf B ρ w ok ok' v hk hv => ?_, h3⟩
    have e := hf _ _ h2
    have e' : ∀ ρ, ρr ρ f _ = _ := fun ρ => by rw [ρr, e]
    simp only [RC, e'] at hv ⊢
    exact hv
  case sub.own =>
    obtain ⟨r', h1, h2, h3⟩ := tie_ok h
    refine ⟨r', h1, fun f hf B ρ w ok ok' v hk hv => ?_, h3⟩
    have e := hf _ _ h2
    have e' : ∀ ρ, ρr ρ f _ = _ := fun ρ => by rw [ρr, e]
    simp only [RC, e'] at hv ⊢
    obtain ⟨A, n, c, g1, g2, g3⟩ := hv
    rw [g1]
    exact ⟨⟨_, _, _, rfl⟩, g2⟩
  case sub.sub =>
    obtain ⟨hk', h⟩ := h
    subst hk'
    obtain ⟨r', h1, h2, h3⟩ := tie_ok h
    refine ⟨r', h1, fun f hf B ρ w ok ok' v hk hv => ?_, h3⟩
    have e := hf _ _ h2
    have e' : ∀ ρ, ρr ρ f _ = _ := fun ρ => by rw [ρr, e]
    simp only [RC, e'] at hv ⊢
    exact hv
  case ptr.ptr =>
    obtain ⟨hk', h⟩ := h
    subst hk'
    obtain ⟨r', h1, h2, h3⟩ := tie_ok h
    refine ⟨r', h1, fun f hf B ρ w ok ok' v hk hv => ?_, h3⟩
    have e := hf _ _ h2
    have e' : ∀ ρ, ρr ρ f _ = _ := fun ρ => by rw [ρr, e]
    simp only [RC, e'] at hv ⊢
    exact hv

theorem leCs_ok : ∀ {xs ys : List AC} {r : Ren} {K : Ren → Prop}, leCs r xs ys K → ∃ r', Ext r r' ∧ (∀ f, Ext r' f → relCs f xs ys) ∧ K r'
  | [], [], r, K, h => ⟨r, .refl r, fun f _ B ρ w ok ok' v hk hv => by cases v <;> simp [RCs] at hv ⊢, h⟩
  | x :: xs, y :: ys, r, K, h => by
    obtain ⟨r1, h1, h2, h3⟩ := leC_ok h
    obtain ⟨r2, h4, h5, h6⟩ := leCs_ok h3
    refine ⟨r2, h1.trans h4, fun f hf B ρ w ok ok' v hk hv => ?_, h6⟩
    cases v with
    | nil => exact hv.elim
    | cons v vs => exact ⟨h2 f (h4.trans hf) hk hv.1, h5 f hf hk hv.2⟩
  | [], _ :: _, _, _, h => h.elim
  | _ :: _, [], _, _, h => h.elim
theorem leR_ok {r : Ren} {x y : AR} {K : Ren → Prop} (h : leR r x y K) : ∃ r', Ext r r' ∧ (∀ f, Ext r' f → relR f x y) ∧ K r' := by
  cases x <;> cases y <;> simp only [leR] at h
  case c.c => exact leC_ok h
  case agg.agg =>
    obtain ⟨r1, h1, h2, h3⟩ := leCs_ok h
    exact ⟨r1, h1, fun f hf B ρ w ok ok' v hk hv => let ⟨us, e, hu⟩ := hv; ⟨us, e, h2 f hf hk hu⟩, h3⟩
theorem leRs_ok : ∀ {xs ys : List AR} {r : Ren} {K : Ren → Prop}, leRs r xs ys K → ∃ r', Ext r r' ∧ (∀ f, Ext r' f → relRs f xs ys) ∧ K r'
  | [], [], r, K, h => ⟨r, .refl r, fun f _ B ρ w ok ok' v hk hv => by cases v <;> simp [RRs] at hv ⊢, h⟩
  | x :: xs, y :: ys, r, K, h => by
    obtain ⟨r1, h1, h2, h3⟩ := leR_ok h
    obtain ⟨r2, h4, h5, h6⟩ := leRs_ok h3
    refine ⟨r2, h1.trans h4, fun f hf B ρ w ok ok' v hk hv => ?_, h6⟩
    cases v with
    | nil => exact hv.elim
    | cons v vs => exact ⟨h2 f (h4.trans hf) hk hv.1, h5 f hf hk hv.2⟩
  | [], _ :: _, _, _, h => h.elim
  | _ :: _, [], _, _, h => h.elim
theorem leV_ok {r : Ren} {x y : AV} {K : Ren → Prop} (h : leV r x y K) : ∃ r', Ext r r' ∧ (∀ f, Ext r' f → relV f x y) ∧ K r' := by
  cases y with
  | unk => exact ⟨r, .refl r, fun f _ B ρ w ok ok' v hk hv => trivial, h⟩
  | r y =>
    cases x <;> simp only [leV] at h
    exact leR_ok h
  | tup ys =>
    cases x <;> simp only [leV] at h
    obtain ⟨r1, h1, h2, h3⟩ := leRs_ok h
    exact ⟨r1, h1, fun f hf B ρ w ok ok' v hk hv => let ⟨us, e, hu⟩ := hv; ⟨us, e, h2 f hf hk hu⟩, h3⟩
  | el o' sz i off =>
    cases x <;> simp only [leV] at h
    obtain ⟨rfl, rfl, rfl, h⟩ := h
    obtain ⟨r', h1, h2, h3⟩ := tie_ok h
    refine ⟨r', h1, fun f hf B ρ w ok ok' v hk hv => ?_, h3⟩
    have e := hf _ _ h2
    have e' : ∀ ρ, ρr ρ f _ = _ := fun ρ => by rw [ρr, e]
    simp only [RV, e'] at hv ⊢
    exact hv
  | ro fr row off =>
    cases x <;> simp only [leV] at h
    obtain ⟨rfl, rfl, rfl, h⟩ := h
    refine ⟨r, .refl r, fun f hf B ρ w ok ok' v hk hv => ?_, h⟩
    exact RV.keep (ρ := ρ) (ρ' := ρr ρ f) (w := w) (w' := w) (x := .ro _ _ _) hv (fun b hb => ⟨rfl, hk b hb⟩) (by simp [AV.ids])

theorem leFr_ok {fr : List (Nat × AV)} : ∀ {l : List (Nat × AV)} {r : Ren} {K : Ren → Prop}, leFr fr l r K → ∃ r', Ext r r' ∧ (∀ f, Ext r' f → ∀ t y, (t, y) ∈ l → relV f (look fr t) y) ∧ K r'
  | [], r, K, h => ⟨r, .refl r, fun _ _ t y hm => (by cases hm), h⟩
  | (t, y) :: l, r, K, h => by
    obtain ⟨r1, h1, h2, h3⟩ := leV_ok h
    obtain ⟨r2, h4, h5, h6⟩ := leFr_ok h3
    refine ⟨r2, h1.trans h4, fun f hf t' y' hm => ?_, h6⟩
    rcases List.mem_cons.1 hm with he | hm
    · injection he with e1 e2; subst e1; subst e2; exact fun hk hv => h2 f (h4.trans hf) hk hv
    · exact fun hk hv => h5 f hf t' y' hm hk hv

/-- What a thing of the call's own is, under new names. -/
def relH (m : Bool) (f : Ren) (h : List (Id × Option AO)) (o' : Id) (x : AO) : Prop :=
  (rget f o' = some none ∧ ∃ fr sz, x = .arr fr sz []) ∨
  ∃ o c y, rget f o' = some (some (o, c)) ∧ hget h o = some y ∧
    ((c = none ∧ ∃ xs ys, y = .box xs ∧ x = .box ys ∧ relCs f xs ys) ∨
     (∃ fr sz rows fr' rows', y = .arr fr sz rows ∧ x = .arr fr' sz rows' ∧ leB m fr fr' rows' ∧ ((c = none ∧ rows' = rows) ∨ ∃ k, c = some k ∧ k ≤ rows.length ∧ rows' = rows.take k)))

theorem leH_ok {h : List (Id × Option AO)} : ∀ {l : List (Id × Option AO)} {r : Ren} {K : Ren → Prop}, leH m h l r K → ∃ r', Ext r r' ∧ (∀ f, Ext r' f → ∀ o x, (o, some x) ∈ l → relH m f h o x) ∧ K r'
  | [], r, K, hh => ⟨r, .refl r, fun _ _ o x hm => (by cases hm), hh⟩
  | (o', none) :: l, r, K, hh => by
    obtain ⟨r1, h1, h2, h3⟩ := leH_ok (l := l) hh
    refine ⟨r1, h1, fun f hf o x hm => ?_, h3⟩
    rcases List.mem_cons.1 hm with he | hm
    · injection he with e1 e2; cases e2
    · exact h2 f hf o x hm
  | (o', some z) :: l, r, K, hh => by
    unfold leH at hh
    split at hh
    · rename_i hr
      split at hh
      · rename_i fr sz rows
        obtain ⟨rfl, hh⟩ := hh
        obtain ⟨r1, h1, h2, h3⟩ := leH_ok (l := l) hh
        refine ⟨r1, h1, fun f hf o x hm => ?_, h3⟩
        rcases List.mem_cons.1 hm with he | hm
        · injection he with e1 e2
          injection e2 with e2
          subst e1; subst e2
          exact .inl ⟨hf _ _ (h1 _ _ hr), _, _, rfl⟩
        · exact h2 f hf o x hm
      · exact hh.elim
    · rename_i o0 c hr
      split at hh
      · rename_i y hy
        cases y with
        | box xs =>
          cases z with
          | arr _ _ _ => simp [leO] at hh
          | box ys =>
            cases c with
            | some _ => simp [leO] at hh
            | none =>
              obtain ⟨r1, h1, h2, h3⟩ := leCs_ok (show leCs r xs ys _ from hh)
              obtain ⟨r2, h4, h5, h6⟩ := leH_ok (l := l) h3
              refine ⟨r2, h1.trans h4, fun f hf o x hm => ?_, h6⟩
              rcases List.mem_cons.1 hm with he | hm
              · injection he with e1 e2
                injection e2 with e2
                subst e1; subst e2
                exact .inr ⟨o0, none, _, (h1.trans (h4.trans hf)) _ _ hr, hy, .inl ⟨rfl, xs, ys, rfl, rfl, fun hk hv => h2 f (h4.trans hf) hk hv⟩⟩
              · exact h5 f hf o x hm
        | arr fr sz rows =>
          cases z with
          | box _ => simp [leO] at hh
          | arr fr' sz' rows' =>
            have key : sz = sz' ∧ leB m fr fr' rows' ∧ ((c = none ∧ rows' = rows) ∨ ∃ k, c = some k ∧ k ≤ rows.length ∧ rows' = rows.take k) ∧ leH m h l r K := by
              cases c with
              | none => obtain ⟨a1, a2, a3, a4⟩ := (show _ ∧ _ ∧ _ ∧ _ from hh); exact ⟨a1, a3, .inl ⟨rfl, a2.symm⟩, a4⟩
              | some k => obtain ⟨a0, a1, a2, a3, a4⟩ := (show _ ∧ _ ∧ _ ∧ _ ∧ _ from hh); exact ⟨a1, a3, .inr ⟨k, rfl, a0, a2.symm⟩, a4⟩
            obtain ⟨rfl, k1, k2, hh⟩ := key
            obtain ⟨r1, h1, h2, h3⟩ := leH_ok (l := l) hh
            refine ⟨r1, h1, fun f hf o x hm => ?_, h3⟩
            rcases List.mem_cons.1 hm with he | hm
            · injection he with e1 e2
              injection e2 with e2
              subst e1; subst e2
              exact .inr ⟨o0, c, _, hf _ _ (h1 _ _ hr), hy, .inr ⟨fr, sz, rows, fr', rows', rfl, rfl, k1, k2⟩⟩
            · exact h2 f hf o x hm
      · exact hh.elim
    · exact hh.elim

theorem hget_mem : ∀ {h : List (Id × Option AO)} {o : Id} {x : AO}, hget h o = some x → (o, some x) ∈ h
  | [], _, _, h => by simp [hget] at h
  | (i, y) :: r, o, x, h => by
    rw [hget] at h
    cases hb : idEq o i with
    | true => rw [hb] at h; have := idEq_iff.1 hb; subst this; simp only [cond_true] at h; rw [h]; simp
    | false => rw [hb] at h; exact List.mem_cons_of_mem _ (hget_mem h)
theorem look_mem : ∀ (fr : List (Nat × AV)) (t : Nat), look fr t = .unk ∨ (t, look fr t) ∈ fr
  | [], _ => .inl rfl
  | (i, y) :: r, t => by
    rw [look]
    cases hb : Nat.beq t i with
    | true => have := Nat.eq_of_beq_eq_true hb; subst this; right; simp
    | false => exact (look_mem r t).imp id (List.mem_cons_of_mem _)

theorem renIn_of : ∀ {r : Ren} {o' o : Id} {c : Option Nat}, rget r o' = some (some (o, c)) → renIn o r = true
  | [], _, _, _, h => by simp [rget] at h
  | (i, x) :: r, o', o, c, h => by
    rw [rget] at h
    cases hb : idEq o' i with
    | true =>
      rw [hb] at h
      simp only [cond_true, Option.some.injEq] at h
      subst h
      simp [renIn, idEq_iff.2 rfl]
    | false =>
      rw [hb] at h
      have := renIn_of (r := r) h
      cases x <;> simp [renIn, this]
/-- Two names do not stand for one thing. -/
theorem renOk_inj : ∀ {r : Ren} {o1 o2 o : Id} {c1 c2 : Option Nat}, renOk r = true → rget r o1 = some (some (o, c1)) → rget r o2 = some (some (o, c2)) → o1 = o2
  | [], _, _, _, _, _, _, h, _ => by simp [rget] at h
  | (i, x) :: r, o1, o2, o, c1, c2, hr, h1, h2 => by
    rw [rget] at h1 h2
    have hr' : renOk r = true := by
      cases x with
      | none => exact hr
      | some p => simp only [renOk, Bool.and_eq_true] at hr; exact hr.2
    have hno : ∀ c, x = some (o, c) → renIn o r = false := fun c hx => by
      subst hx
      simp only [renOk, Bool.and_eq_true, Bool.not_eq_true'] at hr
      exact hr.1
    cases hb1 : idEq o1 i with
    | true =>
      rw [hb1] at h1
      simp only [cond_true, Option.some.injEq] at h1
      cases hb2 : idEq o2 i with
      | true => exact (idEq_iff.1 hb1).trans (idEq_iff.1 hb2).symm
      | false =>
        rw [hb2] at h2
        have := renIn_of (r := r) h2
        rw [hno c1 h1] at this
        cases this
    | false =>
      rw [hb1] at h1
      cases hb2 : idEq o2 i with
      | true =>
        rw [hb2] at h2
        simp only [cond_true, Option.some.injEq] at h2
        have := renIn_of (r := r) h1
        rw [hno c2 h2] at this
        cases this
      | false =>
        rw [hb2] at h2
        exact renOk_inj hr' h1 h2

theorem usedIn_ok {u : List Nat} : ∀ {l : List Id}, usedIn u l = true → ∀ o ∈ l, used u o.1 = true
  | [], _, o, ho => by cases ho
  | i :: l, h, o, ho => by
    simp only [usedIn, Bool.and_eq_true] at h
    rcases List.mem_cons.1 ho with rfl | ho
    · exact h.1
    · exact usedIn_ok h.2 o ho
theorem usedFr_ok {u : List Nat} : ∀ {l : List (Nat × AV)}, usedFr u l = true → ∀ t v, (t, v) ∈ l → ∀ o ∈ v.ids, used u o.1 = true
  | [], _, t, v, hm => by cases hm
  | (i, x) :: l, h, t, v, hm => by
    simp only [usedFr, Bool.and_eq_true] at h
    rcases List.mem_cons.1 hm with he | hm
    · injection he with e1 e2; subst e2; exact usedIn_ok h.1
    · exact usedFr_ok h.2 t v hm
theorem usedH_ok {u : List Nat} : ∀ {l : List (Id × Option AO)}, usedH u l = true → ∀ o x, (o, some x) ∈ l → used u o.1 = true ∧ ∀ o' ∈ x.ids, used u o'.1 = true
  | [], _, t, v, hm => by cases hm
  | (i, none) :: l, h, o, x, hm => by
    rcases List.mem_cons.1 hm with he | hm
    · injection he with e1 e2; cases e2
    · exact usedH_ok (l := l) h o x hm
  | (i, some y) :: l, h, o, x, hm => by
    simp only [usedH, Bool.and_eq_true] at h
    rcases List.mem_cons.1 hm with he | hm
    · injection he with e1 e2; injection e2 with e2; subst e1; subst e2; exact ⟨h.1, usedIn_ok h.2.1⟩
    · exact usedH_ok h.2.2 o x hm

theorem RT.flat {w : World} {ok ok' : Nat → Prop} {v : Value} {t : Tr} (h : RT w ok v t) (hf : ∀ sz rs, t ≠ .lst sz rs) : RT w ok' v t := by
  cases h with
  | int k n => exact .int k n
  | bool b => exact .bool b
  | str s => exact .str s
  | emp _ _ sz => exact absurd rfl (hf _ _)
  | lst => exact absurd rfl (hf _ _)
theorem RTs.flat {w : World} {ok ok' : Nat → Prop} : ∀ {vs : List Value} {ts : List Tr}, RTs w ok vs ts → (∀ t ∈ ts, ∀ sz rs, t ≠ .lst sz rs) → RTs w ok' vs ts
  | [], [], _, _ => trivial
  | _ :: _, _ :: _, h, hf => ⟨h.1.flat (hf _ (by simp)), RTs.flat h.2 fun t ht => hf t (by simp [ht])⟩
  | [], _ :: _, h, _ => h.elim
  | _ :: _, [], h, _ => h.elim

theorem take_flatten {α : Type} {sz : Nat} : ∀ {rows : List (List α)} (k : Nat), (∀ r ∈ rows, r.length = sz) → k ≤ rows.length → (rows.take k).flatten = rows.flatten.take (k * sz)
  | _, 0, _, _ => by simp
  | [], _ + 1, _, h => by simp at h
  | r :: rows, k + 1, hu, h => by
    have hr := hu r (by simp)
    rw [List.take_succ_cons, List.flatten_cons, List.flatten_cons, take_flatten k (fun r hr => hu r (by simp [hr])) (by simpa using h), List.take_append, hr]
    rw [List.take_of_length_le (l := r) (by rw [hr, Nat.add_mul]; omega)]
    congr 2
    rw [Nat.add_mul]
    omega

/-- THE STATE UNDER NEW NAMES. -/
theorem Leq.ok' (hM : m = true → ∀ b, ¬ M b) (h : Leq m st st') (hc : Conc N B M w0 ρ st.fs a w) : ∃ ρ', Conc N B M w0 ρ' st'.fs a w ∧
    (∀ b, okB ρ st.fs.H w b → okB ρ' st'.fs.H w b) ∧
    ∀ (t : Nat) (v : Value) (ok ok' : Nat → Prop), (∀ b, ok b → ok' b) → RV B ρ w ok v (look st.fr t) → RV B ρ' w ok' v (look st'.fr t) := by
  obtain ⟨hu, h⟩ := h
  simp only [Bool.and_eq_true] at hu
  obtain ⟨r1, _, hL, h⟩ := leFr_ok h
  obtain ⟨f, h1, hH, hr⟩ := leH_ok h
  have hL := hL f h1
  have hH := hH f (.refl f)
  refine ⟨ρr ρ f, ?_⟩
  -- a name stands for a thing of the old state, or for nothing
  have old : ∀ o x b, st'.fs.H o = some x → blk (ρr ρ f o) = some b → ∃ q y c, rget f o = some (some (q, c)) ∧ st.fs.H q = some y ∧ blk (ρ q) = some b := by
    intro o x b ho hb
    rcases hH o x (hget_mem ho) with ⟨g1, _⟩ | ⟨q, c, y, g1, g2, _⟩
    · rw [ρr, g1] at hb; simp [blk] at hb
    · refine ⟨q, y, c, g1, g2, ?_⟩
      rw [ρr, g1] at hb
      cases c with
      | none => exact hb
      | some k =>
        simp only at hb
        split at hb
        · rename_i A n cc e
          rw [e]
          cases A <;> exact hb
        · exact hb
  have hk : ∀ b, okB ρ st.fs.H w b → okB (ρr ρ f) st'.fs.H w b := by
    intro b hb
    refine ⟨hb.1, fun o x ho he => ?_⟩
    obtain ⟨q, y, _, _, g2, g3⟩ := old o x b ho he
    exact hb.2 q y g2 g3
  refine ⟨?_, hk, fun t v ok ok' hok hv => ?_⟩
  rotate_left
  · rcases look_mem st'.fr t with e | hm
    · rw [e]; trivial
    · exact hL t _ hm hok hv
  refine ⟨hc.size, hc.defers, fun t => ?_, fun o x ho => ?_, fun o o' x x' b ho ho' hne he he' => ?_, fun o x b ho he => ?_, hc.keep, hc.base, fun t o ho => ?_, fun o x ho => ?_⟩
  · rcases look_mem st'.fr t with e | hm
    · show RV _ _ _ _ _ (look st'.fr t)
      rw [e]; trivial
    · exact hL t _ hm hk (hc.slot t)
  · rcases hH o x (hget_mem ho) with ⟨g1, fr, sz, rfl⟩ | ⟨q, c, y, g1, g2, g3⟩
    · exact ⟨fun r hr => (by cases hr), .inl ⟨by rw [ρr, g1], rfl⟩⟩
    · have hobj := hc.obj q y g2
      rcases g3 with ⟨rfl, xs, ys, rfl, rfl, g4⟩ | ⟨fr, sz, rows, fr', rows', rfl, rfl, g4, g5⟩
      · obtain ⟨b, cur, t, fz, k1, k2, k3, k4⟩ := hobj
        exact ⟨b, cur, t, fz, by rw [ρr, g1]; exact k1, k2, k3, g4 hk k4⟩
      · obtain ⟨hu1, hobj⟩ := hobj
        have hsub : ∀ r ∈ rows', r ∈ rows := by
          rcases g5 with ⟨_, rfl⟩ | ⟨k, _, _, rfl⟩
          · exact fun r h => h
          · exact fun r h => List.mem_of_mem_take h
        refine ⟨fun r hr => hu1 r (hsub r hr), ?_⟩
        rcases hobj with ⟨k1, k2⟩ | ⟨b, cap, cur, e, fz, k1, k2, k3, k4, k5, k6, k7, k8⟩
        · subst k2
          left
          rcases g5 with ⟨rfl, rfl⟩ | ⟨k, rfl, hle, rfl⟩
          · exact ⟨by rw [ρr, g1]; exact k1, rfl⟩
          · simp only [List.length_nil, Nat.le_zero] at hle
            subst hle
            exact ⟨by rw [ρr, g1]; simp only [k1], by simp⟩
        · right
          have hB : m = true → B ≤ b := fun hm => ((hc.rng q _ b g2 (by rw [k1]; rfl)).2).resolve_right (hM hm b)
          have tup : ∀ {l : List Value}, RTs w (okF B (okB ρ st.fs.H w) fr) l rows'.flatten → RTs w (okF B (okB (ρr ρ f) st'.fs.H w) fr') l rows'.flatten := by
            intro l hl
            cases fr' with
            | false => exact hl.keep fun b hb => ⟨rfl, hk b hb.1, fun e => by cases e⟩
            | true =>
              cases fr with
              | true => exact hl.keep fun b hb => ⟨rfl, hk b hb.1, hb.2⟩
              | false =>
                refine hl.flat fun t ht => ?_
                obtain ⟨row, h1, h2⟩ := List.mem_flatten.1 ht
                exact g4.2 row h1 t h2
          have hfr : fr' = true → B ≤ b := by
            intro e
            subst e
            cases fr with
            | true => exact k8 rfl
            | false => exact hB g4.1
          rcases g5 with ⟨rfl, rfl⟩ | ⟨k, rfl, hle, rfl⟩
          · exact ⟨b, cap, cur, e, fz, by rw [ρr, g1]; exact k1, k2, k3, k4, k5, k6, tup k7, hfr⟩
          · refine ⟨b, cap, cur, e, fz, ?_, k2, k3, ?_, k5, k6, tup ?_, hfr⟩
            · rw [ρr, g1]
              simp only [k1, List.length_take, Nat.min_eq_left hle]
            · simp only [List.length_take]; omega
            · rw [take_flatten k hu1 hle]
              have : cur.toList.take ((rows.take k).length * sz) = (cur.toList.take (rows.length * sz)).take (k * sz) := by
                rw [List.take_take, List.length_take, Nat.min_eq_left hle]
                congr 1
                exact (Nat.min_eq_left (Nat.mul_le_mul_right _ hle)).symm
              rw [this]
              exact k7.take _
  · obtain ⟨q, y, c, g1, g2, g3⟩ := old o x b ho he
    obtain ⟨q', y', c', g4, g5, g6⟩ := old o' x' b ho' he'
    by_cases e : q = q'
    · subst e
      exact hne (renOk_inj hr g1 g4)
    · exact hc.sep q q' y y' b g2 g5 e g3 g6
  · obtain ⟨q, y, c, g1, g2, g3⟩ := old o x b ho he
    exact hc.rng q y b g2 g3
  · rcases look_mem st'.fr t with e | hm
    · simp only [St.fs] at ho
      rw [e] at ho
      simp [AV.ids] at ho
    · exact usedFr_ok hu.1 t _ hm o ho
  · exact usedH_ok hu.2 o x (hget_mem ho)

theorem Leq.ok (hM : m = true → ∀ b, ¬ M b) (h : Leq m st st') (hc : Conc N B M w0 ρ st.fs a w) : ∃ ρ', Conc N B M w0 ρ' st'.fs a w :=
  let ⟨ρ', h, _⟩ := h.ok' hM hc
  ⟨ρ', h⟩

/-! ### Code -/
theorem litc_fs {st : St} {c : Operand} {b : Bool} (h : evL (look st.fr) c = tB b) : (litc st c b).fs = st.fs := by
  unfold litc
  split
  · exact lit_fs h
  · rfl

theorem W_ok (hΓ : Γ.chk P = true) (hmix : P.follows .mixedOrders = true) (hM : m = true → ∀ b, ¬ M b) :
    ∀ (c : Code) (K : Out → St → Prop) (st : St) (ρ : Id → Value) (a : Act) (w : World) (Q : Exit → Act → World → Prop), W m P Γ N c K st → Conc N B M w0 ρ st.fs a w →
      (∀ e st' ρ' a' w', K e st' → Conc N B M w0 ρ' st'.fs a' w' → Q e.at a' w') → c.wp P Q a w := by
  intro c
  induction c with
  | skip => intro K st ρ a w Q h hc hQ; exact wp_skip (hQ .normal _ _ _ _ h hc)
  | label l => intro K st ρ a w Q h hc hQ; exact wp_label (hQ .normal _ _ _ _ h hc)
  | exit id => intro K st ρ a w Q h hc hQ; exact wp_exit (hQ (.exit id) _ _ _ _ h hc)
  | ret => intro K st ρ a w Q h hc hQ; exact wp_ret (hQ .ret _ _ _ _ h hc)
  | goto l => intro K st ρ a w Q h; exact h.elim
  | refuse y => intro K st ρ a w Q h; exact h.elim
  | scope b _ => intro K st ρ a w Q h; exact h.elim
  | rangeFunc f ps x y _ _ => intro K st ρ a w Q h; exact h.elim
  | region id ops draw =>
    intro K st ρ a w Q h hc hQ
    obtain ⟨es, st', h1, h2, h3, h4⟩ := wOps_ok hΓ ops.toList st [] _ h
    cases draw with
    | false =>
      refine wp_region_list ?_
      have := chain_seq (P := P) (N := N) (ops := ops.toList) (B := B) (M := M) (w0 := w0) (Q := Q) ops.toList es st.fs ρ a w h2 hc fun ρ' a' w' hc' => hQ .normal st' ρ' a' w' h4 (by rw [h3]; exact hc')
      simpa using this
    | true =>
      obtain ⟨h4, h5⟩ := h4
      simp only [List.append_nil, List.reverse_reverse] at h4
      refine wp_region_any hmix ?_
      have hc' : Conc N B M w0 ρ (sel st.fs ops.toList es (fun i => (Array.replicate ops.size false).getD i true) 0) a { w with drawn := w.drawn + 1 } := by
        rw [sel_none _ _ _ _ _ fun i _ hi => by
          have : i < ops.size := by simpa using hi
          simp [Array.getD_eq_getD_getElem?, this]]
        exact hc.step (fun _ => False) [] (Turn.drew _ w) hc.size hc.defers (fun _ _ => rfl) (fun _ _ => rfl) (fun _ h => h) (fun _ _ h => h) (fun _ _ _ _ _ _ h => h) (fun _ _ _ h => h)
          (fun o x b h => by cases h) (fun o o' x x' b h => by cases h) (fun _ o x h => by cases h) (fun _ t => .inl ⟨rfl, rfl⟩)
      have := chain_any (P := P) (N := N) (ops := ops.toList) (B := B) (M := M) (w0 := w0) (Q := Q) st.fs es h1 h2 h4 (fun ρ' a' w' hc' => hQ .normal st' ρ' a' w' h5 (by rw [h3]; exact hc'))
        ops.size (Array.replicate ops.size false) ρ a _ (by simp) (by simp) (fun i o ho hl => by
          have hi : i < ops.size := by
            rcases Nat.lt_or_ge i ops.size with h' | h'
            · exact h'
            · rw [List.getElem?_eq_none (by simpa using h')] at ho; cases ho
          simp [Array.getD_eq_getD_getElem?, hi] at hl) hc'
      simpa using this
  | seq x y ihx ihy =>
    intro K st ρ a w Q h hc hQ
    rcases h with h | ⟨ι, S, h, h2⟩
    · refine wp_seq (ihx _ st ρ a w _ h hc fun e st' ρ' a' w' hK hc' => ?_)
      cases e with
      | normal => exact ihy K st' ρ' a' w' Q hK hc' hQ
      | exit id => exact hQ (.exit id) _ _ _ _ hK hc'
      | ret => exact hQ .ret _ _ _ _ hK hc'
    · refine wp_seq (ihx _ st ρ a w _ h hc fun e st' ρ' a' w' hK hc' => ?_)
      cases e with
      | normal => obtain ⟨i, hi⟩ := hK; obtain ⟨ρ'', hc''⟩ := hi.ok hM hc'; exact ihy K (S i) ρ'' a' w' Q (h2 i) hc'' hQ
      | exit id => exact hQ (.exit id) _ _ _ _ hK hc'
      | ret => exact hQ .ret _ _ _ _ hK hc'
  | cond c x y ihx ihy =>
    intro K st ρ a w Q h hc hQ
    rw [W] at h
    split at h
    · rename_i b hb
      have hv := (hc.eval c).1
      rw [show evL st.fs.L c = tB b from hb] at hv
      refine wp_cond (inv_bool hv) ?_
      cases b with
      | true => exact ihx K _ ρ a w Q h (by rw [litc_fs hb]; exact hc) hQ
      | false => exact ihy K _ ρ a w Q h (by rw [litc_fs hb]; exact hc) hQ
    · exact h.elim
  | block id c ih =>
    intro K st ρ a w Q h hc hQ
    refine wp_block (ih _ st ρ a w _ h hc fun e st' ρ' a' w' hK hc' => ?_)
    cases e with
    | normal => exact hQ .normal _ _ _ _ hK hc'
    | ret => exact hQ .ret _ _ _ _ hK hc'
    | exit id' =>
      show if id' = id then _ else _
      by_cases he : id' = id
      · rw [if_pos he]
        subst he
        simp only [Nat.beq_refl] at hK
        exact hQ .normal _ _ _ _ hK hc'
      · rw [if_neg he]
        have : Nat.beq id' id = false := by cases hb : Nat.beq id' id with | false => rfl | true => exact absurd (Nat.eq_of_beq_eq_true hb) he
        simp only [this] at hK
        exact hQ (.exit id') _ _ _ _ hK hc'
  | loop c ih =>
    intro K st ρ a w Q h hc hQ
    obtain ⟨ι, S, μ, i0, h0, hS⟩ := h
    obtain ⟨ρ0, hc0⟩ := h0.ok hM hc
    -- the rank is carried by the round itself
    have key : ∀ n i (ρ : Id → Value) (a : Act) (w : World), μ i ≤ n → Conc N B M w0 ρ (S i).fs a w → ∀ (b : Frame) (k : List Item) (cs : List Frame),
        ∃ e a' w', Q e a' w' ∧ Arrives P (lone (b.at a (.code c :: .inLoop c :: k)) cs w) b k cs e a' w' := by
      intro n
      induction n with
      | zero => 
        intro i ρ a w hi hc b k cs
        obtain ⟨e, a1, w1, hq, harr⟩ := ih _ (S i) ρ a w (fun e a' w' => match e with | .normal => False | e => Q e a' w') (hS i) hc (fun e st' ρ' a' w' hK hc' => by
          cases e with
          | normal => obtain ⟨j, _, hj⟩ := hK; exact absurd hj (by omega)
          | exit id => exact hQ (.exit id) _ _ _ _ hK hc'
          | ret => exact hQ .ret _ _ _ _ hK hc') b (.inLoop c :: k) cs
        cases e with
        | normal => exact hq.elim
        | exit id => exact ⟨_, a1, w1, hq, .pass (x := .inLoop c) rfl (fun _ _ => .inl (by simp)) harr⟩
        | goto l => exact ⟨_, a1, w1, hq, .pass (x := .inLoop c) rfl (fun _ _ => .inl (by simp)) harr⟩
        | ret => exact ⟨_, a1, w1, hq, .pass (x := .inLoop c) rfl (fun _ _ => .inl (by simp)) harr⟩
        | panic ch => exact ⟨_, a1, w1, hq, .pass (x := .inLoop c) rfl (fun _ _ => .inl (by simp)) harr⟩
        | outgrown => exact ⟨_, a1, w1, hq, .pass (x := .inLoop c) rfl (fun _ _ => .inl (by simp)) harr⟩
      | succ n ihn =>
        intro i ρ a w hi hc b k cs
        obtain ⟨e, a1, w1, hq, harr⟩ := ih _ (S i) ρ a w (fun e a' w' => match e with | .normal => ∃ j ρ', μ j ≤ n ∧ Conc N B M w0 ρ' (S j).fs a' w' | e => Q e a' w') (hS i) hc (fun e st' ρ' a' w' hK hc' => by
          cases e with
          | normal => obtain ⟨j, hj1, hj2⟩ := hK; obtain ⟨ρ'', hc''⟩ := hj1.ok hM hc'; exact ⟨j, ρ'', by omega, hc''⟩
          | exit id => exact hQ (.exit id) _ _ _ _ hK hc'
          | ret => exact hQ .ret _ _ _ _ hK hc') b (.inLoop c :: k) cs
        cases e with
        | normal =>
          obtain ⟨j, ρ', hj, hc'⟩ := hq
          obtain ⟨e2, a2, w2, hq2, harr2⟩ := ihn j ρ' a1 w1 hj hc' b k cs
          exact ⟨e2, a2, w2, hq2, .of_steps (Steps.trans harr (.one step_inLoop)) harr2⟩
        | exit id => exact ⟨_, a1, w1, hq, .pass (x := .inLoop c) rfl (fun _ _ => .inl (by simp)) harr⟩
        | goto l => exact ⟨_, a1, w1, hq, .pass (x := .inLoop c) rfl (fun _ _ => .inl (by simp)) harr⟩
        | ret => exact ⟨_, a1, w1, hq, .pass (x := .inLoop c) rfl (fun _ _ => .inl (by simp)) harr⟩
        | panic ch => exact ⟨_, a1, w1, hq, .pass (x := .inLoop c) rfl (fun _ _ => .inl (by simp)) harr⟩
        | outgrown => exact ⟨_, a1, w1, hq, .pass (x := .inLoop c) rfl (fun _ _ => .inl (by simp)) harr⟩
    intro b k cs
    obtain ⟨e, a', w', hq, harr⟩ := key (μ i0) i0 ρ0 a w (Nat.le_refl _) hc0 b k cs
    exact ⟨e, a', w', hq, .of_steps (.one step_loop) harr⟩

end
end Go.Sim
