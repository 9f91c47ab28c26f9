/- What each operation does to the abstract state, as a proposition that unfolds by itself. -/
import Derived.Test.YtehniaekfijmiaaSimB
namespace Go.Sim
open Go.RowKit
structure TI where
  size : Nat
  bytes : Nat
  agg : Bool
  zero : List AC
  kind : Option IntKind := none
  str : Bool := false
  bool : Bool := false
  elem : Option TypeId := none
  fields : List (Nat × Nat × TypeId) := []
  map : Option (Option IntKind) := none
abbrev Env := List (TypeId × TI)
def Env.get : Env → TypeId → Option TI
  | [], _ => none
  | (u, i) :: r, t => bif Nat.beq u t then some i else Env.get r t
inductive RC' where
  | t (x : Tr)
  | arr (sz : Nat) (rows : List (List Tr))
inductive RR' where
  | c (x : RC')
  | agg (cs : List RC')
inductive Res where
  | r (x : RR')
  | tup (xs : List RR')
inductive TV where
  | c (x : Tr)
  | agg (xs : List Tr)
def RC'.ac (d i j : Nat) : RC' → AC
  | .t x => .t x
  | .arr _ _ => .own (d, i, j)
def RC'.acs (d i : Nat) : Nat → List RC' → List AC
  | _, [] => []
  | j, c :: r => c.ac d i j :: RC'.acs d i (j + 1) r
def RC'.os (d i j : Nat) : RC' → List (Id × AO)
  | .t _ => []
  | .arr sz rows => [((d, i, j), .arr true sz rows)]
def RC'.oss (d i : Nat) : Nat → List RC' → List (Id × AO)
  | _, [] => []
  | j, c :: r => c.os d i j ++ RC'.oss d i (j + 1) r
def RR'.ar (d i : Nat) : RR' → AR
  | .c x => .c (x.ac d i 0)
  | .agg cs => .agg (RC'.acs d i 0 cs)
def RR'.os (d i : Nat) : RR' → List (Id × AO)
  | .c x => x.os d i 0
  | .agg cs => RC'.oss d i 0 cs
def RR'.ars (d : Nat) : Nat → List RR' → List AR
  | _, [] => []
  | i, x :: r => x.ar d i :: RR'.ars d (i + 1) r
def RR'.oss (d : Nat) : Nat → List RR' → List (Id × AO)
  | _, [] => []
  | i, x :: r => x.os d i ++ RR'.oss d (i + 1) r
def Res.av (d : Nat) : Res → AV
  | .r x => .r (x.ar d 0)
  | .tup xs => .tup (RR'.ars d 0 xs)
def Res.os (d : Nat) : Res → List (Id × AO)
  | .r x => x.os d 0
  | .tup xs => RR'.oss d 0 xs
def RTV (w : World) (ok : Nat → Prop) (v : Value) : TV → Prop
  | .c x => RT w ok v x
  | .agg xs => ∃ us, v = .agg us ∧ RTs w ok us.toList xs
def RTVs (w : World) (ok : Nat → Prop) : List Value → List TV → Prop
  | [], [] => True
  | v :: vs, t :: ts => RTV w ok v t ∧ RTVs w ok vs ts
  | _, _ => False
def ResOK (B : Nat) (w : World) (v : Value) (r : Res) : Prop :=
  ∃ ρ : Rho, ∃ okp : Nat → Prop, (∀ b, okp b → b < w.heap.size ∧ B ≤ b) ∧ RV B ρ w okp v (r.av 0) ∧
    (∀ o x, (o, x) ∈ r.os 0 → RO B ρ w okp o x ∧ ∀ b, blk (ρ o) = some b → B ≤ b ∧ b < w.heap.size ∧ ¬ okp b) ∧
    (∀ o o' x x', (o, x) ∈ r.os 0 → (o', x') ∈ r.os 0 → o ≠ o' → ∀ b, blk (ρ o) = some b → blk (ρ o') ≠ some b)
def Enters (P : Program) (f : FuncId) : Prop := ∀ (args : Array Value) (w : World), (callFunc f args).run P w = .ok (.enter f args) w
def idEq (a b : Id) : Bool := Nat.beq a.1 b.1 && (Nat.beq a.2.1 b.2.1 && Nat.beq a.2.2 b.2.2)
def lkH : List (Id × AO) → Id → Option AO
  | [], _ => none
  | (i, x) :: r, o => bif idEq o i then some x else lkH r o
def RVs (B : Nat) (ρ : Rho) (w : World) (ok : Nat → Prop) : List Value → List AV → Prop
  | [], [] => True
  | v :: vs, x :: xs => RV B ρ w ok v x ∧ RVs B ρ w ok vs xs
  | _, _ => False
def Ms (ρ : Rho) (h : List (Id × AO)) (b : Nat) : Prop := ∃ o x, lkH h o = some x ∧ Own ρ o b
structure Lies (B : Nat) (ρ : Rho) (w : World) (h : List (Id × AO)) : Prop where
  obj : ∀ o x, lkH h o = some x → RO B ρ w (okB ρ (lkH h) w) o x
  sep : ∀ o o' x x' b, lkH h o = some x → lkH h o' = some x' → o ≠ o' → Own ρ o b → ¬ Own ρ o' b
  lt : ∀ o x b, lkH h o = some x → Own ρ o b → b < w.heap.size
def SpecG (P : Program) (f : FuncId) (xs : List AV) (h0 : List (Id × AO)) (r : AV) (h1 : List (Id × AO)) : Prop :=
  Enters P f ∧ ∀ (w : World) (vs : Array Value) (ρ : Rho), RVs w.heap.size ρ w (okB ρ (lkH h0) w) vs.toList xs → Lies w.heap.size ρ w h0 → (∀ b, (w.heap.size ≤ b ∨ Ms ρ h0 b) → ρ.al b) →
    Calls P f vs w fun e w' => ∃ v ρ', e = .returned v ∧ Keep w.heap.size (Ms ρ h0) w w' ∧ (∀ o, (lkH h0 o).isSome = true → ρ' o = ρ o) ∧ ρ'.al = ρ.al ∧
      RV w.heap.size ρ' w' (okB ρ' (lkH h1) w') v r ∧ Lies w.heap.size ρ' w' h1 ∧ ∀ o x b, lkH h1 o = some x → Own ρ' o b → w.heap.size ≤ b ∨ Ms ρ h0 b
def Spec (P : Program) (f : FuncId) (ts : List TV) (r : Res) : Prop :=
  Enters P f ∧ ∀ (w : World) (vs : Array Value), RTVs w (fun b => b < w.heap.size) vs.toList ts →
    Calls P f vs w fun e w' => ∃ v, e = .returned v ∧ Below w.heap.size w w' ∧ ResOK w.heap.size w' v r
structure Eff where
  v : AV
  us : List (Id × Option AO)
  new : Option Nat
  R : List Id
abbrev Eff.val (v : AV) (R : List Id) : Eff := ⟨v, [], none, R⟩
abbrev tI (k : IntKind) (n : Int) : AV := .r (.c (.t (.int k n)))
abbrev tB (b : Bool) : AV := .r (.c (.t (.bool b)))
abbrev tS (s : List UInt8) : AV := .r (.c (.t (.str s)))
def ifB (b : Bool) (X Y : Prop) : Prop :=
  match b with
  | true => X
  | false => Y
theorem ifB_intro {b : Bool} {X Y : Prop} (h1 : b = true → X) (h2 : b = false → Y) : ifB b X Y := by
  cases b
  · exact h2 rfl
  · exact h1 rfl
theorem ifB_mono {b : Bool} {X Y X' Y' : Prop} (h1 : X → X') (h2 : Y → Y') (h : ifB b X Y) : ifB b X' Y' := by
  cases b
  · exact h2 h
  · exact h1 h
def cut {α : Type} : Nat → Nat → List α → Option (List α)
  | 0, 0, _ => some []
  | 0, n + 1, x :: r => (cut 0 n r).map (x :: ·)
  | i + 1, n, _ :: r => cut i n r
  | _, _, _ => none
def lay {α : Type} : Nat → List α → List α → Option (List α)
  | 0, [], r => some r
  | 0, x :: xs, _ :: r => (lay 0 xs r).map (x :: ·)
  | i + 1, xs, y :: r => (lay i xs r).map (y :: ·)
  | _, _, _ => none
def mkC (fr : Bool) : Tr → AC
  | .lst sz rows => (match fr with
     | true => .f (.lst sz rows)
     | false => .t (.lst sz rows))
  | x => .t x
def DC.tr : DC → Tr
  | .t x => x
  | .d x => x
def DC.ld : DC → AC
  | .t x => .t x
  | .d x => (match x with
     | .lst _ _ => .opq
     | x => .t x)
def flat (rows : List (List Tr)) : Prop := ∀ row ∈ rows, ∀ x ∈ row, ∀ sz rs, x ≠ .lst sz rs
def deepRows (rows : List (List Tr)) : List (List DC) := rows.map (·.map .d)
def memI (t : Id) (l : List Id) : Bool := l.any (idEq t)
def nodupI : List Id → Bool
  | [] => true
  | o :: l => !memI o l && nodupI l
def ofConst : Value → AV
  | .int k n => tI k n
  | .bool b => tB b
  | .string s => tS s.data.toList
  | .slice none 0 0 => .r (.c (.nils 0))
  | .pointer none => .r (.c .nilp)
  | _ => .unk
def evL (L : Nat → AV) : Operand → AV
  | .tmp t => L t
  | .const v => ofConst v
  | _ => .unk
def frz (H : Id → Option AO) : List AC → Option (List Tr × Bool × List Id)
  | [] => some ([], true, [])
  | .t x :: r => (match frz H r with
     | some (ts, fr, ids) => (match x with
        | .lst sz rows => some (.lst sz rows :: ts, false, ids)
        | x => some (x :: ts, fr, ids))
     | none => none)
  | .f x :: r => (match frz H r with
     | some (ts, fr, ids) => some (x :: ts, fr, ids)
     | none => none)
  | .nils sz :: r => (match frz H r with
     | some (ts, fr, ids) => some (.lst sz [] :: ts, fr, ids)
     | none => none)
  | .own o :: r => (match H o, frz H r with
     | some (.arr fr' sz rows), some (ts, fr, ids) => some (.lst sz rows :: ts, fr' && fr, o :: ids)
     | _, _ => none)
  | _ :: _ => none
abbrev frzD (H : Id → Option AO) : List AC → (List DC → List Id → Prop) → Prop
  | [], K => K [] []
  | c :: r, K => (match c with
     | .t x => (match x with
        | .lst sz rows => frzD H r fun cs ids => K (.t (.lst sz rows) :: cs) ids
        | x => frzD H r fun cs ids => K (.d x :: cs) ids)
     | .f x => (match x with
        | .lst sz rows => frzD H r fun cs ids => K (.t (.lst sz rows) :: cs) ids
        | x => frzD H r fun cs ids => K (.d x :: cs) ids)
     | .nils sz => frzD H r fun cs ids => K (.d (.lst sz []) :: cs) ids
     | .own o => (match H o with
        | some (.arr _ sz rows) => flat rows ∧ frzD H r fun cs ids => K (.d (.lst sz rows) :: cs) (o :: ids)
        | some (.dar sz rows none) => ∃ rows', rows = deepRows rows' ∧ frzD H r fun cs ids => K (.d (.lst sz rows') :: cs) (o :: ids)
        | _ => False)
     | _ => False)
def arith (op : BinOp) (k : IntKind) (a b : Int) (K : AV → Prop) : Prop :=
  match op with
  | .add => K (tI k (k.wrap (a + b)))
  | .sub => K (tI k (k.wrap (a - b)))
  | .mul => K (tI k (k.wrap (a * b)))
  | .quo => b ≠ 0 ∧ K (tI k (k.wrap (a.tdiv b)))
  | .rem => b ≠ 0 ∧ K (tI k (a.tmod b))
  | .and => K (tI k (k.wrap ((BitVec.ofInt k.bits a &&& BitVec.ofInt k.bits b).toNat)))
  | .or => K (tI k (k.wrap ((BitVec.ofInt k.bits a ||| BitVec.ofInt k.bits b).toNat)))
  | .xor => K (tI k (k.wrap ((BitVec.ofInt k.bits a ^^^ BitVec.ofInt k.bits b).toNat)))
  | .eql => K (tB (a == b))
  | .neq => K (tB (a != b))
  | .lss => K (tB (decide (a < b)))
  | .leq => K (tB (decide (a ≤ b)))
  | .gtr => K (tB (decide (a > b)))
  | .geq => K (tB (decide (a ≥ b)))
  | _ => False
def shift (op : BinOp) (k : IntKind) (a b : Int) (K : AV → Prop) : Prop :=
  match op with
  | .shl => 0 ≤ b ∧ K (tI k (k.wrap (a * 2 ^ (min b.toNat k.bits))))
  | .shr => 0 ≤ b ∧ K (tI k (a.fdiv (2 ^ (min b.toNat k.bits))))
  | _ => False
def semBin (op : BinOp) (x y : AV) (K : AV → Prop) : Prop :=
  match x, y with
  | .r (.c (.t (.int k a))), .r (.c (.t (.int k' b))) =>
    (match op with
     | .shl => shift .shl k a b K
     | .shr => shift .shr k a b K
     | op => k = k' ∧ arith op k a b K)
  | .r (.c (.t (.str a))), .r (.c (.t (.str b))) =>
    (match op with
     | .add => ((a.length + b.length : Nat) : Int) ≤ 9223372036854775807 ∧ K (tS (a ++ b))
     | .eql => K (tB (a == b))
     | .neq => K (tB (!(a == b)))
     | _ => False)
  | _, _ => False
def semBool (op : BinOp) (x y : AV) (K : AV → Prop) : Prop :=
  match x, y with
  | .r (.c (.t (.bool a))), .r (.c (.t (.bool b))) =>
    (match op with
     | .eql => K (tB (a == b))
     | .neq => K (tB (!(a == b)))
     | _ => False)
  | _, _ => False
def plainS (Γ : Env) (t : TypeId) : Option Nat :=
  match Γ.get t with
  | some ti => (match ti.agg, ti.kind, ti.bool, ti.str with
     | false, some _, _, _ => some 0
     | false, none, true, _ => some 1
     | false, none, false, true => some 2
     | _, _, _, _ => none)
  | none => none
abbrev eqCs (Γ : Env) : Nat → List (Nat × Nat × TypeId) → List AC → List AC → (Bool → Prop) → Prop
  | _, [], [], [], K => K true
  | i, (off, _, ft) :: fs, x :: xs, y :: ys, K => (match Nat.beq off i, plainS Γ ft, x, y with
     | true, some 0, .t (.int k a), .t (.int k' b) => k = k' ∧ eqCs Γ (i + 1) fs xs ys fun r => K ((a == b) && r)
     | true, some 1, .t (.bool a), .t (.bool b) => eqCs Γ (i + 1) fs xs ys fun r => K ((a == b) && r)
     | true, some 2, .t (.str a), .t (.str b) => eqCs Γ (i + 1) fs xs ys fun r => K ((a == b) && r)
     | _, _, _, _ => False)
  | _, _, _, _, _ => False
def eqTyOk (P : Program) (T : TypeId) : Bool :=
  match P.underlying T with
  | some (.struct fs) => fs.toList.all (fun f => f.name != "_") && !P.stoodInHeld T && !P.eqGuardType P.depth T
  | _ => false
def semEqS (Γ : Env) (fs : List (Nat × Nat × TypeId)) (op : BinOp) (xs : List AC) (y : AV) (K : AV → Prop) : Prop :=
  match y with
  | .r (.agg ys) => (match op with
     | .eql => eqCs Γ 0 fs xs ys fun r => K (tB r)
     | .neq => eqCs Γ 0 fs xs ys fun r => K (tB (!r))
     | _ => False)
  | _ => False
def semUn (op : UnOp) (x : AV) (K : AV → Prop) : Prop :=
  match op, x with
  | .not, .r (.c (.t (.bool b))) => K (tB (!b))
  | .neg, .r (.c (.t (.int k n))) => K (tI k (k.wrap (0 - n)))
  | _, _ => False
def semLoad (deep : Bool) (nm : Nat) (ti : TI) (x : AV) (H : Id → Option AO) (K : Eff → Prop) : Prop :=
  match x with
  | .r (.c (.ptr o off)) =>
    (match H o with
     | some (.box cells) =>
       (match ti.agg with
        | true => (match cut off ti.size cells with
          | some cs => K (.val (.r (.agg cs)) [o])
          | none => False)
        | false => (match cut off 1 cells with
          | some [c] => K (.val (.r (.c c)) [o])
          | _ => False))
     | _ => False)
  | .el o sz i off =>
    (match H o with
     | some (.arr fr sz' rows) => sz' = sz ∧ ∃ row, rows[i]? = some row ∧
       (match ti.agg with
        | true => (match cut off ti.size row with
          | some cs => K (.val (.r (.agg (cs.map (mkC fr)))) [o])
          | none => False)
        | false => (match cut off 1 row with
          | some [c] => K (.val (.r (.c (mkC fr c))) [o])
          | _ => False))
     | some (.dar sz' rows none) => sz' = sz ∧ ∃ row, rows[i]? = some row ∧
       (match ti.agg with
        | true => (match cut off ti.size row with
          | some cs => K (.val (.r (.agg (cs.map DC.ld))) [o])
          | none => False)
        | false => (match cut off 1 row with
          | some [.d (.lst s rs)] => (match deep with
             | true => K ⟨.r (.c (.own (nm, 0, 0))), [(o, some (.dar sz rows (some (i, off, (nm, 0, 0))))), ((nm, 0, 0), some (.dar s (deepRows rs) none))], some nm, [o]⟩
             | false => flat rs ∧ K ⟨.r (.c (.own (nm, 0, 0))), [(o, some (.dar sz rows (some (i, off, (nm, 0, 0))))), ((nm, 0, 0), some (.arr false s rs))], some nm, [o]⟩)
          | some [c] => K (.val (.r (.c c.ld)) [o])
          | _ => False))
     | _ => False)
  | .ro fr row off =>
    (match ti.agg with
     | true => (match cut off ti.size row with
       | some cs => K (.val (.r (.agg (cs.map (mkC fr)))) [])
       | none => False)
     | false => (match cut off 1 row with
       | some [c] => K (.val (.r (.c (mkC fr c))) [])
       | _ => False))
  | _ => False
def semStore (ti : TI) (x y : AV) (H : Id → Option AO) (K : Eff → Prop) : Prop :=
  match y with
  | .r ar =>
    (match Nat.beq ar.cells.length ti.size with
     | true =>
       (match x with
        | .r (.c (.ptr o off)) =>
          (match H o with
           | some (.box cells) =>
             (match lay off ar.cells cells with
              | some cells' => K ⟨.unk, [(o, some (.box cells'))], none, [o]⟩
              | none => False)
           | _ => False)
        | .el o sz' i off =>
          (match H o with
           | some (.arr fr sz rows) => (match frz H ar.cells with
              | some (ts, fr', ids) => sz = sz' ∧ o ∉ ids ∧ ∃ row, rows[i]? = some row ∧
                (match lay off ts row with
                 | some row' => K ⟨.unk, ids.map (fun r => (r, none)) ++ [(o, some (.arr (fr && fr') sz (rows.set i row')))], none, o :: ids⟩
                 | none => False)
              | none => False)
           | some (.dar sz rows none) => sz = sz' ∧ ∃ row, rows[i]? = some row ∧ frzD H ar.cells fun cs ids => nodupI (o :: ids) = true ∧
             (match lay off cs row with
              | some row' => K ⟨.unk, ids.map (fun r => (r, none)) ++ [(o, some (.dar sz (rows.set i row') none))], none, o :: ids⟩
              | none => False)
           | _ => False)
        | _ => False)
     | false => False)
  | _ => False
def semFieldAddr (off : Nat) (x : AV) (K : AV → Prop) : Prop :=
  match x with
  | .r (.c (.ptr o k)) => K (.r (.c (.ptr o (k + off))))
  | .el o sz i k => K (.el o sz i (k + off))
  | .ro fr row k => K (.ro fr row (k + off))
  | _ => False
def semIndexAddr (esz : Nat) (x i : AV) (H : Id → Option AO) (K : Eff → Prop) : Prop :=
  match x, i with
  | .r (.c (.t (.lst sz rows))), .r (.c (.t (.int _ n))) => sz = esz ∧ ∃ (j : Nat) (row : List Tr), n = (j : Int) ∧ rows[j]? = some row ∧ K (.val (.ro false row 0) [])
  | .r (.c (.f (.lst sz rows))), .r (.c (.t (.int _ n))) => sz = esz ∧ ∃ (j : Nat) (row : List Tr), n = (j : Int) ∧ rows[j]? = some row ∧ K (.val (.ro true row 0) [])
  | .r (.c (.own o)), .r (.c (.t (.int _ n))) =>
    (match H o with
     | some (.arr _ sz rows) => sz = esz ∧ ∃ j : Nat, n = (j : Int) ∧ j < rows.length ∧ K (.val (.el o esz j 0) [o])
     | some (.dar sz rows _) => sz = esz ∧ ∃ j : Nat, n = (j : Int) ∧ j < rows.length ∧ K (.val (.el o esz j 0) [o])
     | _ => False)
  | .r (.c (.sub o k)), .r (.c (.t (.int _ n))) =>
    (match H o with
     | some (.arr _ sz rows) => sz = esz ∧ ∃ j : Nat, n = (j : Int) ∧ j < k ∧ j < rows.length ∧ K (.val (.el o esz j 0) [o])
     | some (.dar sz rows _) => sz = esz ∧ ∃ j : Nat, n = (j : Int) ∧ j < k ∧ j < rows.length ∧ K (.val (.el o esz j 0) [o])
     | _ => False)
  | _, _ => False
def semIndex (x i : AV) (K : AV → Prop) : Prop :=
  match x, i with
  | .r (.c (.t (.str s))), .r (.c (.t (.int _ n))) => ∃ (j : Nat) (b : UInt8), n = (j : Int) ∧ s[j]? = some b ∧ K (tI .u8 b.toNat)
  | _, _ => False
def bnd (d : Nat) : Option AV → Nat → Prop
  | none, n => n = d
  | some (.r (.c (.t (.int _ i)))), n => i = (n : Int)
  | _, _ => False
def semSlice (esz : Nat) (x : AV) (lo hi : Option AV) (H : Id → Option AO) (K : Eff → Prop) : Prop :=
  match x with
  | .r (.c (.t (.str s))) => ∃ l h : Nat, bnd 0 lo l ∧ bnd s.length hi h ∧ l ≤ h ∧ h ≤ s.length ∧ K (.val (tS ((s.take h).drop l)) [])
  | .r (.c (.t (.lst sz rows))) => sz = esz ∧ ∃ l h : Nat, bnd 0 lo l ∧ bnd rows.length hi h ∧ l ≤ h ∧ h ≤ rows.length ∧ K (.val (.r (.c (.t (.lst sz ((rows.take h).drop l))))) [])
  | .r (.c (.f (.lst sz rows))) => sz = esz ∧ ∃ l h : Nat, bnd 0 lo l ∧ bnd rows.length hi h ∧ l ≤ h ∧ h ≤ rows.length ∧ K (.val (.r (.c (.f (.lst sz ((rows.take h).drop l))))) [])
  | .r (.c (.own o)) =>
    (match H o with
     | some (.arr _ _ rows) =>
       (match lo with
        | none => ∃ h : Nat, bnd rows.length hi h ∧ h ≤ rows.length ∧ K (.val (.r (.c (.sub o h))) [o])
        | some l => False)
     | some (.dar _ rows _) =>
       (match lo with
        | none => ∃ h : Nat, bnd rows.length hi h ∧ h ≤ rows.length ∧ K (.val (.r (.c (.sub o h))) [o])
        | some l => False)
     | _ => False)
  | .r (.c (.sub o k)) =>
    (match H o with
     | some (.arr _ _ rows) =>
       (match lo with
        | none => ∃ h : Nat, bnd k hi h ∧ h ≤ k ∧ h ≤ rows.length ∧ K (.val (.r (.c (.sub o h))) [o])
        | some l => False)
     | some (.dar _ rows _) =>
       (match lo with
        | none => ∃ h : Nat, bnd k hi h ∧ h ≤ k ∧ h ≤ rows.length ∧ K (.val (.r (.c (.sub o h))) [o])
        | some l => False)
     | _ => False)
  | _ => False
def semLen (x : AV) (H : Id → Option AO) (K : Eff → Prop) : Prop :=
  match x with
  | .r (.c (.t (.lst _ rows))) => K (.val (tI .i64 rows.length) [])
  | .r (.c (.f (.lst _ rows))) => K (.val (tI .i64 rows.length) [])
  | .r (.c (.nils _)) => K (.val (tI .i64 0) [])
  | .r (.c (.own o)) => (match H o with
     | some (.arr _ _ rows) => K (.val (tI .i64 rows.length) [o])
     | some (.dar _ rows _) => K (.val (tI .i64 rows.length) [o])
     | _ => False)
  | .r (.c (.sub _ k)) => K (.val (tI .i64 k) [])
  | _ => False
def byteRow (b : UInt8) : List Tr := [.int .u8 b.toNat]
def srcRows (esz : Nat) (x : AV) (H : Id → Option AO) (K2 : Bool → List (List Tr) → List Id → Prop) : Prop :=
  match x with
  | .r (.c (.t (.str b))) => esz = 1 ∧ K2 true (b.map byteRow) []
  | .r (.c (.nils _)) => K2 true [] []
  | .r (.c (.t (.lst sz rows))) => sz = esz ∧ K2 false rows []
  | .r (.c (.f (.lst sz rows))) => sz = esz ∧ K2 true rows []
  | .r (.c (.own o)) => (match H o with
     | some (.arr fr sz rows) => sz = esz ∧ K2 fr rows [o]
     | _ => False)
  | .r (.c (.sub o k)) => (match H o with
     | some (.arr fr sz rows) => sz = esz ∧ k ≤ rows.length ∧ K2 fr (rows.take k) [o]
     | _ => False)
  | _ => False
def fits (n bytes : Nat) : Prop := n * bytes ≤ 140737488355328 ∧ n ≤ 9223372036854775807
def srcD (esz : Nat) (x : AV) (H : Id → Option AO) (K2 : List (List DC) → List Id → List Id → Prop) : Prop :=
  match x with
  | .r (.c (.own o)) => (match H o with
     | some (.dar sz rows none) => sz = esz ∧ K2 rows [o] []
     | _ => srcRows esz x H fun _ rows R => K2 (rows.map (·.map .t)) [] R)
  | x => srcRows esz x H fun _ rows R => K2 (rows.map (·.map .t)) [] R
def isDeep (H : Id → Option AO) : AV → Bool
  | .r (.c (.own o)) => (match H o with
     | some (.dar _ _ none) => true
     | _ => false)
  | _ => false
def semAppend (d esz bytes : Nat) (s x : AV) (H : Id → Option AO) (K : Eff → Prop) : Prop :=
  match s with
  | .r (.c (.nils _)) => (match isDeep H x with
     | true => srcD esz x H fun news rm R => fits news.length bytes ∧ K ⟨.r (.c (.own (d, 0, 0))), rm.map (fun r => (r, none)) ++ [((d, 0, 0), some (.dar esz news none))], some d, rm ++ R⟩
     | false => srcRows esz x H fun fr news R => fits news.length bytes ∧ K ⟨.r (.c (.own (d, 0, 0))), [((d, 0, 0), some (.arr fr esz news))], some d, R⟩)
  | .r (.c (.own o)) =>
    (match H o with
     | some (.arr fr sz rows) => sz = esz ∧ srcRows esz x H fun fr' news R => fits (rows.length + news.length) bytes ∧ o ∉ R ∧
        K ⟨.r (.c (.own (d, 0, 0))), [(o, none), ((d, 0, 0), some (.arr (fr && fr') esz (rows ++ news)))], some d, o :: R⟩
     | some (.dar sz rows none) => sz = esz ∧ srcD esz x H fun news rm R => fits (rows.length + news.length) bytes ∧ memI o (rm ++ R) = false ∧
        K ⟨.r (.c (.own (d, 0, 0))), (o :: rm).map (fun r => (r, none)) ++ [((d, 0, 0), some (.dar esz (rows ++ news) none))], some d, o :: (rm ++ R)⟩
     | _ => False)
  | .r (.c (.sub o k)) =>
    (match H o with
     | some (.arr fr sz rows) => sz = esz ∧ k ≤ rows.length ∧ srcRows esz x H fun fr' news R => fits (k + news.length) bytes ∧ o ∉ R ∧
        K ⟨.r (.c (.own (d, 0, 0))), [(o, none), ((d, 0, 0), some (.arr (fr && fr') esz (rows.take k ++ news)))], some d, o :: R⟩
     | some (.dar sz rows none) => sz = esz ∧ k ≤ rows.length ∧ srcD esz x H fun news rm R => fits (k + news.length) bytes ∧ memI o (rm ++ R) = false ∧
        K ⟨.r (.c (.own (d, 0, 0))), (o :: rm).map (fun r => (r, none)) ++ [((d, 0, 0), some (.dar esz (rows.take k ++ news) none))], some d, o :: (rm ++ R)⟩
     | _ => False)
  | _ => False
def isBytes (Γ : Env) (ti : TI) : Bool :=
  match ti.elem with
  | some e => (match Γ.get e with
     | some te => (match te.kind with
        | some .u8 => true
        | _ => false)
     | none => false)
  | none => false
def semConvert (Γ : Env) (src dst : TI) (d : Nat) (x : AV) (H : Id → Option AO) (K : Eff → Prop) : Prop :=
  match x with
  | .r (.c (.t (.int _ n))) => (match dst.kind with
     | some k => K (.val (tI k (k.wrap n)) [])
     | none => False)
  | .r (.c (.t (.str s))) => (match dst.str with
     | true => K (.val (tS s) [])
     | false => (match src.str && isBytes Γ dst with
        | true => s.length ≤ 140737488355328 ∧ K ⟨.r (.c (.own (d, 0, 0))), [((d, 0, 0), some (.arr true 1 (s.map byteRow)))], some d, []⟩
        | false => False))
  | y => (match dst.str, isBytes Γ src with
     | true, true => srcRows 1 y H fun _ rows R => ∃ bs : List UInt8, rows = bs.map byteRow ∧ K (.val (tS bs) R)
     | _, _ => False)
abbrev semBuild (fs : List (Nat × Nat × TypeId)) (zero : List AC) : List (Nat × AV) → (List AC → Prop) → Prop
  | [], K => K zero
  | (i, .r ar) :: r, K => (match fs[i]? with
     | some (off, sz, _) => (match Nat.beq ar.cells.length sz, lay off ar.cells zero with
        | true, some z => semBuild fs z r K
        | _, _ => False)
     | none => False)
  | _, _ => False
abbrev semRows (H : Id → Option AO) : Nat → List (Nat × AV) → (Bool → List (List Tr) → List Id → Prop) → Prop
  | _, [], K => K true [] []
  | n, (i, .r ar) :: r, K => (match Nat.beq i n, frz H ar.cells with
     | true, some (ts, fr, ids) => semRows H (n + 1) r fun fr' rows ids' => K (fr && fr') (ts :: rows) (ids ++ ids')
     | _, _ => False)
  | _, _, _ => False
abbrev semRowsD (H : Id → Option AO) : Nat → List (Nat × AV) → (List (List DC) → List Id → Prop) → Prop
  | _, [], K => K [] []
  | n, (i, .r ar) :: r, K => (match Nat.beq i n with
     | true => frzD H ar.cells fun cs ids => semRowsD H (n + 1) r fun rows ids' => K (cs :: rows) (ids ++ ids')
     | false => False)
  | _, _, _ => False
def ownIn : List AC → Bool
  | [] => false
  | .own _ :: _ => true
  | _ :: r => ownIn r
def ownInParts : List (Nat × AV) → Bool
  | [] => false
  | (_, .r ar) :: r => ownIn ar.cells || ownInParts r
  | _ :: r => ownInParts r
def nilsIn : List AC → Bool
  | [] => false
  | .nils _ :: _ => true
  | _ :: r => nilsIn r
def acTree (H : Id → Option AO) : AC → Tr → Prop
  | .t x, y => y = x
  | .f x, y => y = x
  | .nils _, y => ∃ sz, y = .lst sz []
  | .own o, y => (match H o with
     | some (.arr _ sz rows) => y = .lst sz rows
     | some (.dar sz rows none) => y = .lst sz (rows.map (·.map DC.tr))
     | _ => False)
  | .sub o k, y => (match H o with
     | some (.arr _ sz rows) => y = .lst sz (rows.take k)
     | some (.dar sz rows none) => y = .lst sz ((rows.take k).map (·.map DC.tr))
     | _ => False)
  | _, _ => False
def acTrees (H : Id → Option AO) : List AC → List Tr → Prop
  | [], [] => True
  | c :: cs, t :: ts => acTree H c t ∧ acTrees H cs ts
  | _, _ => False
def argTree (H : Id → Option AO) : AV → TV → Prop
  | .r (.c x), .c t => acTree H x t
  | .r (.agg cs), .agg ts => acTrees H cs ts
  | _, _ => False
def argTrees (H : Id → Option AO) : List AV → List TV → Prop
  | [], [] => True
  | x :: xs, t :: ts => argTree H x t ∧ argTrees H xs ts
  | _, _ => False
def semExtract (i : Nat) (x : AV) (K : AV → Prop) : Prop :=
  match x with
  | .tup xs => (match xs[i]? with
     | some a => K (.r a)
     | none => False)
  | _ => False
def semField (off : Nat) (ti : TI) (x : AV) (K : AV → Prop) : Prop :=
  match x with
  | .r (.agg cs) =>
    (match ti.agg with
     | true => (match cut off ti.size cs with
       | some xs => K (.r (.agg xs))
       | none => False)
     | false => (match cut off 1 cs with
       | some [c] => K (.r (.c c))
       | _ => False))
  | _ => False
def semMake (d esz bytes : Nat) (zero : List AC) (l c : AV) (K : Eff → Prop) : Prop :=
  match l, c, frz (fun _ => none) zero with
  | .r (.c (.t (.int _ n))), .r (.c (.t (.int _ m))), some (z, _, _) => ∃ j : Nat, n = (j : Int) ∧ m = (j : Int) ∧ j ≤ 9223372036854775807 ∧ j * bytes ≤ 140737488355328 ∧
      (match nilsIn zero with
       | false => K ⟨.r (.c (.own (d, 0, 0))), [((d, 0, 0), some (.arr true esz (List.replicate j z)))], some d, []⟩
       | true => K ⟨.r (.c (.own (d, 0, 0))), [((d, 0, 0), some (.dar esz (List.replicate j (z.map .d)) none))], some d, []⟩)
  | _, _, _ => False
def deepE (Γ : Env) (ti : TI) : Bool :=
  match ti.elem with
  | some e => (match Γ.get e with
     | some te => nilsIn te.zero
     | none => false)
  | none => false
def setH (H : Id → Option AO) (o : Id) (x : Option AO) : Id → Option AO := fun q => bif idEq q o then x else H q
def closeAt (H : Id → Option AO) (x : AV) (K : (Id → Option AO) → List (Id × Option AO) → List Id → Prop) : Prop :=
  match x with
  | .el o _ _ _ => (match H o with
     | some (.dar sz rows (some (i, off, n))) => (match idEq n o, H n with
        | false, some (.arr _ t rs) => flat rs ∧ ∃ row, rows[i]? = some row ∧ off < sz ∧
            K (setH (setH H n none) o (some (.dar sz (rows.set i (row.set off (.d (.lst t rs)))) none))) [(n, none), (o, some (.dar sz (rows.set i (row.set off (.d (.lst t rs)))) none))] [o, n]
        | false, some (.dar t rs none) => ∃ rs', rs = deepRows rs' ∧ ∃ row, rows[i]? = some row ∧ off < sz ∧
            K (setH (setH H n none) o (some (.dar sz (rows.set i (row.set off (.d (.lst t rs')))) none))) [(n, none), (o, some (.dar sz (rows.set i (row.set off (.d (.lst t rs')))) none))] [o, n]
        | _, _ => False)
     | _ => K H [] [])
  | _ => K H [] []
def lkI : List (Id × Id) → Id → Option Id
  | [], _ => none
  | (i, x) :: r, o => bif idEq o i then some x else lkI r o
def bindI (θ : List (Id × Id)) (q o : Id) (K : List (Id × Id) → Prop) : Prop :=
  match lkI θ q with
  | some o' => idEq o o' = true ∧ K θ
  | none => K ((q, o) :: θ)
def maC (H : Id → Option AO) (θ : List (Id × Id)) (bw : List Id) : AC → AC → (List (Id × Id) → List Id → Prop) → Prop
  | .own o, .own q, K => bindI θ q o fun θ => K θ bw
  | .ptr o n, .ptr q n', K => n = n' ∧ bindI θ q o fun θ => K θ bw
  | .nilp, .nilp, K => K θ bw
  | .mpv o, .mpv q, K => bindI θ q o fun θ => K θ bw
  | .nils _, .nils _, K => K θ bw
  | .own o, .t y, K => acTree H (.own o) y ∧ K θ (o :: bw)
  | .sub o k, .t y, K => acTree H (.sub o k) y ∧ K θ (o :: bw)
  | x, .t y, K => acTree H x y ∧ K θ bw
  | _, _, _ => False
abbrev maCs (H : Id → Option AO) (θ : List (Id × Id)) (bw : List Id) : List AC → List AC → (List (Id × Id) → List Id → Prop) → Prop
  | [], [], K => K θ bw
  | x :: xs, y :: ys, K => maC H θ bw x y fun θ bw => maCs H θ bw xs ys K
  | _, _, _ => False
def maV (H : Id → Option AO) (θ : List (Id × Id)) (bw : List Id) : AV → AV → (List (Id × Id) → List Id → Prop) → Prop
  | .r (.c x), .r (.c y), K => maC H θ bw x y K
  | .r (.agg xs), .r (.agg ys), K => maCs H θ bw xs ys K
  | _, _, _ => False
abbrev maVs (H : Id → Option AO) (θ : List (Id × Id)) (bw : List Id) : List AV → List AV → (List (Id × Id) → List Id → Prop) → Prop
  | [], [], K => K θ bw
  | x :: xs, y :: ys, K => maV H θ bw x y fun θ bw => maVs H θ bw xs ys K
  | _, _, _ => False
abbrev maO (H : Id → Option AO) (θ : List (Id × Id)) (bw : List Id) : List (Id × AO) → (List (Id × Id) → List Id → Prop) → Prop
  | [], K => K θ bw
  | (q, y) :: l, K => (match lkI θ q with
     | some o => (match H o with
        | some (.box cs) => (match y with
           | .box ds => maCs H θ bw cs ds fun θ bw => maO H θ bw l K
           | _ => False)
        | some (.arr _ sz rows) => (match y with
           | .arr fr' sz' rows' => fr' = false ∧ sz = sz' ∧ rows = rows' ∧ maO H θ bw l K
           | _ => False)
        | some (.dar sz rows none) => (match y with
           | .dar sz' rows' none => sz = sz' ∧ rows = rows' ∧ maO H θ bw l K
           | _ => False)
        | some (.mp kk es) => (match y with
           | .mp kk' es' => kk = kk' ∧ es = es' ∧ maO H θ bw l K
           | _ => False)
        | _ => False)
     | none => False)
def okI (θ : List (Id × Id)) (bw : List Id) (h0 : List (Id × AO)) : Bool :=
  nodupI (θ.map (·.2)) && nodupI (θ.map (·.1)) && nodupI (h0.map (·.1)) && θ.all (fun p => memI p.1 (h0.map (·.1)) && !memI p.2 bw) && h0.all (fun p => memI p.1 (θ.map (·.1)))
def reI (θ : List (Id × Id)) (nm : Nat) (q : Id) : Id :=
  match lkI θ q with
  | some o => o
  | none => (nm, q.2)
def AC.re (θ : List (Id × Id)) (nm : Nat) : AC → AC
  | .own q => .own (reI θ nm q)
  | .sub q k => .sub (reI θ nm q) k
  | .ptr q k => .ptr (reI θ nm q) k
  | .mpv q => .mpv (reI θ nm q)
  | x => x
def reCs (θ : List (Id × Id)) (nm : Nat) : List AC → List AC
  | [] => []
  | c :: cs => c.re θ nm :: reCs θ nm cs
def AR.re (θ : List (Id × Id)) (nm : Nat) : AR → AR
  | .c x => .c (x.re θ nm)
  | .agg cs => .agg (reCs θ nm cs)
def reRs (θ : List (Id × Id)) (nm : Nat) : List AR → List AR
  | [] => []
  | c :: cs => c.re θ nm :: reRs θ nm cs
def AV.re (θ : List (Id × Id)) (nm : Nat) : AV → AV
  | .r x => .r (x.re θ nm)
  | .tup xs => .tup (reRs θ nm xs)
  | _ => .unk
def AO.re (θ : List (Id × Id)) (nm : Nat) : AO → AO
  | .arr fr sz rows => .arr fr sz rows
  | .box cs => .box (reCs θ nm cs)
  | .dar sz rows hole => .dar sz rows hole
  | .mp kk es => .mp kk es
def newC : AC → Bool
  | .t x => (match x with
     | .lst _ _ => false
     | _ => true)
  | _ => true
def newCs : List AC → Bool
  | [] => true
  | c :: cs => newC c && newCs cs
def newR : AR → Bool
  | .c x => newC x
  | .agg cs => newCs cs
def newRs : List AR → Bool
  | [] => true
  | c :: cs => newR c && newRs cs
def newV : AV → Bool
  | .r x => newR x
  | .tup xs => newRs xs
  | _ => false
def newO : List (Id × AO) → Bool
  | [] => true
  | (_, .box cs) :: l => newCs cs && newO l
  | (_, .arr true _ _) :: l => newO l
  | (_, .mp _ _) :: l => newO l
  | _ => false
def okN (h0 : List (Id × AO)) (q : Id) : Bool := memI q (h0.map (·.1)) || Nat.beq q.1 1
def noHole : AO → Bool
  | .dar _ _ (some _) => false
  | _ => true
def okJ (h0 : List (Id × AO)) (r : AV) (h1 : List (Id × AO)) : Bool := nodupI (h1.map (·.1)) && h1.all (fun p => okN h0 p.1 && noHole p.2 && p.2.ids.all (okN h0)) && r.ids.all (okN h0) && h0.all (fun p => Nat.beq p.1.1 0)
def usG (θ : List (Id × Id)) (nm : Nat) (h1 : List (Id × AO)) : List (Id × Option AO) := (θ.map fun p => (p.2, none)) ++ (h1.map fun p => (reI θ nm p.1, some (p.2.re θ nm)))
def semG (P : Program) (f : FuncId) (nm : Nat) (args : List AV) (H : Id → Option AO) (K : Eff → Prop) : Prop :=
  ∃ xs h0 r h1, SpecG P f xs h0 r h1 ∧ maVs H [] [] args xs fun θ bw => maO H θ bw h0 fun θ bw =>
    (okI θ bw h0 && okJ h0 r h1 && (bw.isEmpty || (newV r && newO h1))) = true ∧ K ⟨r.re θ nm, usG θ nm h1, some nm, (θ.map (·.2)) ++ (bw ++ args.flatMap AV.ids)⟩
def Res.us (d : Nat) (r : Res) : List (Id × Option AO) := (r.os d).map fun p => (p.1, some p.2)
def mpFind (k : Tr → Bool) : List (Tr × Int) → Option Int
  | [] => none
  | (q, v) :: r => bif k q then some v else mpFind k r
def mpSet (k : Tr → Bool) (key : Tr) (v : Int) : List (Tr × Int) → List (Tr × Int)
  | [] => [(key, v)]
  | (q, x) :: r => bif k q then (q, v) :: r else (q, x) :: mpSet k key v r
def mpCut (k : Tr → Bool) : List (Tr × Int) → List (Tr × Int)
  | [] => []
  | (q, x) :: r => bif k q then r else (q, x) :: mpCut k r
def keyEq : Tr → Tr → Bool
  | .int _ a, .int _ b => a == b
  | .str a, .str b => a == b
  | _, _ => false
def mpGet (es : List (Tr × Int)) (k : Tr) : Option Int := mpFind (keyEq k) es
def mpPut (es : List (Tr × Int)) (k : Tr) (v : Int) : List (Tr × Int) := mpSet (keyEq k) k v es
def mpDel (es : List (Tr × Int)) (k : Tr) : List (Tr × Int) := mpCut (keyEq k) es
def mpVal : Option Int → Int
  | some v => v
  | none => 0
def mapKind (Γ : Env) (T : TypeId) : Option (Option IntKind) :=
  match Γ.get T with
  | some ti => ti.map
  | none => none
def semLookup (Γ : Env) (T : TypeId) (x k : AV) (c : Bool) (H : Id → Option AO) (K : Eff → Prop) : Prop :=
  match x, k with
  | .r (.c (.mpv o)), .r (.c (.t key)) => (match H o with
     | some (.mp kk es) => mapKind Γ T = some kk ∧ keyFit kk key ∧ (match c with
        | true => K (.val (.tup [.c (.t (.int .i64 (mpVal (mpGet es key)))), .c (.t (.bool (mpGet es key).isSome))]) [o])
        | false => K (.val (tI .i64 (mpVal (mpGet es key))) [o]))
     | _ => False)
  | _, _ => False
def semMapSet (Γ : Env) (T : TypeId) (x k v : AV) (H : Id → Option AO) (K : Eff → Prop) : Prop :=
  match x, k, v with
  | .r (.c (.mpv o)), .r (.c (.t key)), .r (.c (.t (.int .i64 n))) => (match H o with
     | some (.mp kk es) => mapKind Γ T = some kk ∧ keyFit kk key ∧ K ⟨.unk, [(o, some (.mp kk (mpPut es key n)))], none, [o]⟩
     | _ => False)
  | _, _, _ => False
def semMapDel (Γ : Env) (T : TypeId) (x k : AV) (H : Id → Option AO) (K : Eff → Prop) : Prop :=
  match x, k with
  | .r (.c (.mpv o)), .r (.c (.t key)) => (match H o with
     | some (.mp kk es) => mapKind Γ T = some kk ∧ keyFit kk key ∧ K ⟨.unk, [(o, some (.mp kk (mpDel es key)))], none, [o]⟩
     | _ => False)
  | _, _ => False
def sem (P : Program) (Γ : Env) (nm : Nat) (o : Oper) (ev : Operand → AV) (H : Id → Option AO) (K : Eff → Prop) : Prop :=
  match o.op with
  | .move x => K (.val (ev x) [])
  | .assign x => K (.val (ev x) [])
  | .pick c a b => (match ev c with
     | .r (.c (.t (.bool t))) => ifB t (K (.val (ev a) [])) (K (.val (ev b) []))
     | _ => False)
  | .alloc T => (match o.dst, Γ.get T with
     | some d, some ti => K ⟨.r (.c (.ptr (d, 0, 0) 0)), [((d, 0, 0), some (.box ti.zero))], some d, []⟩
     | _, _ => False)
  | .box _ x => (match o.dst, ev x with
     | some d, .r ar => K ⟨.r (.c (.ptr (d, 0, 0) 0)), [((d, 0, 0), some (.box ar.cells))], some d, []⟩
     | _, _ => False)
  | .load T x => (match Γ.get T with
     | some ti => closeAt H (ev x) fun H us R => semLoad (deepE Γ ti) nm ti (ev x) H fun e => K ⟨e.v, us ++ e.us, e.new, R ++ e.R⟩
     | none => False)
  | .store T x y => (match Γ.get T with
     | some ti => closeAt H (ev x) fun H us R => semStore ti (ev x) (ev y) H fun e => K ⟨e.v, us ++ e.us, e.new, R ++ e.R⟩
     | none => False)
  | .fieldAddr T x f => (match Γ.get T with
     | some ti => (match ti.fields[f]? with
        | some (off, _, _) => semFieldAddr off (ev x) fun v => K (.val v [])
        | none => False)
     | none => False)
  | .indexAddr T x i => (match Γ.get T with
     | some ti => (match ti.elem with
        | some e => (match Γ.get e with
           | some te => semIndexAddr te.size (ev x) (ev i) H K
           | none => False)
        | none => False)
     | none => False)
  | .index T x i => (match Γ.get T with
     | some ti => (match ti.str with
        | true => semIndex (ev x) (ev i) fun v => K (.val v [])
        | false => False)
     | none => False)
  | .binOp op T x y _ => (match ev x with
     | .r (.c (.t (.bool _))) => (match Γ.get T with
        | some ti => (match ti.bool with
           | true => semBool op (ev x) (ev y) fun v => K (.val v [])
           | false => False)
        | none => False)
     | .r (.agg xs) => (match Γ.get T with
        | some ti => eqTyOk P T = true ∧ semEqS Γ ti.fields op xs (ev y) fun v => K (.val v [])
        | none => False)
     | _ => semBin op (ev x) (ev y) fun v => K (.val v []))
  | .unOp op _ x => semUn op (ev x) fun v => K (.val v [])
  | .makeMap T none => (match o.dst, mapKind Γ T with
     | some d, some kk => K ⟨.r (.c (.mpv (d, 0, 0))), [((d, 0, 0), some (.mp kk []))], some d, []⟩
     | _, _ => False)
  | .lookup T x k c => semLookup Γ T (ev x) (ev k) c H K
  | .mapUpdate T x k v => semMapSet Γ T (ev x) (ev k) (ev v) H K
  | .call { callee := .builtin .delete, args := ⟨[x, k]⟩, argTypes := ⟨[T, _]⟩ } => semMapDel Γ T (ev x) (ev k) H K
  | .convert src dst x => (match o.dst, Γ.get src, Γ.get dst with
     | some d, some ts, some td => semConvert Γ ts td d (ev x) H K
     | _, _, _ => False)
  | .build T parts => (match Γ.get T with
     | some ti => (match ti.fields with
        | [] => False
        | fs => semBuild fs ti.zero (parts.toList.map fun p => (p.1, ev p.2)) fun cs => K (.val (.r (.agg cs)) []))
     | none => False)
  | .buildSlice T n parts => (match o.dst, Γ.get T with
     | some d, some ti => (match ti.elem with
        | some e => (match Γ.get e with
           | some te => (match Nat.beq parts.toList.length n with
              | true => (match ownInParts (parts.toList.map fun p => (p.1, ev p.2)) with
                 | false => semRows H 0 (parts.toList.map fun p => (p.1, ev p.2)) fun fr rows ids => (∀ r ∈ rows, r.length = te.size) ∧ n * te.size ≤ 16777216 ∧ K ⟨.r (.c (.own (d, 0, 0))), ids.map (fun r => (r, none)) ++ [((d, 0, 0), some (.arr fr te.size rows))], some d, ids⟩
                 | true => semRowsD H 0 (parts.toList.map fun p => (p.1, ev p.2)) fun rows ids => (∀ r ∈ rows, r.length = te.size) ∧ n * te.size ≤ 16777216 ∧ nodupI ids = true ∧ K ⟨.r (.c (.own (d, 0, 0))), ids.map (fun r => (r, none)) ++ [((d, 0, 0), some (.dar te.size rows none))], some d, ids⟩)
              | false => False)
           | none => False)
        | none => False)
     | _, _ => False)
  | .makeSlice T l c => (match o.dst, Γ.get T with
     | some d, some ti => (match ti.elem with
        | some e => (match Γ.get e with
           | some te => semMake d te.size te.bytes te.zero (ev l) (ev c) K
           | none => False)
        | none => False)
     | _, _ => False)
  | .slice T x lo hi none => (match Γ.get T with
     | some ti => (match ti.elem with
        | some e => (match Γ.get e with
           | some te => (match ev x with
              | .r (.c (.t (.str _))) => False
              | _ => semSlice te.size (ev x) (lo.map ev) (hi.map ev) H K)
           | none => False)
        | none => (match ti.str with
           | true => ∃ t, ev x = tS t ∧ semSlice 0 (ev x) (lo.map ev) (hi.map ev) H K
           | false => False))
     | none => False)
  | .field T x f => (match Γ.get T with
     | some ti => (match ti.fields[f]? with
        | some (off, _, ft) => (match Γ.get ft with
           | some tf => semField off tf (ev x) fun v => K (.val v [])
           | none => False)
        | none => False)
     | none => False)
  | .extract x i => semExtract i (ev x) fun v => K (.val v [])
  | .nilCheck x => (match ev x with
     | .r (.c (.ptr o off)) => K (.val (.r (.c (.ptr o off))) [])
     | .el o sz i off => K (.val (.el o sz i off) [])
     | .ro fr row off => K (.val (.ro fr row off) [])
     | _ => False)
  | .call { callee := .builtin .len, args := ⟨[x]⟩, argTypes := ⟨[T]⟩ } => (match Γ.get T with
     | some ti => (match ti.str, ti.elem with
        | true, none => ∃ b, ev x = tS b ∧ K (.val (tI .i64 b.length) [])
        | false, some _ => semLen (ev x) H K
        | _, _ => False)
     | none => False)
  | .call { callee := .builtin .append, args := ⟨[s, x]⟩, argTypes := ⟨[T, U]⟩ } => (match o.dst, Γ.get T, Γ.get U with
     | some d, some ti, some tu => (match ti.elem, tu.kind with
        | some e, none => (match Γ.get e with
           | some te => semAppend d te.size te.bytes (ev s) (ev x) H K
           | none => False)
        | _, _ => False)
     | _, _, _ => False)
  | .call { callee := .builtin .min, args := ⟨[x, y]⟩, argTypes := _ } => (match ev x, ev y with
     | .r (.c (.t (.int k a))), .r (.c (.t (.int _ b))) => K (.val (tI k (if b < a then b else a)) [])
     | _, _ => False)
  | .call { callee := .builtin .max, args := ⟨[x, y]⟩, argTypes := _ } => (match ev x, ev y with
     | .r (.c (.t (.int k a))), .r (.c (.t (.int _ b))) => K (.val (tI k (if b > a then b else a)) [])
     | _, _ => False)
  | .call { callee := .value (.func f), args, argTypes := _ } => (match o.dst with
     | some d => (∃ ts r, argTrees H (args.toList.map ev) ts ∧ Spec P f ts r ∧ K ⟨r.av d, r.us d, some d, ((args.toList.map ev).flatMap AV.ids)⟩) ∨ semG P f nm (args.toList.map ev) H K
     | none => (∃ ts r, argTrees H (args.toList.map ev) ts ∧ Spec P f ts r ∧ K ⟨.unk, [], none, ((args.toList.map ev).flatMap AV.ids)⟩) ∨ semG P f nm (args.toList.map ev) H K)
  | _ => False
end Go.Sim
