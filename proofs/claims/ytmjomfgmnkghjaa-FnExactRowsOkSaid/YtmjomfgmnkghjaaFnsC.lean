/- The contracts of DecodeVarint in both texts. -/
import Derived.Test.YtmjomfgmnkghjaaFnsB
namespace Go.Proofs.Ytmjomfgmnkghjaa
open Go.Sim
set_option maxRecDepth 100000
/-- From the place 'at' on: the number's group number k, what is gathered so far. -/
def decL (s : List UInt8) (p : Nat) : Nat → Nat → Nat → Option (Nat × Nat)
  | 0, _, _ => none
  | f + 1, k, n => match s[p + k]? with
    | none => none
    | some b => let n' := n + b.toNat % 128 * 128 ^ k
      if 127 < b.toNat then decL s p f (k + 1) n' else if enc n' = (s.drop p).take (k + 1) then some (n', k + 1) else none
def dec (s : List UInt8) (p : Int) : Option (Nat × Nat) := if p < 0 then none else decL s p.toNat 6 0 0
def decN (o : Option (Nat × Nat)) : Int := match o with | some x => x.1 | none => 0
def decK (o : Option (Nat × Nat)) : Int := match o with | some x => x.2 | none => 0
abbrev rDec (o : Option (Nat × Nat)) : Res := .tup [.c (.t (.int .i64 (decN o))), .c (.t (.int .i64 (decK o))), .c (.t (.bool o.isSome))]
theorem low_or (n x k : Nat) (hk : k < 6) (hn : n < 128 ^ k) (hx : x < 128) : n ||| x * 128 ^ k = n + x * 128 ^ k := by
  have e : (128 : Nat) ^ k = 2 ^ (7 * k) := by rw [show (128 : Nat) = 2 ^ 7 from rfl, ← Nat.pow_mul]
  rw [e] at hn ⊢
  have := Nat.two_pow_add_eq_or_of_lt hn x
  rw [Nat.mul_comm] at this
  rw [Nat.or_comm, ← this, Nat.add_comm]
theorem pow_le6 {k : Nat} (hk : k < 6) : 128 ^ k ≤ 34359738368 := by
  have : (128 : Nat) ^ k ≤ 128 ^ 5 := Nat.pow_le_pow_right (by omega) (by omega)
  omega
theorem step_lt {n x k : Nat} (hn : n < 128 ^ k) (hx : x < 128) : n + x * 128 ^ k < 128 ^ (k + 1) := by
  have : (x + 1) * 128 ^ k ≤ 128 * 128 ^ k := Nat.mul_le_mul_right _ (by omega)
  rw [Nat.pow_succ, Nat.mul_comm _ 128]
  rw [Nat.add_mul] at this
  omega
/-- A group of seven bits, laid in at its place. -/
theorem gather0 {n x k : Nat} (hk : k < 6) (hn : n < 128 ^ k) (hx : x < 128) : IntKind.i64.wrap ((BitVec.ofInt IntKind.i64.bits (n : Int) ||| BitVec.ofInt IntKind.i64.bits (IntKind.i64.wrap ((x : Int) * 2 ^ min (IntKind.i64.wrap (7 * (k : Int))).toNat IntKind.i64.bits))).toNat : Int) = ((n + x * 128 ^ k : Nat) : Int) := by
  have hp := pow_le6 hk
  have hlt := step_lt hn hx
  have hp1 : 128 ^ (k + 1) ≤ 4398046511104 := by rw [Nat.pow_succ]; omega
  have e0 : IntKind.i64.wrap (7 * (k : Int)) = ((7 * k : Nat) : Int) := by rw [IntWalk.i64_in _ (by omega)]; omega
  have e1 : min (IntKind.i64.wrap (7 * (k : Int))).toNat IntKind.i64.bits = 7 * k := by
    rw [e0]
    show min (7 * k) 64 = 7 * k
    omega
  have e2 : (2 : Int) ^ (7 * k) = ((128 ^ k : Nat) : Int) := by rw [show (128 : Nat) = 2 ^ 7 from rfl, ← Nat.pow_mul]; simp
  have e3 : (x : Int) * ((128 ^ k : Nat) : Int) = ((x * 128 ^ k : Nat) : Int) := by simp
  rw [e1, e2, e3, IntWalk.i64_in ((x * 128 ^ k : Nat) : Int) (by omega)]
  have e4 : (BitVec.ofInt IntKind.i64.bits (n : Int) ||| BitVec.ofInt IntKind.i64.bits ((x * 128 ^ k : Nat) : Int)).toNat = n + x * 128 ^ k := by
    show (BitVec.ofInt 64 (n : Int) ||| BitVec.ofInt 64 ((x * 128 ^ k : Nat) : Int)).toNat = _
    rw [BitVec.toNat_or, BitVec.toNat_ofInt, BitVec.toNat_ofInt]
    have e5 : ((n : Int) % ((2 ^ 64 : Nat) : Int)).toNat = n := by omega
    have e6 : (((x * 128 ^ k : Nat) : Int) % ((2 ^ 64 : Nat) : Int)).toNat = x * 128 ^ k := by omega
    rw [e5, e6, low_or n x k hk hn hx]
  rw [e4, IntWalk.i64_in _ (by omega)]
theorem byte_and (b : UInt8) : IntKind.i64.wrap ((BitVec.ofInt IntKind.i64.bits (IntKind.i64.wrap (b.toNat : Int)) &&& BitVec.ofInt IntKind.i64.bits 127).toNat : Int) = ((b.toNat % 128 : Nat) : Int) := by
  have hb := b.toNat_lt
  rw [IntWalk.i64_in (b.toNat : Int) (by omega), show ((BitVec.ofInt IntKind.i64.bits (b.toNat : Int) &&& BitVec.ofInt IntKind.i64.bits 127).toNat : Int) = (b.toNat : Int) % 128 from and_low b.toNat 7 (by omega) (by omega) (by omega), IntWalk.i64_in _ (by omega)]
  omega
theorem byte_and8 (b : UInt8) : IntKind.i64.wrap (IntKind.u8.wrap ((BitVec.ofInt IntKind.u8.bits (b.toNat : Int) &&& BitVec.ofInt IntKind.u8.bits 127).toNat : Int)) = ((b.toNat % 128 : Nat) : Int) := by
  have hb := b.toNat_lt
  have e : (BitVec.ofInt IntKind.u8.bits (b.toNat : Int) &&& BitVec.ofInt IntKind.u8.bits 127).toNat = b.toNat % 128 := by
    show (BitVec.ofInt 8 (b.toNat : Int) &&& BitVec.ofInt 8 127).toNat = _
    rw [BitVec.toNat_and, BitVec.toNat_ofInt, BitVec.toNat_ofInt]
    have e1 : ((b.toNat : Int) % ((2 ^ 8 : Nat) : Int)).toNat = b.toNat := by omega
    have e2 : ((127 : Int) % ((2 ^ 8 : Nat) : Int)).toNat = 2 ^ 7 - 1 := by decide
    rw [e1, e2, Nat.and_two_pow_sub_one_eq_mod]
  rw [e, IntWalk.u8_in _ (by omega), IntWalk.i64_in _ (by omega)]
theorem decL_step {s : List UInt8} {p k n : Nat} {b : UInt8} (hk : k < 6) (hb : s[p + k]? = some b) : decL s p (6 - k) k n =
    if 127 < b.toNat then decL s p (6 - (k + 1)) (k + 1) (n + b.toNat % 128 * 128 ^ k) else if enc ((n + b.toNat % 128 * 128 ^ k : Nat) : Int) = (s.drop p).take (k + 1) then some (n + b.toNat % 128 * 128 ^ k, k + 1) else none := by
  rw [show 6 - k = (6 - (k + 1)) + 1 by omega, decL, hb]
theorem decL_none {s : List UInt8} {p k n : Nat} (h : k = 6 ∨ s.length ≤ p + k) : decL s p (6 - k) k n = none := by
  cases hf : 6 - k with
  | zero => rfl
  | succ f => rw [decL, List.getElem?_eq_none (by omega)]
abbrev DecIx (s : List UInt8) (p : Nat) := { q : Nat × Nat // q.1 ≤ 6 ∧ q.2 < 128 ^ q.1 ∧ decL s p (6 - q.1) q.1 q.2 = dec s p }
abbrev DecIy (s : List UInt8) (p : Nat) := { q : Nat × Nat // q.1 ≤ 6 ∧ q.2 < 128 ^ q.1 ∧ decL s p (6 - q.1) q.1 q.2 = dec s p ∧ (q.1 = 0 ∨ p < s.length) }
end Go.Proofs.Ytmjomfgmnkghjaa
