/- Numbers of a kind as natural numbers. No conditions. -/
import Derived.Test.YtbpabpnpoidpcaaGreatDoorPc5
set_option linter.unusedVariables false
set_option linter.unusedSimpArgs false
namespace Go.Proofs.YtbpabpnpoidpcaaGreatDoor
namespace Am
open Go Go.RowKit

/-- A natural number that a kind holds. -/
def holdsN (K : IntKind) (n : Nat) : Prop := n < 2 ^ (if K.signed then K.bits - 1 else K.bits)
instance (K : IntKind) (n : Nat) : Decidable (holdsN K n) := inferInstanceAs (Decidable (_ < _))
theorem wrap_nat {K : IntKind} {n : Nat} (h : holdsN K n) : K.wrap n = n := by
  unfold holdsN at h
  cases K <;> simp [IntKind.wrap, IntKind.signed, IntKind.bits] at h ⊢ <;> (try split) <;> omega
theorem holds_lt {K : IntKind} {n : Nat} (h : holdsN K n) : n < 2 ^ K.bits := by
  unfold holdsN at h
  cases K <;> simp [IntKind.signed, IntKind.bits] at h ⊢ <;> omega
theorem ofInt_nat {K : IntKind} (n : Nat) : (BitVec.ofInt K.bits (n : Int)) = BitVec.ofNat K.bits n := by simp
theorem holds_and {K : IntKind} {a b : Nat} (h : holdsN K a) : holdsN K (a &&& b) := Nat.lt_of_le_of_lt Nat.and_le_left h
theorem holds_or {K : IntKind} {a b : Nat} (h : holdsN K a) (k : holdsN K b) : holdsN K (a ||| b) := Nat.or_lt_two_pow h k
theorem holds_xor {K : IntKind} {a b : Nat} (h : holdsN K a) (k : holdsN K b) : holdsN K (a ^^^ b) := Nat.xor_lt_two_pow h k
theorem bAnd_nat {K : IntKind} {a b : Nat} (h : holdsN K a) (k : holdsN K b) : bAnd K a b = ((a &&& b : Nat) : Int) := by
  unfold bAnd
  rw [ofInt_nat, ofInt_nat, BitVec.toNat_and, BitVec.toNat_ofNat, BitVec.toNat_ofNat, Nat.mod_eq_of_lt (holds_lt h), Nat.mod_eq_of_lt (holds_lt k), wrap_nat (holds_and h)]
theorem bOr_nat {K : IntKind} {a b : Nat} (h : holdsN K a) (k : holdsN K b) : bOr K a b = ((a ||| b : Nat) : Int) := by
  unfold bOr
  rw [ofInt_nat, ofInt_nat, BitVec.toNat_or, BitVec.toNat_ofNat, BitVec.toNat_ofNat, Nat.mod_eq_of_lt (holds_lt h), Nat.mod_eq_of_lt (holds_lt k), wrap_nat (holds_or h k)]
theorem bXor_nat {K : IntKind} {a b : Nat} (h : holdsN K a) (k : holdsN K b) : bXor K a b = ((a ^^^ b : Nat) : Int) := by
  unfold bXor
  rw [ofInt_nat, ofInt_nat, BitVec.toNat_xor, BitVec.toNat_ofNat, BitVec.toNat_ofNat, Nat.mod_eq_of_lt (holds_lt h), Nat.mod_eq_of_lt (holds_lt k), wrap_nat (holds_xor h k)]
theorem bShr_nat {K : IntKind} {a n : Nat} (h : n ≤ K.bits) : bShr K a n = ((a >>> n : Nat) : Int) := by
  unfold bShr
  rw [Int.toNat_natCast, Nat.min_eq_left h, Nat.shiftRight_eq_div_pow, Int.fdiv_eq_ediv_of_nonneg _ (Int.le_of_lt (Int.pow_pos (by decide)))]
  norm_cast
theorem bShl_nat {K : IntKind} {a n : Nat} (h : n ≤ K.bits) (k : holdsN K (a <<< n)) : bShl K a n = ((a <<< n : Nat) : Int) := by
  unfold bShl
  rw [Int.toNat_natCast, Nat.min_eq_left h, ← wrap_nat k, Nat.shiftLeft_eq]
  simp
theorem holds_of {K : IntKind} {n : Nat} (m : Nat) (hm : (if K.signed then K.bits - 1 else K.bits) = m) (h : n < 2 ^ m) : holdsN K n := by
  unfold holdsN; rw [hm]; exact h
theorem h8 {n : Nat} (h : n < 256) : holdsN .u8 n := h
theorem h32 {n : Nat} (h : n < 4294967296) : holdsN .u32 n := h
theorem h64 {n : Nat} (h : n < 9223372036854775808) : holdsN .i64 n := h
theorem hu64 {n : Nat} (h : n < 18446744073709551616) : holdsN .u64 n := h

/-! with a number that stands there -/
theorem bAnd_lit {K : IntKind} {a : Nat} {b : Int} (h : holdsN K a) (k : 0 ≤ b) (k' : holdsN K b.toNat) : bAnd K a b = ((a &&& b.toNat : Nat) : Int) := by
  have := bAnd_nat h k'; rw [Int.toNat_of_nonneg k] at this; exact this
theorem bOr_lit {K : IntKind} {a : Nat} {b : Int} (h : holdsN K a) (k : 0 ≤ b) (k' : holdsN K b.toNat) : bOr K a b = ((a ||| b.toNat : Nat) : Int) := by
  have := bOr_nat h k'; rw [Int.toNat_of_nonneg k] at this; exact this
theorem bXor_lit {K : IntKind} {a : Nat} {b : Int} (h : holdsN K a) (k : 0 ≤ b) (k' : holdsN K b.toNat) : bXor K a b = ((a ^^^ b.toNat : Nat) : Int) := by
  have := bXor_nat h k'; rw [Int.toNat_of_nonneg k] at this; exact this
theorem bShr_lit {K : IntKind} {a : Nat} {b : Int} (k : 0 ≤ b) (k' : b.toNat ≤ K.bits) : bShr K a b = ((a >>> b.toNat : Nat) : Int) := by
  have := bShr_nat (K := K) (a := a) k'; rw [Int.toNat_of_nonneg k] at this; exact this
theorem wrap64 {n : Int} (h : -9223372036854775808 ≤ n ∧ n ≤ 9223372036854775807) : IntKind.i64.wrap n = n := IntWalk.i64_in n h
theorem wrapu32 {n : Int} (h : 0 ≤ n ∧ n ≤ 4294967295) : IntKind.u32.wrap n = n := IntWalk.u32_in n h
theorem wrapu64 {n : Int} (h : 0 ≤ n ∧ n ≤ 18446744073709551615) : IntKind.u64.wrap n = n := IntWalk.u64_in n h
theorem wrapu8 {n : Int} (h : 0 ≤ n ∧ n ≤ 255) : IntKind.u8.wrap n = n := IntWalk.u8_in n h

end Am
end Go.Proofs.YtbpabpnpoidpcaaGreatDoor
