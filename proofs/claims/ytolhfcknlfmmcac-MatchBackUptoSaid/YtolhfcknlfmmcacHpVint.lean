/-
  PLAIN LAWS: numbers as few bytes.
-/
import Derived.Test.YtolhfcknlfmmcacHpLib
set_option linter.unusedVariables false
namespace Go.Ev
/-- A number's bytes. -/
def enc (n : Nat) : List UInt8 := if n < 128 then [UInt8.ofNat n] else UInt8.ofNat (n % 128 + 128) :: enc (n / 128)
termination_by n
decreasing_by omega
theorem enc_lt {n : Nat} (h : n < 128) : enc n = [UInt8.ofNat n] := by rw [enc, if_pos h]
theorem enc_ge {n : Nat} (h : 128 ≤ n) : enc n = UInt8.ofNat (n % 128 + 128) :: enc (n / 128) := by rw [enc, if_neg (by omega)]
theorem enc_pos (n : Nat) : 1 ≤ (enc n).length := by
  by_cases h : n < 128
  · rw [enc_lt h]; simp
  · rw [enc_ge (by omega)]; simp
theorem enc_len : ∀ (d n : Nat), n < 128 ^ d → 0 < d → (enc n).length ≤ d
  | 0, _, _, h => by omega
  | d + 1, n, h, _ => by
    by_cases hn : n < 128
    · rw [enc_lt hn]; simp
    · rw [enc_ge (by omega), List.length_cons]
      have h1 : n / 128 < 128 ^ d := by
        rw [Nat.div_lt_iff_lt_mul (by omega)]; rw [Nat.pow_succ] at h; exact h
      have h2 : 0 < d := by
        rcases Nat.eq_zero_or_pos d with rfl | h2
        · simp at h1; omega
        · exact h2
      have := enc_len d (n / 128) h1 h2
      omega
theorem enc_ten {n : Nat} (h : n < 18446744073709551616) : (enc n).length ≤ 10 := enc_len 10 n (Nat.lt_of_lt_of_le h (by decide)) (by omega)
theorem u64_id {n : Nat} (h : n < 18446744073709551616) : IntKind.u64.wrap (n : Int) = (n : Int) := by
  simp [IntKind.wrap, IntKind.signed, IntKind.bits]; omega
theorem u8_id {n : Nat} (h : n < 256) : IntKind.u8.wrap (n : Int) = (n : Int) := by
  simp [IntKind.wrap, IntKind.signed, IntKind.bits]; omega
theorem fdiv7 (n : Nat) : Int.fdiv (n : Int) (2 ^ (min (Int.toNat 7) (IntKind.u64).bits)) = ((n / 128 : Nat) : Int) := by
  have : (2 : Int) ^ (min (Int.toNat 7) (IntKind.u64).bits) = ((128 : Nat) : Int) := by decide
  rw [this, Int.fdiv_eq_ediv_of_nonneg _ (by omega)]
  rfl
theorem tdiv7 (n : Nat) : Int.tdiv (n : Int) 128 = ((n / 128 : Nat) : Int) := rfl
theorem tmod7 (n : Nat) : Int.tmod (n : Int) 128 = ((n % 128 : Nat) : Int) := rfl
theorem ofInt_nat (w n : Nat) : BitVec.ofInt w (n : Int) = BitVec.ofNat w n := by simp
theorem and127 {n : Nat} (h : n < 18446744073709551616) : (BitVec.ofInt (IntKind.u64).bits (n : Int) &&& BitVec.ofInt (IntKind.u64).bits 127).toNat = n % 128 := by
  have e : (127 : Int) = ((127 : Nat) : Int) := rfl
  rw [e, ofInt_nat, ofInt_nat, BitVec.toNat_and, BitVec.toNat_ofNat, BitVec.toNat_ofNat]
  have h1 : n % 2 ^ (IntKind.u64).bits = n := Nat.mod_eq_of_lt h
  have h2 : 127 % 2 ^ (IntKind.u64).bits = 2 ^ 7 - 1 := by decide
  rw [h1, h2, Nat.and_two_pow_sub_one_eq_mod]
theorem or128 {n : Nat} (h : n < 128) : (BitVec.ofInt (IntKind.u8).bits (n : Int) ||| BitVec.ofInt (IntKind.u8).bits 128).toNat = n + 128 := by
  have e : (128 : Int) = ((128 : Nat) : Int) := rfl
  rw [e, ofInt_nat, ofInt_nat, BitVec.toNat_or, BitVec.toNat_ofNat, BitVec.toNat_ofNat]
  have h1 : n % 2 ^ (IntKind.u8).bits = n := Nat.mod_eq_of_lt (by show n < 256; omega)
  have h2 : 128 % 2 ^ (IntKind.u8).bits = 2 ^ 7 := by decide
  rw [h1, h2, Nat.or_comm]
  have h3 : 2 ^ 7 = 2 ^ 7 * 1 := rfl
  have := Nat.two_pow_add_eq_or_of_lt (i := 7) (b := n) h 1
  simp only [Nat.mul_one] at this
  rw [← this]; omega
theorem u64_wrap (n : Int) : IntKind.u64.wrap n = n % 18446744073709551616 := by
  simp [IntKind.wrap, IntKind.signed, IntKind.bits]
theorem i64_range (n : Int) : -9223372036854775808 ≤ IntKind.i64.wrap n ∧ IntKind.i64.wrap n < 9223372036854775808 := by
  rw [IntKind.wrap_i64]; omega
/-- An int64 as a number. -/
def turn (m : Int) : Nat := if m < 0 then (2 * (-(m + 1)) + 1).toNat else (2 * m).toNat
theorem turn_lt {m : Int} (h : -9223372036854775808 ≤ m ∧ m < 9223372036854775808) : turn m < 18446744073709551616 := by
  unfold turn; split <;> omega
theorem turnP {m : Int} (h : -9223372036854775808 ≤ m ∧ m < 9223372036854775808) : IntKind.u64.wrap (((BitVec.ofInt (IntKind.u64).bits (IntKind.u64.wrap ((IntKind.u64.wrap m) * (2 ^ (min (Int.toNat 1) (IntKind.u64).bits)))) ^^^ BitVec.ofInt (IntKind.u64).bits (IntKind.u64.wrap (Int.fdiv m (2 ^ (min (Int.toNat 63) (IntKind.i64).bits))))).toNat : Int)) = (turn m : Int) := by
  have e1 : (2 : Int) ^ (min (Int.toNat 1) (IntKind.u64).bits) = 2 := by decide
  have e2 : (2 : Int) ^ (min (Int.toNat 63) (IntKind.i64).bits) = 9223372036854775808 := by decide
  rw [e1, e2, Int.fdiv_eq_ediv_of_nonneg _ (by omega)]
  have hT := turn_lt h
  by_cases hm : m < 0
  · have a1 : m / 9223372036854775808 = -1 := by omega
    have a2 : IntKind.u64.wrap (-1) = ((18446744073709551615 : Nat) : Int) := by rw [u64_wrap]; rfl
    have a3 : IntKind.u64.wrap ((IntKind.u64.wrap m) * 2) = ((18446744073709551615 - turn m : Nat) : Int) := by
      rw [u64_wrap, u64_wrap]; unfold turn; rw [if_pos hm]; omega
    rw [a1, a2, a3, ofInt_nat, ofInt_nat]
    have a4 : BitVec.ofNat 64 18446744073709551615 = BitVec.allOnes 64 := by decide
    have a5 : (BitVec.ofNat (IntKind.u64).bits (18446744073709551615 - turn m) ^^^ BitVec.ofNat (IntKind.u64).bits 18446744073709551615).toNat = turn m := by
      show (BitVec.ofNat 64 (18446744073709551615 - turn m) ^^^ BitVec.ofNat 64 18446744073709551615).toNat = _
      rw [a4, BitVec.xor_allOnes, BitVec.toNat_not, BitVec.toNat_ofNat, Nat.mod_eq_of_lt (by omega)]
      omega
    rw [a5, u64_id hT]
  · have a1 : m / 9223372036854775808 = 0 := by omega
    have a2 : IntKind.u64.wrap 0 = ((0 : Nat) : Int) := by rw [u64_wrap]; rfl
    have a3 : IntKind.u64.wrap ((IntKind.u64.wrap m) * 2) = ((turn m : Nat) : Int) := by
      rw [u64_wrap, u64_wrap]; unfold turn; rw [if_neg hm]; omega
    rw [a1, a2, a3, ofInt_nat, ofInt_nat]
    have a5 : (BitVec.ofNat (IntKind.u64).bits (turn m) ^^^ BitVec.ofNat (IntKind.u64).bits 0).toNat = turn m := by
      show (BitVec.ofNat 64 (turn m) ^^^ BitVec.ofNat 64 0).toNat = _
      rw [BitVec.toNat_xor, BitVec.toNat_ofNat, BitVec.toNat_ofNat, Nat.mod_eq_of_lt hT]
      simp
    rw [a5, u64_id hT]
theorem turnN {m : Int} (h : -9223372036854775808 ≤ m ∧ m < 0) : IntKind.u64.wrap ((IntKind.u64.wrap (2 * (IntKind.u64.wrap (IntKind.i64.wrap (0 - (IntKind.i64.wrap (m + 1))))))) + 1) = (turn m : Int) := by
  rw [wrap_id (n := m + 1) (by omega) (by omega), wrap_id (by omega) (by omega)]
  rw [u64_wrap, u64_wrap, u64_wrap]
  unfold turn; rw [if_pos h.2]; omega
theorem turnZ {m : Int} (h : 0 ≤ m ∧ m < 9223372036854775808) : IntKind.u64.wrap (2 * (IntKind.u64.wrap m)) = (turn m : Int) := by
  rw [u64_wrap, u64_wrap]
  unfold turn; rw [if_neg (by omega)]; omega
theorem bnd_len (n : Nat) : bnd (.int .i64 ((n : Nat) : Int)) n = some n := by
  simp [bnd]
end Go.Ev
