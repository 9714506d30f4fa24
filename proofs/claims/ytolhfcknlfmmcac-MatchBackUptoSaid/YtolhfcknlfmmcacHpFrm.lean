/-
  PLAIN LAWS: four bytes of a sum.
-/
import Derived.Test.YtolhfcknlfmmcacHpVget
set_option linter.unusedVariables false
namespace Go.Ev
theorem u32_id {n : Nat} (h : n < 4294967296) : IntKind.u32.wrap ((n : Nat) : Int) = ((n : Nat) : Int) := by
  simp only [IntKind.wrap, IntKind.bits, IntKind.signed]
  simp
  omega
theorem u32_rng (n : Int) : ∃ c : Nat, c < 4294967296 ∧ IntKind.u32.wrap n = (c : Int) := by
  refine ⟨(n % 4294967296).toNat, by omega, ?_⟩
  simp only [IntKind.wrap, IntKind.bits, IntKind.signed]
  simp
  omega
def le4 (c : Nat) : List UInt8 := [UInt8.ofNat (c % 256), UInt8.ofNat (c / 256 % 256), UInt8.ofNat (c / 65536 % 256), UInt8.ofNat (c / 16777216 % 256)]
theorem le4_len (c : Nat) : (le4 c).length = 4 := rfl
theorem byteW {c k : Nat} (h : c < 4294967296) (hk : k ≤ 32) : UInt8.ofNat (Int.toNat (IntKind.u8.wrap (Int.fdiv (c : Int) (2 ^ (min (Int.toNat (k : Int)) (IntKind.u32).bits))))) = UInt8.ofNat (c / 2 ^ k % 256) := by
  have e0 : (IntKind.u32).bits = 32 := rfl
  rw [e0, Int.toNat_natCast, Nat.min_eq_left hk]
  have e1 : ((2 : Int) ^ k) = ((2 ^ k : Nat) : Int) := by simp
  rw [e1, Int.fdiv_eq_ediv_of_nonneg _ (Int.natCast_nonneg _)]
  have e2 : (c : Int) / ((2 ^ k : Nat) : Int) = ((c / 2 ^ k : Nat) : Int) := rfl
  rw [e2]
  have e3 : IntKind.u8.wrap ((c / 2 ^ k : Nat) : Int) = ((c / 2 ^ k % 256 : Nat) : Int) := by
    simp only [IntKind.wrap, IntKind.bits, IntKind.signed]
    simp
  rw [e3, Int.toNat_natCast]
theorem orByte {c b : Nat} (hc : c < 16777216) (hb : b < 256) : IntKind.u32.wrap (((BitVec.ofInt (IntKind.u32).bits (IntKind.u32.wrap ((c : Int) * (2 ^ (min (Int.toNat 8) (IntKind.u32).bits)))) ||| BitVec.ofInt (IntKind.u32).bits (b : Int)).toNat : Int)) = ((c * 256 + b : Nat) : Int) := by
  have e0 : (2 : Int) ^ (min (Int.toNat 8) (IntKind.u32).bits) = ((256 : Nat) : Int) := by decide
  have e3 : IntKind.u32.wrap ((c : Int) * ((256 : Nat) : Int)) = ((c * 256 : Nat) : Int) := by rw [show (c : Int) * ((256 : Nat) : Int) = ((c * 256 : Nat) : Int) by simp]; exact u32_id (by omega)
  rw [e0, e3]
  have h1 : ∀ n : Nat, BitVec.ofInt 32 (n : Int) = BitVec.ofNat 32 n := fun n => by simp [BitVec.ofInt_natCast]
  show IntKind.u32.wrap (((BitVec.ofInt 32 ((c * 256 : Nat) : Int) ||| BitVec.ofInt 32 (b : Int)).toNat : Nat) : Int) = _
  rw [h1, h1, BitVec.toNat_or, BitVec.toNat_ofNat, BitVec.toNat_ofNat, Nat.mod_eq_of_lt (by omega), Nat.mod_eq_of_lt (by omega)]
  have e : c * 256 ||| b = c * 256 + b := by
    have := Nat.two_pow_add_eq_or_of_lt (b := b) (i := 8) (by omega) c
    rw [show (2 : Nat) ^ 8 = 256 by decide, Nat.mul_comm] at this
    exact this.symm
  rw [e, u32_id (by omega)]
theorem le4_told {c : Nat} (h : c < 4294967296) : ((c / 16777216 % 256 * 256 + c / 65536 % 256) * 256 + c / 256 % 256) * 256 + c % 256 = c := by omega
theorem le4_of {a b c d : UInt8} {s : Nat} (h : ((d.toNat * 256 + c.toNat) * 256 + b.toNat) * 256 + a.toNat = s) : le4 s = [a, b, c, d] := by
  have ha := UInt8.toNat_lt a
  have hb := UInt8.toNat_lt b
  have hc := UInt8.toNat_lt c
  have hd := UInt8.toNat_lt d
  unfold le4
  have e : ∀ (x : UInt8) (n : Nat), n = x.toNat → UInt8.ofNat n = x := fun x n h => by subst h; simp
  rw [e a _ (by omega), e b _ (by omega), e c _ (by omega), e d _ (by omega)]
end Go.Ev
