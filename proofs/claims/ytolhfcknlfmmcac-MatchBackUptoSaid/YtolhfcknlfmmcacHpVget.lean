/-
  PLAIN LAWS: numbers read from few bytes.
-/
import Derived.Test.YtolhfcknlfmmcacHpVint
set_option linter.unusedVariables false
namespace Go.Ev
theorem and128all : ∀ c : Fin 256, (BitVec.ofNat 8 c.val &&& BitVec.ofNat 8 128).toNat = if c.val < 128 then 0 else 128 := by decide +kernel
theorem and127all : ∀ c : Fin 256, (BitVec.ofNat 8 c.val &&& BitVec.ofNat 8 127).toNat = c.val % 128 := by decide +kernel
theorem top8 {c : Nat} (h : c < 256) : IntKind.u8.wrap (((BitVec.ofInt (IntKind.u8).bits (c : Int) &&& BitVec.ofInt (IntKind.u8).bits 128).toNat : Int)) = if c < 128 then 0 else 128 := by
  have e : (128 : Int) = ((128 : Nat) : Int) := rfl
  rw [e, ofInt_nat, ofInt_nat]
  have := and128all ⟨c, h⟩
  show IntKind.u8.wrap (((BitVec.ofNat 8 c &&& BitVec.ofNat 8 128).toNat : Int)) = _
  rw [this]
  simp only
  split <;> rfl
theorem low8 {c : Nat} (h : c < 256) : IntKind.u8.wrap (((BitVec.ofInt (IntKind.u8).bits (c : Int) &&& BitVec.ofInt (IntKind.u8).bits 127).toNat : Int)) = ((c % 128 : Nat) : Int) := by
  have e : (127 : Int) = ((127 : Nat) : Int) := rfl
  rw [e, ofInt_nat, ofInt_nat]
  have := and127all ⟨c, h⟩
  show IntKind.u8.wrap (((BitVec.ofNat 8 c &&& BitVec.ofNat 8 127).toNat : Int)) = _
  rw [this, u8_id (n := c % 128) (by omega)]
/-- One more group of bits. -/
theorem orIn {a c t : Nat} (ha : a < 2 ^ (7 * t)) (hc : c < 128) (ht : t ≤ 9) (h : a + c * 2 ^ (7 * t) < 18446744073709551616) :
    IntKind.u64.wrap (((BitVec.ofInt (IntKind.u64).bits (a : Int) ||| BitVec.ofInt (IntKind.u64).bits (IntKind.u64.wrap ((IntKind.u64.wrap (c : Int)) * (2 ^ (min (Int.toNat (IntKind.i64.wrap (7 * (t : Int)))) (IntKind.u64).bits))))).toNat : Int)) = ((a + c * 2 ^ (7 * t) : Nat) : Int) := by
  have h7 : IntKind.i64.wrap (7 * (t : Int)) = ((7 * t : Nat) : Int) := by rw [wrap_id (by omega) (by omega)]; omega
  have hm : min (Int.toNat ((7 * t : Nat) : Int)) (IntKind.u64).bits = 7 * t := by
    show min (Int.toNat ((7 * t : Nat) : Int)) 64 = 7 * t
    rw [Int.toNat_natCast]; omega
  have hp : ((c : Int)) * 2 ^ (7 * t) = ((c * 2 ^ (7 * t) : Nat) : Int) := by push_cast; rfl
  rw [h7, hm, u64_id (n := c) (by omega), hp, u64_id (n := c * 2 ^ (7 * t)) (by omega), ofInt_nat, ofInt_nat]
  have e : (BitVec.ofNat (IntKind.u64).bits a ||| BitVec.ofNat (IntKind.u64).bits (c * 2 ^ (7 * t))).toNat = a + c * 2 ^ (7 * t) := by
    show (BitVec.ofNat 64 a ||| BitVec.ofNat 64 (c * 2 ^ (7 * t))).toNat = _
    rw [BitVec.toNat_or, BitVec.toNat_ofNat, BitVec.toNat_ofNat, Nat.mod_eq_of_lt (by omega), Nat.mod_eq_of_lt (by omega), Nat.or_comm, Nat.mul_comm, ← Nat.two_pow_add_eq_or_of_lt ha c]
    omega
  rw [e, u64_id h]
/-- And back. -/
theorem backP {m : Int} (h : -9223372036854775808 ≤ m ∧ m < 9223372036854775808) : IntKind.i64.wrap (((BitVec.ofInt (IntKind.i64).bits (IntKind.i64.wrap (Int.fdiv (turn m : Int) (2 ^ (min (Int.toNat 1) (IntKind.u64).bits)))) ^^^ BitVec.ofInt (IntKind.i64).bits (IntKind.i64.wrap (0 - (IntKind.i64.wrap (IntKind.u64.wrap (((BitVec.ofInt (IntKind.u64).bits (turn m : Int) &&& BitVec.ofInt (IntKind.u64).bits 1).toNat : Int))))))).toNat : Int)) = m := by
  have hT := turn_lt h
  have e1 : (2 : Int) ^ (min (Int.toNat 1) (IntKind.u64).bits) = ((2 : Nat) : Int) := by decide
  have e2 : (BitVec.ofInt (IntKind.u64).bits (turn m : Int) &&& BitVec.ofInt (IntKind.u64).bits 1).toNat = turn m % 2 := by
    have e : (1 : Int) = ((1 : Nat) : Int) := rfl
    rw [e, ofInt_nat, ofInt_nat]
    show (BitVec.ofNat 64 (turn m) &&& BitVec.ofNat 64 1).toNat = _
    rw [BitVec.toNat_and, BitVec.toNat_ofNat, BitVec.toNat_ofNat, Nat.mod_eq_of_lt hT]
    show turn m &&& (2 ^ 1 - 1) = _
    rw [Nat.and_two_pow_sub_one_eq_mod]
  have e3 : Int.fdiv (turn m : Int) ((2 : Nat) : Int) = ((turn m / 2 : Nat) : Int) := by
    rw [Int.fdiv_eq_ediv_of_nonneg _ (by omega)]; rfl
  rw [e1, e2, e3, u64_id (n := turn m % 2) (by omega), wrap_id (n := ((turn m % 2 : Nat) : Int)) (by omega) (by omega), wrap_id (n := ((turn m / 2 : Nat) : Int)) (by omega) (by omega)]
  by_cases hm : m < 0
  · have t1 : turn m % 2 = 1 := by unfold turn; rw [if_pos hm]; omega
    have t2 : turn m / 2 = (-(m + 1)).toNat := by unfold turn; rw [if_pos hm]; omega
    rw [t1, t2]
    have a1 : IntKind.i64.wrap (0 - ((1 : Nat) : Int)) = -1 := by rw [wrap_id (by omega) (by omega)]; rfl
    rw [a1, ofInt_nat]
    have a2 : (BitVec.ofNat (IntKind.i64).bits (-(m + 1)).toNat ^^^ BitVec.ofInt (IntKind.i64).bits (-1)).toNat = 18446744073709551615 - (-(m + 1)).toNat := by
      show (BitVec.ofNat 64 (-(m + 1)).toNat ^^^ BitVec.ofInt 64 (-1)).toNat = _
      have a3 : BitVec.ofInt 64 (-1) = BitVec.allOnes 64 := by decide
      rw [a3, BitVec.xor_allOnes, BitVec.toNat_not, BitVec.toNat_ofNat, Nat.mod_eq_of_lt (by omega)]
    rw [a2, IntKind.wrap_i64]
    omega
  · have t1 : turn m % 2 = 0 := by unfold turn; rw [if_neg hm]; omega
    have t2 : turn m / 2 = m.toNat := by unfold turn; rw [if_neg hm]; omega
    rw [t1, t2]
    have a1 : IntKind.i64.wrap (0 - ((0 : Nat) : Int)) = ((0 : Nat) : Int) := by rw [wrap_id (by omega) (by omega)]; rfl
    rw [a1, ofInt_nat, ofInt_nat]
    have a2 : (BitVec.ofNat (IntKind.i64).bits m.toNat ^^^ BitVec.ofNat (IntKind.i64).bits 0).toNat = m.toNat := by
      show (BitVec.ofNat 64 m.toNat ^^^ BitVec.ofNat 64 0).toNat = _
      rw [BitVec.toNat_xor, BitVec.toNat_ofNat, BitVec.toNat_ofNat, Nat.mod_eq_of_lt (by omega)]
      simp
    rw [a2, wrap_id (by omega) (by omega)]
    omega
theorem bnd_le {n m : Nat} (h : n ≤ m) : bnd (.int .i64 ((n : Nat) : Int)) m = some n := by
  have h1 : decide ((0 : Int) ≤ ((n : Nat) : Int)) = true := decide_eq_true (by omega)
  have h2 : decide (((n : Nat) : Int) ≤ ((m : Nat) : Int)) = true := decide_eq_true (by omega)
  simp only [bnd, h1, h2]; rfl
theorem Ans.elimR {α β γ : Type} {f : Nat → Option (α ⊕ β)} {F : Nat → α → Option γ} {G : Nat → β → Option γ} {b : β} {res : γ} (h : Ans f (Sum.inr b)) (hg : Ans (fun k => G k b) res) : Ans (fun k => (f k).bind fun r => Sum.elim (F k) (G k) r) res := by
  obtain ⟨N, hN⟩ := h
  obtain ⟨M, hM⟩ := hg
  refine ⟨max N M, fun k hk => ?_⟩
  show ((f k).bind fun r => Sum.elim (F k) (G k) r) = some res
  rw [hN k (by omega)]; exact hM k (by omega)
theorem Ans2.elimR {α β γ : Type} {f : Nat → Option (α ⊕ β)} {F : Nat → Nat → α → Option γ} {G : Nat → Nat → β → Option γ} {b : β} {res : γ} (h : Ans f (Sum.inr b)) (hg : Ans2 (fun k n => G k n b) res) : Ans2 (fun k n => (f k).bind fun r => Sum.elim (F k n) (G k n) r) res := by
  obtain ⟨N, hN⟩ := h
  obtain ⟨M, hM⟩ := hg
  refine ⟨max N M, fun k n hk hn => ?_⟩
  show ((f k).bind fun r => Sum.elim (F k n) (G k n) r) = some res
  rw [hN k (by omega)]; exact hM k n (by omega) (by omega)
end Go.Ev
