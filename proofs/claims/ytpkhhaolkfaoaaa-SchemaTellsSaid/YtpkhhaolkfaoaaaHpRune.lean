/-
  PLAIN LAWS: texts gone over rune by rune; names.
-/
import Derived.Test.YtpkhhaolkfaoaaaHpAns3
set_option linter.unusedVariables false
namespace Go.Ev
theorem getB (s : Bytes) (i : Nat) (h : i < List.length s) : (⟨s.toArray⟩ : ByteArray).get! i = (s[i]'h : UInt8) := by
  show (s.toArray[i]! : UInt8) = _
  have h' : i < s.toArray.size := by simpa using h
  rw [getElem!_pos s.toArray i h']
  simp
theorem rune_lo {s : Bytes} {pos : Nat} (h : pos < List.length s) (hc : (s[pos]'h : UInt8).toNat < 128) : runeC s pos = (s[pos]'h : UInt8).toNat ∧ runeW s pos = 1 := by
  unfold runeC runeW Utf8.decode
  dsimp only
  have e := getB s pos h
  simp only [Nat.add_zero, e, if_pos hc]
  exact ⟨trivial, trivial⟩
theorem rune_hi {s : Bytes} {pos : Nat} (h : pos < List.length s) (hc : 128 ≤ (s[pos]'h : UInt8).toNat) : 128 ≤ runeC s pos := by
  unfold runeC Utf8.decode
  dsimp only
  have e := getB s pos h
  simp only [Nat.add_zero, e, if_neg (show ¬ (s[pos]'h : UInt8).toNat < 128 by omega)]
  split
  · split
    · rename_i h2; exact h2
    · decide
  · split
    · split
      · rename_i h2
        simp only [ge_iff_le, Bool.and_eq_true, decide_eq_true_eq] at h2
        show 128 ≤ _
        omega
      · decide
    · split
      · split
        · rename_i h2
          simp only [ge_iff_le, Bool.and_eq_true, decide_eq_true_eq] at h2
          show 128 ≤ _
          omega
        · decide
      · decide
/-! ### Names -/
def lowN (c : Nat) : Prop := 97 ≤ c ∧ c ≤ 122
def sgnN (c : Nat) : Prop := lowN c ∨ (48 ≤ c ∧ c ≤ 57) ∨ c = 95
instance (c : Nat) : Decidable (lowN c) := inferInstanceAs (Decidable (_ ∧ _))
instance (c : Nat) : Decidable (sgnN c) := inferInstanceAs (Decidable (_ ∨ _))
/-- A name. -/
def NameP (s : Bytes) : Prop := (∀ i, ∀ h : i < List.length s, sgnN (s[i]'h : UInt8).toNat) ∧ (∀ h : 0 < List.length s, lowN (s[0]'h : UInt8).toNat) ∧ 1 ≤ List.length s ∧ List.length s ≤ 32
end Go.Ev
