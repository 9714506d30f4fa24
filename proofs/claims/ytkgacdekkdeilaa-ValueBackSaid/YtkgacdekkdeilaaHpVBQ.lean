/-
  ValueBack, the plain law: values written and read.
-/
import Derived.Test.YtkgacdekkdeilaaHpVBP
set_option linter.unusedVariables false
namespace Go.Ev.HpVB
def RightP (v : Val) : Prop := (v.k = 0 ∧ v.n = 0 ∧ v.s = []) ∨ (v.k = 1 ∧ v.s = [] ∧ (v.n = 0 ∨ v.n = 1)) ∨ (v.k = 2 ∧ v.s = []) ∨ (v.k = 3 ∧ v.n = 0 ∧ List.length v.s ≤ 256)
def InV (v : Val) : Prop := -9223372036854775808 ≤ v.n ∧ v.n < 9223372036854775808
def encV (v : Val) : List UInt8 := if v.k = 1 then [1] ++ [UInt8.ofNat (Int.toNat (IntKind.u8.wrap v.n))] else if v.k = 2 then [2] ++ enc (turn v.n) else if v.k = 3 then [3] ++ (enc (List.length v.s) ++ v.s) else [0]
theorem bits1 {n : Int} (h : -9223372036854775808 ≤ n ∧ n < 9223372036854775808) : ((IntKind.i64.wrap (((BitVec.ofInt (IntKind.i64).bits n &&& ~~~(BitVec.ofInt (IntKind.i64).bits 1)).toNat : Int))) == 0) = true ↔ n = 0 ∨ n = 1 := by
  show ((IntKind.i64.wrap (((BitVec.ofInt 64 n &&& ~~~(BitVec.ofInt 64 1)).toNat : Int))) == 0) = true ↔ n = 0 ∨ n = 1
  have hlt := (BitVec.ofInt 64 n &&& ~~~(BitVec.ofInt 64 1)).isLt
  have hx : (BitVec.ofInt 64 n).toNat = (n % 18446744073709551616).toNat := by simp [BitVec.toNat_ofInt]
  constructor
  · intro he
    simp only [beq_iff_eq] at he
    rw [IntKind.wrap_i64] at he
    have h0 : (BitVec.ofInt 64 n &&& ~~~(BitVec.ofInt 64 1)).toNat = 0 := by omega
    have hz : BitVec.ofInt 64 n &&& ~~~(BitVec.ofInt 64 1) = 0#64 := by
      apply BitVec.eq_of_toNat_eq; simpa using h0
    have hs : BitVec.ofInt 64 n = (BitVec.ofInt 64 n &&& ~~~(BitVec.ofInt 64 1)) ||| (BitVec.ofInt 64 n &&& BitVec.ofInt 64 1) := by
      apply BitVec.eq_of_getLsbD_eq
      intro i hi
      simp only [BitVec.getLsbD_or, BitVec.getLsbD_and, BitVec.getLsbD_not, hi, decide_true, Bool.true_and]
      cases (BitVec.ofInt 64 n).getLsbD i <;> cases (BitVec.ofInt 64 1).getLsbD i <;> rfl
    rw [hz] at hs
    have h1 := congrArg BitVec.toNat hs
    have e1 : (BitVec.ofInt 64 1).toNat = 2 ^ 1 - 1 := by decide
    rw [BitVec.toNat_or, BitVec.toNat_and, e1, Nat.and_two_pow_sub_one_eq_mod] at h1
    simp only [BitVec.toNat_ofNat, Nat.zero_mod, Nat.zero_or] at h1
    rw [hx] at h1
    omega
  · intro he
    rcases he with rfl | rfl <;> decide
theorem right_ {v : Val} (hv : InV v) : ∃ r : Bool, Ans (fun k => value_Right k v) (r, ()) ∧ (r = true ↔ RightP v) := by
  unfold RightP
  by_cases h0 : v.k = 0
  · refine ⟨_, .succ (fun k => value_Right_eq k v) (.yes (by simp [h0]) .const), ?_⟩
    simp [h0]
  · have e0 : (v.k == 0) = false := by simp [h0]
    by_cases h1 : v.k = 1
    · by_cases hs : v.s = []
      · refine ⟨_, .succ (fun k => value_Right_eq k v) (.no e0 (.yes (by simp [h1]) (.yes (by simp [hs]) .const))), ?_⟩
        rw [bits1 hv]
        simp [h1, hs]
      · refine ⟨false, .succ (fun k => value_Right_eq k v) (.no e0 (.yes (by simp [h1]) (.no (by simp [hs]) .const))), ?_⟩
        simp [h1, hs]
    · have e1 : (v.k == 1) = false := by simp [h1]
      by_cases h2 : v.k = 2
      · refine ⟨_, .succ (fun k => value_Right_eq k v) (.no e0 (.no e1 (.yes (by simp [h2]) .const))), ?_⟩
        simp [h2]
      · have e2 : (v.k == 2) = false := by simp [h2]
        by_cases h3 : v.k = 3
        · by_cases hn : v.n = 0
          · refine ⟨_, .succ (fun k => value_Right_eq k v) (.no e0 (.no e1 (.no e2 (.yes (by simp [h3]) (.yes (by simp [hn]) .const))))), ?_⟩
            simp [h3, hn]; omega
          · refine ⟨false, .succ (fun k => value_Right_eq k v) (.no e0 (.no e1 (.no e2 (.yes (by simp [h3]) (.no (by simp [hn]) .const))))), ?_⟩
            simp [h3, hn]
        · refine ⟨false, .succ (fun k => value_Right_eq k v) (.no e0 (.no e1 (.no e2 (.no (by simp [h3]) .const)))), ?_⟩
          simp [h0, h1, h2, h3]
/-! ### Writing -/
theorem b3r (c : Int) {b : List UInt8} (hb : b.length ≤ 60000) : Ans (fun k => wire_Writer_Byte_3 k c true 65536 b) (Sum.inr (true, 65536, b, b ++ [UInt8.ofNat (Int.toNat c)], 0, ())) := by
  have h := byte3 (M := 65536) (by omega) (b := b) (by omega) c
  rw [wres3, if_pos (by simp; omega)] at h
  exact h
theorem b2r (c : Int) : Ans (fun k => wire_Writer_Byte_2 k c true 65536) (Sum.inr (true, 65536, [UInt8.ofNat (Int.toNat c)], 0, ())) := by
  have h := byte2 (M := 65536) (by omega) c
  rw [wres, if_pos (by simp)] at h
  exact h
theorem i3r {m : Int} (hm : -9223372036854775808 ≤ m ∧ m < 9223372036854775808) {b : List UInt8} (hb : b.length ≤ 60000) : Ans (fun k => wire_Writer_Int_3 k m true 65536 b) (Sum.inr (true, 65536, b, b ++ enc (turn m), 0, ())) := by
  have h := int3 (M := 65536) (by omega) hm (b := b) (by omega)
  have := enc_ten (turn_lt hm)
  rw [wres3, if_pos (by omega)] at h
  exact h
theorem t3r {s : List UInt8} (hs : s.length ≤ 1000) {b : List UInt8} (hb : b.length ≤ 60000) : Ans (fun k => wire_Writer_Text_3 k s true 65536 b) (Sum.inr (true, 65536, b, b ++ (enc s.length ++ s), 0, ())) := by
  have h := text3 (M := 65536) (by omega) (b := b) (by omega) s (by omega)
  have := enc_ten (n := s.length) (by omega)
  rw [wres3, if_pos (by rw [List.length_append]; omega)] at h
  exact h
theorem sign_ (v : Val) : Ans (fun k => value_sign k v.k) ((if v.k = 1 then 1 else if v.k = 2 then 2 else if v.k = 3 then 3 else 0 : Int), ()) := by
  refine .succ (fun k => value_sign_eq k v.k) ?_
  by_cases h1 : v.k = 1
  · rw [if_pos h1]; exact .yes (by simp [h1]) .const
  · rw [if_neg h1]
    refine .no (by simp [h1]) ?_
    by_cases h2 : v.k = 2
    · rw [if_pos h2]; exact .yes (by simp [h2]) .const
    · rw [if_neg h2]
      refine .no (by simp [h2]) ?_
      by_cases h3 : v.k = 3
      · rw [if_pos h3]; exact .yes (by simp [h3]) .const
      · rw [if_neg h3]; exact .no (by simp [h3]) .const
theorem put2 {v : Val} (hv : InV v) (hR : RightP v) : Ans (fun k => value_Put_2 k v true 65536) (Sum.inr (true, 65536, encV v, 0, ())) := by
  obtain ⟨r, hr, hr'⟩ := right_ hv
  obtain rfl := hr'.2 hR
  refine .succ (fun k => value_Put_2_eq k v true 65536) (.bind hr (.no rfl (.bind (sign_ v) (.elimR (b2r _) (.no rfl ?_)))))
  unfold encV
  by_cases h1 : v.k = 1
  · simp only [if_pos h1]
    exact .yes (by simp [h1]) (.elimR (b3r _ (by simp)) .const)
  · simp only [if_neg h1]
    refine .no (by simp [h1]) ?_
    by_cases h2 : v.k = 2
    · simp only [if_pos h2]
      exact .yes (by simp [h2]) (.elimR (i3r hv (by simp)) .const)
    · simp only [if_neg h2]
      refine .no (by simp [h2]) ?_
      by_cases h3 : v.k = 3
      · simp only [if_pos h3]
        have hl : List.length v.s ≤ 1000 := by
          rcases hR with h | h | h | h
          · have := h.1; omega
          · have := h.1; omega
          · have := h.1; omega
          · omega
        exact .yes (by simp [h3]) (.elimR (t3r hl (by simp)) .const)
      · simp only [if_neg h3]
        exact .no (by simp [h3]) .const
theorem put2n {v : Val} (hv : InV v) (hR : ¬ RightP v) : Ans (fun k => value_Put_2 k v true 65536) (Sum.inl (true, 65536, 1, ())) := by
  obtain ⟨r, hr, hr'⟩ := right_ hv
  have hf : r = false := by cases r with | false => rfl | true => exact absurd (hr'.1 rfl) hR
  subst hf
  exact .succ (fun k => value_Put_2_eq k v true 65536) (.bind hr (.yes rfl .const))
theorem put3 {v : Val} (hv : InV v) (hR : RightP v) {b : List UInt8} (hb : b.length ≤ 50000) : Ans (fun k => value_Put_3 k v true 65536 b) (Sum.inr (true, 65536, b, b ++ encV v, 0, ())) := by
  obtain ⟨r, hr, hr'⟩ := right_ hv
  obtain rfl := hr'.2 hR
  refine .succ (fun k => value_Put_3_eq k v true 65536 b) (.bind hr (.no rfl (.bind (sign_ v) (.elimR (b3r _ (by omega)) (.no rfl ?_)))))
  unfold encV
  by_cases h1 : v.k = 1
  · simp only [if_pos h1, ← List.append_assoc]
    exact .yes (by simp [h1]) (.elimR (b3r _ (by simp; omega)) .const)
  · simp only [if_neg h1]
    refine .no (by simp [h1]) ?_
    by_cases h2 : v.k = 2
    · simp only [if_pos h2, ← List.append_assoc]
      exact .yes (by simp [h2]) (.elimR (i3r hv (by simp; omega)) .const)
    · simp only [if_neg h2]
      refine .no (by simp [h2]) ?_
      by_cases h3 : v.k = 3
      · simp only [if_pos h3]
        have hl : List.length v.s ≤ 1000 := by
          rcases hR with h | h | h | h
          · have := h.1; omega
          · have := h.1; omega
          · have := h.1; omega
          · omega
        exact .yes (by simp [h3]) (.elimR (t3r hl (by simp; omega)) (.of (fun k => by rw [List.append_assoc]; rfl) .const))
      · simp only [if_neg h3]
        exact .no (by simp [h3]) .const
theorem put3n {v : Val} (hv : InV v) (hR : ¬ RightP v) {b : List UInt8} : Ans (fun k => value_Put_3 k v true 65536 b) (Sum.inl (true, 65536, b, 1, ())) := by
  obtain ⟨r, hr, hr'⟩ := right_ hv
  have hf : r = false := by cases r with | false => rfl | true => exact absurd (hr'.1 rfl) hR
  subst hf
  exact .succ (fun k => value_Put_3_eq k v true 65536 b) (.bind hr (.yes rfl .const))
end Go.Ev.HpVB
