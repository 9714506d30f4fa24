/-
  ValueBytes, the plain law: a value written.
-/
import Derived.Test.YtkgacdekkdeilaaHpVYP
set_option linter.unusedVariables false
namespace Go.Ev.HpVY
theorem elimL {α β γ : Type} {f : Nat → Option (α ⊕ β)} {F : Nat → α → Option γ} {G : Nat → β → Option γ} {b : α} {res : γ} (h : Ans f (Sum.inl b)) (hg : Ans (fun k => F k b) res) : Ans (fun k => (f k).bind fun r => Sum.elim (F k) (G k) r) res := by
  obtain ⟨N, hN⟩ := h
  obtain ⟨M, hM⟩ := hg
  refine ⟨max N M, fun k hk => ?_⟩
  show ((f k).bind fun r => Sum.elim (F k) (G k) r) = some res
  rw [hN k (by omega)]; exact hM k (by omega)
theorem elimL2 {α β γ : Type} {f : Nat → Option (α ⊕ β)} {F : Nat → Nat → α → Option γ} {G : Nat → Nat → β → Option γ} {b : α} {res : γ} (h : Ans f (Sum.inl b)) (hg : Ans2 (fun k n => F k n b) res) : Ans2 (fun k n => (f k).bind fun r => Sum.elim (F k n) (G k n) r) res := by
  obtain ⟨N, hN⟩ := h
  obtain ⟨M, hM⟩ := hg
  refine ⟨max N M, fun k n hk hn => ?_⟩
  show ((f k).bind fun r => Sum.elim (F k n) (G k n) r) = some res
  rw [hN k (by omega)]; exact hM k n (by omega) (by omega)
def RightP (v : Val) : Prop := (v.k = 0 ∧ v.n = 0 ∧ v.s = []) ∨ (v.k = 1 ∧ v.s = [] ∧ (v.n = 0 ∨ v.n = 1)) ∨ (v.k = 2 ∧ v.s = []) ∨ (v.k = 3 ∧ v.n = 0 ∧ List.length v.s ≤ 256)
def InV (v : Val) : Prop := -9223372036854775808 ≤ v.n ∧ v.n < 9223372036854775808
def encV (v : Val) : List UInt8 := if v.k = 1 then [1] ++ [UInt8.ofNat (Int.toNat (IntKind.u8.wrap v.n))] else if v.k = 2 then [2] ++ enc (turn v.n) else if v.k = 3 then [3] ++ (enc (List.length v.s) ++ v.s) else [0]
theorem bits1 {n : Int} (h : -9223372036854775808 ≤ n ∧ n < 9223372036854775808) : ((IntKind.i64.wrap (((BitVec.ofInt (IntKind.i64).bits n &&& ~~~(BitVec.ofInt (IntKind.i64).bits 1)).toNat : Int))) == 0) = true ↔ n = 0 ∨ n = 1 := by
  show ((IntKind.i64.wrap (((BitVec.ofInt 64 n &&& ~~~(BitVec.ofInt 64 1)).toNat : Int))) == 0) = true ↔ n = 0 ∨ n = 1
  have hlt := (BitVec.ofInt 64 n &&& ~~~(BitVec.ofInt 64 1)).isLt
  have hx : (BitVec.ofInt 64 n).toNat = (n % 18446744073709551616).toNat := by simp [BitVec.toNat_ofInt]
  constructor
  · intro he
    simp only [beq_iff_eq] at he
    rw [IntKind.wrap_i64] at he
    have h0 : (BitVec.ofInt 64 n &&& ~~~(BitVec.ofInt 64 1)).toNat = 0 := by omega
    have hz : BitVec.ofInt 64 n &&& ~~~(BitVec.ofInt 64 1) = 0#64 := by
      apply BitVec.eq_of_toNat_eq; simpa using h0
    have hs : BitVec.ofInt 64 n = (BitVec.ofInt 64 n &&& ~~~(BitVec.ofInt 64 1)) ||| (BitVec.ofInt 64 n &&& BitVec.ofInt 64 1) := by
      apply BitVec.eq_of_getLsbD_eq
      intro i hi
      simp only [BitVec.getLsbD_or, BitVec.getLsbD_and, BitVec.getLsbD_not, hi, decide_true, Bool.true_and]
      cases (BitVec.ofInt 64 n).getLsbD i <;> cases (BitVec.ofInt 64 1).getLsbD i <;> rfl
    rw [hz] at hs
    have h1 := congrArg BitVec.toNat hs
    have e1 : (BitVec.ofInt 64 1).toNat = 2 ^ 1 - 1 := by decide
    rw [BitVec.toNat_or, BitVec.toNat_and, e1, Nat.and_two_pow_sub_one_eq_mod] at h1
    simp only [BitVec.toNat_ofNat, Nat.zero_mod, Nat.zero_or] at h1
    rw [hx] at h1
    omega
  · intro he
    rcases he with rfl | rfl <;> decide
theorem right_ {v : Val} (hv : InV v) : ∃ r : Bool, Ans (fun k => value_Right k v) (r, ()) ∧ (r = true ↔ RightP v) := by
  unfold RightP
  by_cases h0 : v.k = 0
  · refine ⟨_, .succ (fun k => value_Right_eq k v) (.yes (by simp [h0]) .const), ?_⟩
    simp [h0]
  · have e0 : (v.k == 0) = false := by simp [h0]
    by_cases h1 : v.k = 1
    · by_cases hs : v.s = []
      · refine ⟨_, .succ (fun k => value_Right_eq k v) (.no e0 (.yes (by simp [h1]) (.yes (by simp [hs]) .const))), ?_⟩
        rw [bits1 hv]
        simp [h1, hs]
      · refine ⟨false, .succ (fun k => value_Right_eq k v) (.no e0 (.yes (by simp [h1]) (.no (by simp [hs]) .const))), ?_⟩
        simp [h1, hs]
    · have e1 : (v.k == 1) = false := by simp [h1]
      by_cases h2 : v.k = 2
      · refine ⟨_, .succ (fun k => value_Right_eq k v) (.no e0 (.no e1 (.yes (by simp [h2]) .const))), ?_⟩
        simp [h2]
      · have e2 : (v.k == 2) = false := by simp [h2]
        by_cases h3 : v.k = 3
        · by_cases hn : v.n = 0
          · refine ⟨_, .succ (fun k => value_Right_eq k v) (.no e0 (.no e1 (.no e2 (.yes (by simp [h3]) (.yes (by simp [hn]) .const))))), ?_⟩
            simp [h3, hn]; omega
          · refine ⟨false, .succ (fun k => value_Right_eq k v) (.no e0 (.no e1 (.no e2 (.yes (by simp [h3]) (.no (by simp [hn]) .const))))), ?_⟩
            simp [h3, hn]
        · refine ⟨false, .succ (fun k => value_Right_eq k v) (.no e0 (.no e1 (.no e2 (.no (by simp [h3]) .const)))), ?_⟩
          simp [h0, h1, h2, h3]
theorem sign_ (v : Val) : Ans (fun k => value_sign k v.k) ((if v.k = 1 then 1 else if v.k = 2 then 2 else if v.k = 3 then 3 else 0 : Int), ()) := by
  refine .succ (fun k => value_sign_eq k v.k) ?_
  by_cases h1 : v.k = 1
  · rw [if_pos h1]; exact .yes (by simp [h1]) .const
  · rw [if_neg h1]
    refine .no (by simp [h1]) ?_
    by_cases h2 : v.k = 2
    · rw [if_pos h2]; exact .yes (by simp [h2]) .const
    · rw [if_neg h2]
      refine .no (by simp [h2]) ?_
      by_cases h3 : v.k = 3
      · rw [if_pos h3]; exact .yes (by simp [h3]) .const
      · rw [if_neg h3]; exact .no (by simp [h3]) .const

theorem rright {v : Val} : ∃ r : Bool, Ans (fun k => ref06_Right k v) (r, ()) ∧ (r = true ↔ RightP v) := by
  unfold RightP
  by_cases h0 : v.k = 0
  · by_cases hn : v.n = 0
    · refine ⟨_, .succ (fun k => ref06_Right_eq k v) (.yes (by simp [h0]) (.yes (by simp [hn]) .const)), ?_⟩
      simp [h0, hn]
    · refine ⟨false, .succ (fun k => ref06_Right_eq k v) (.yes (by simp [h0]) (.no (by simp [hn]) .const)), ?_⟩
      simp [h0, hn]
  · have e0 : (v.k == 0) = false := by simp [h0]
    by_cases h1 : v.k = 1
    · by_cases hn : v.n = 0
      · refine ⟨_, .succ (fun k => ref06_Right_eq k v) (.no e0 (.yes (by simp [h1]) (.no (by simp [hn]) .const))), ?_⟩
        simp [h1, hn]
      · by_cases hn1 : v.n = 1
        · refine ⟨_, .succ (fun k => ref06_Right_eq k v) (.no e0 (.yes (by simp [h1]) (.yes (by simp [hn]) (.yes (by simp [hn1]) .const)))), ?_⟩
          simp [h1, hn1]
        · refine ⟨false, .succ (fun k => ref06_Right_eq k v) (.no e0 (.yes (by simp [h1]) (.yes (by simp [hn]) (.no (by simp [hn1]) .const)))), ?_⟩
          simp [h1, hn, hn1]
    · have e1 : (v.k == 1) = false := by simp [h1]
      by_cases h2 : v.k = 2
      · refine ⟨_, .succ (fun k => ref06_Right_eq k v) (.no e0 (.no e1 (.yes (by simp [h2]) .const))), ?_⟩
        simp [h2]
      · have e2 : (v.k == 2) = false := by simp [h2]
        by_cases h3 : v.k = 3
        · by_cases hn : v.n = 0
          · refine ⟨_, .succ (fun k => ref06_Right_eq k v) (.no e0 (.no e1 (.no e2 (.yes (by simp [h3]) (.yes (by simp [hn]) .const))))), ?_⟩
            simp [h3, hn]; omega
          · refine ⟨false, .succ (fun k => ref06_Right_eq k v) (.no e0 (.no e1 (.no e2 (.yes (by simp [h3]) (.no (by simp [hn]) .const))))), ?_⟩
            simp [h3, hn]
        · refine ⟨false, .succ (fun k => ref06_Right_eq k v) (.no e0 (.no e1 (.no e2 (.no (by simp [h3]) .const)))), ?_⟩
          simp [h0, h1, h2, h3]
theorem sign_eq {v : Val} (hR : RightP v) : (if v.k = 1 then 1 else if v.k = 2 then 2 else if v.k = 3 then 3 else 0 : Int) = IntKind.u8.wrap v.k := by
  rcases hR with h | h | h | h
  · rw [h.1]; rfl
  · rw [h.1]; rfl
  · rw [h.1]; rfl
  · rw [h.1]; rfl
theorem sL {v : Val} (hR : RightP v) (hv : InV v) : List.length v.s ≤ 256 := by
  rcases hR with h | h | h | h
  · rw [h.2.2]; decide
  · rw [h.2.1]; decide
  · rw [h.2]; decide
  · exact h.2.2
/-! What both write when a row is there already. -/
theorem own_byte {M : Nat} (hM : M ≤ 65536) {b : List UInt8} (hb : b.length ≤ M) (c : Int) :
    (Ans (fun k => wire_Writer_Byte_2 k c true (M : Int) b) (Sum.inl (true, (M : Int), b, 2, ())) ∧ Ans (fun k => ref02_Writer_Byte_2 k c (M : Int) b) (Sum.inl ((M : Int), b, 2, ()))) ∨
    ∃ b' : List UInt8, b'.length ≤ M ∧ Ans (fun k => wire_Writer_Byte_2 k c true (M : Int) b) (Sum.inr (true, (M : Int), b, b', 0, ())) ∧ Ans (fun k => ref02_Writer_Byte_2 k c (M : Int) b) (Sum.inr ((M : Int), b, b', 0, ())) := by
  have A := byte3 hM hb c
  have B := rbyte2 hM hb c
  unfold wres3 at A
  unfold rres2 at B
  by_cases h : [UInt8.ofNat (Int.toNat c)].length + b.length ≤ M
  · rw [if_pos h] at A B
    exact .inr ⟨_, by rw [List.length_append]; omega, A, B⟩
  · rw [if_neg h] at A B
    exact .inl ⟨A, B⟩
theorem own_int {M : Nat} (hM : M ≤ 65536) {b : List UInt8} (hb : b.length ≤ M) {m : Int} (hm : -9223372036854775808 ≤ m ∧ m < 9223372036854775808) :
    (Ans (fun k => wire_Writer_Int_2 k m true (M : Int) b) (Sum.inl (true, (M : Int), b, 2, ())) ∧ Ans (fun k => ref02_Writer_Int_2 k m (M : Int) b) (Sum.inl ((M : Int), b, 2, ()))) ∨
    ∃ b' : List UInt8, b'.length ≤ M ∧ Ans (fun k => wire_Writer_Int_2 k m true (M : Int) b) (Sum.inr (true, (M : Int), b, b', 0, ())) ∧ Ans (fun k => ref02_Writer_Int_2 k m (M : Int) b) (Sum.inr ((M : Int), b, b', 0, ())) := by
  have A := int3 hM hm hb
  have B := rint2 hM hm hb
  unfold wres3 at A
  unfold rres2 at B
  by_cases h : (enc (turn m)).length + b.length ≤ M
  · rw [if_pos h] at A B
    exact .inr ⟨_, by rw [List.length_append]; omega, A, B⟩
  · rw [if_neg h] at A B
    exact .inl ⟨A, B⟩
theorem own_text {M : Nat} (hM : M ≤ 65536) {b : List UInt8} (hb : b.length ≤ M) {s : List UInt8} (hs : s.length ≤ 256) :
    (Ans (fun k => wire_Writer_Text_2 k s true (M : Int) b) (Sum.inl (true, (M : Int), b, 2, ())) ∧ Ans (fun k => ref02_Writer_Text_2 k s (M : Int) b) (Sum.inl ((M : Int), b, 2, ()))) ∨
    ∃ b' : List UInt8, b'.length ≤ M ∧ Ans (fun k => wire_Writer_Text_2 k s true (M : Int) b) (Sum.inr (true, (M : Int), b, b', 0, ())) ∧ Ans (fun k => ref02_Writer_Text_2 k s (M : Int) b) (Sum.inr ((M : Int), b, b', 0, ())) := by
  have A := text3 hM hb s (by omega)
  have B := rtext2 hM hb s (by omega)
  unfold wres3 at A
  unfold rres2 at B
  by_cases h : (enc s.length ++ s).length + b.length ≤ M
  · rw [if_pos h] at A B
    exact .inr ⟨_, by simp only [List.length_append] at h ⊢; omega, A, B⟩
  · rw [if_neg h] at A B
    exact .inl ⟨A, B⟩
theorem new_byte {M : Nat} (hM : M ≤ 65536) (c : Int) :
    (Ans (fun k => wire_Writer_Byte k c true (M : Int)) (Sum.inl (true, (M : Int), 2, ())) ∧ Ans (fun k => ref02_Writer_Byte k c (M : Int)) (Sum.inl ((M : Int), 2, ()))) ∨
    ∃ b' : List UInt8, b'.length ≤ M ∧ Ans (fun k => wire_Writer_Byte k c true (M : Int)) (Sum.inr (true, (M : Int), b', 0, ())) ∧ Ans (fun k => ref02_Writer_Byte k c (M : Int)) (Sum.inr ((M : Int), b', 0, ())) := by
  have A := byte2 hM c
  have B := rbyte hM c
  unfold wres at A
  unfold rres at B
  by_cases h : [UInt8.ofNat (Int.toNat c)].length ≤ M
  · rw [if_pos h] at A B
    exact .inr ⟨_, h, A, B⟩
  · rw [if_neg h] at A B
    exact .inl ⟨A, B⟩
/-- A value written: both leave the same, and answer the same. -/
theorem put_new {M : Nat} (hM : M ≤ 65536) {v : Val} (hv : InV v) :
    (∃ e : Int, Ans (fun k => value_Put k v true (M : Int)) (Sum.inl (true, (M : Int), e, ())) ∧ Ans (fun k => ref06_Put k v (M : Int)) (Sum.inl ((M : Int), e, ()))) ∨
    ∃ (e : Int) (b' : List UInt8), b'.length ≤ M ∧ Ans (fun k => value_Put k v true (M : Int)) (Sum.inr (true, (M : Int), b', e, ())) ∧ Ans (fun k => ref06_Put k v (M : Int)) (Sum.inr ((M : Int), b', e, ())) := by
  obtain ⟨r, hr, hr'⟩ := right_ hv
  obtain ⟨q, hq, hq'⟩ := rright (v := v)
  by_cases hR : RightP v
  · obtain rfl := hr'.2 hR
    obtain rfl := hq'.2 hR
    have S := sign_ v
    rw [sign_eq hR] at S
    rcases new_byte hM (IntKind.u8.wrap v.k) with ⟨A, B⟩ | ⟨b', hb', A, B⟩
    · exact .inl ⟨2, .succ (fun k => value_Put_eq k v true M) (.bind hr (.no rfl (.bind S (elimL A (.yes rfl .const))))), .succ (fun k => ref06_Put_eq k v M) (.bind hq (.no rfl (elimL B (.yes rfl .const))))⟩
    · right
      by_cases h1 : v.k = 1
      · have t1 : (v.k == 1) = true := by simp [h1]
        rcases own_byte hM hb' (IntKind.u8.wrap v.n) with ⟨A2, B2⟩ | ⟨c, hc, A2, B2⟩
        · exact ⟨2, b', hb', .succ (fun k => value_Put_eq k v true M) (.bind hr (.no rfl (.bind S (.elimR A (.no rfl (.yes t1 (elimL A2 .const))))))), .succ (fun k => ref06_Put_eq k v M) (.bind hq (.no rfl (.elimR B (.no rfl (.yes t1 (elimL B2 .const))))))⟩
        · exact ⟨0, c, hc, .succ (fun k => value_Put_eq k v true M) (.bind hr (.no rfl (.bind S (.elimR A (.no rfl (.yes t1 (.elimR A2 .const))))))), .succ (fun k => ref06_Put_eq k v M) (.bind hq (.no rfl (.elimR B (.no rfl (.yes t1 (.elimR B2 .const))))))⟩
      · have n1 : (v.k == 1) = false := by simp [h1]
        by_cases h2 : v.k = 2
        · have t2 : (v.k == 2) = true := by simp [h2]
          rcases own_int hM hb' hv with ⟨A2, B2⟩ | ⟨c, hc, A2, B2⟩
          · exact ⟨2, b', hb', .succ (fun k => value_Put_eq k v true M) (.bind hr (.no rfl (.bind S (.elimR A (.no rfl (.no n1 (.yes t2 (elimL A2 .const)))))))), .succ (fun k => ref06_Put_eq k v M) (.bind hq (.no rfl (.elimR B (.no rfl (.no n1 (.yes t2 (elimL B2 .const)))))))⟩
          · exact ⟨0, c, hc, .succ (fun k => value_Put_eq k v true M) (.bind hr (.no rfl (.bind S (.elimR A (.no rfl (.no n1 (.yes t2 (.elimR A2 .const)))))))), .succ (fun k => ref06_Put_eq k v M) (.bind hq (.no rfl (.elimR B (.no rfl (.no n1 (.yes t2 (.elimR B2 .const)))))))⟩
        · have n2 : (v.k == 2) = false := by simp [h2]
          by_cases h3 : v.k = 3
          · have t3 : (v.k == 3) = true := by simp [h3]
            rcases own_text hM hb' (sL hR hv) with ⟨A2, B2⟩ | ⟨c, hc, A2, B2⟩
            · exact ⟨2, b', hb', .succ (fun k => value_Put_eq k v true M) (.bind hr (.no rfl (.bind S (.elimR A (.no rfl (.no n1 (.no n2 (.yes t3 (elimL A2 .const))))))))), .succ (fun k => ref06_Put_eq k v M) (.bind hq (.no rfl (.elimR B (.no rfl (.no n1 (.no n2 (.yes t3 (elimL B2 .const))))))))⟩
            · exact ⟨0, c, hc, .succ (fun k => value_Put_eq k v true M) (.bind hr (.no rfl (.bind S (.elimR A (.no rfl (.no n1 (.no n2 (.yes t3 (.elimR A2 .const))))))))), .succ (fun k => ref06_Put_eq k v M) (.bind hq (.no rfl (.elimR B (.no rfl (.no n1 (.no n2 (.yes t3 (.elimR B2 .const))))))))⟩
          · have n3 : (v.k == 3) = false := by simp [h3]
            exact ⟨0, b', hb', .succ (fun k => value_Put_eq k v true M) (.bind hr (.no rfl (.bind S (.elimR A (.no rfl (.no n1 (.no n2 (.no n3 .const)))))))), .succ (fun k => ref06_Put_eq k v M) (.bind hq (.no rfl (.elimR B (.no rfl (.no n1 (.no n2 (.no n3 .const)))))))⟩
  · have hf : r = false := by cases r with | false => rfl | true => exact absurd (hr'.1 rfl) hR
    have hg : q = false := by cases q with | false => rfl | true => exact absurd (hq'.1 rfl) hR
    subst hf hg
    exact .inl ⟨1, .succ (fun k => value_Put_eq k v true M) (.bind hr (.yes rfl .const)), .succ (fun k => ref06_Put_eq k v M) (.bind hq (.yes rfl .const))⟩
theorem put_own {M : Nat} (hM : M ≤ 65536) {v : Val} (hv : InV v) {b : List UInt8} (hb : b.length ≤ M) :
    (∃ e : Int, Ans (fun k => value_Put_2 k v true (M : Int) b) (Sum.inl (true, (M : Int), b, e, ())) ∧ Ans (fun k => ref06_Put_2 k v (M : Int) b) (Sum.inl ((M : Int), b, e, ()))) ∨
    ∃ (e : Int) (b' : List UInt8), b'.length ≤ M ∧ Ans (fun k => value_Put_2 k v true (M : Int) b) (Sum.inr (true, (M : Int), b, b', e, ())) ∧ Ans (fun k => ref06_Put_2 k v (M : Int) b) (Sum.inr ((M : Int), b, b', e, ())) := by
  obtain ⟨r, hr, hr'⟩ := right_ hv
  obtain ⟨q, hq, hq'⟩ := rright (v := v)
  by_cases hR : RightP v
  · obtain rfl := hr'.2 hR
    obtain rfl := hq'.2 hR
    have S := sign_ v
    rw [sign_eq hR] at S
    rcases own_byte hM hb (IntKind.u8.wrap v.k) with ⟨A, B⟩ | ⟨b', hb', A, B⟩
    · exact .inl ⟨2, .succ (fun k => value_Put_2_eq k v true M b) (.bind hr (.no rfl (.bind S (elimL A (.yes rfl .const))))), .succ (fun k => ref06_Put_2_eq k v M b) (.bind hq (.no rfl (elimL B (.yes rfl .const))))⟩
    · right
      by_cases h1 : v.k = 1
      · have t1 : (v.k == 1) = true := by simp [h1]
        rcases own_byte hM hb' (IntKind.u8.wrap v.n) with ⟨A2, B2⟩ | ⟨c, hc, A2, B2⟩
        · exact ⟨2, b', hb', .succ (fun k => value_Put_2_eq k v true M b) (.bind hr (.no rfl (.bind S (.elimR A (.no rfl (.yes t1 (elimL A2 .const))))))), .succ (fun k => ref06_Put_2_eq k v M b) (.bind hq (.no rfl (.elimR B (.no rfl (.yes t1 (elimL B2 .const))))))⟩
        · exact ⟨0, c, hc, .succ (fun k => value_Put_2_eq k v true M b) (.bind hr (.no rfl (.bind S (.elimR A (.no rfl (.yes t1 (.elimR A2 .const))))))), .succ (fun k => ref06_Put_2_eq k v M b) (.bind hq (.no rfl (.elimR B (.no rfl (.yes t1 (.elimR B2 .const))))))⟩
      · have n1 : (v.k == 1) = false := by simp [h1]
        by_cases h2 : v.k = 2
        · have t2 : (v.k == 2) = true := by simp [h2]
          rcases own_int hM hb' hv with ⟨A2, B2⟩ | ⟨c, hc, A2, B2⟩
          · exact ⟨2, b', hb', .succ (fun k => value_Put_2_eq k v true M b) (.bind hr (.no rfl (.bind S (.elimR A (.no rfl (.no n1 (.yes t2 (elimL A2 .const)))))))), .succ (fun k => ref06_Put_2_eq k v M b) (.bind hq (.no rfl (.elimR B (.no rfl (.no n1 (.yes t2 (elimL B2 .const)))))))⟩
          · exact ⟨0, c, hc, .succ (fun k => value_Put_2_eq k v true M b) (.bind hr (.no rfl (.bind S (.elimR A (.no rfl (.no n1 (.yes t2 (.elimR A2 .const)))))))), .succ (fun k => ref06_Put_2_eq k v M b) (.bind hq (.no rfl (.elimR B (.no rfl (.no n1 (.yes t2 (.elimR B2 .const)))))))⟩
        · have n2 : (v.k == 2) = false := by simp [h2]
          by_cases h3 : v.k = 3
          · have t3 : (v.k == 3) = true := by simp [h3]
            rcases own_text hM hb' (sL hR hv) with ⟨A2, B2⟩ | ⟨c, hc, A2, B2⟩
            · exact ⟨2, b', hb', .succ (fun k => value_Put_2_eq k v true M b) (.bind hr (.no rfl (.bind S (.elimR A (.no rfl (.no n1 (.no n2 (.yes t3 (elimL A2 .const))))))))), .succ (fun k => ref06_Put_2_eq k v M b) (.bind hq (.no rfl (.elimR B (.no rfl (.no n1 (.no n2 (.yes t3 (elimL B2 .const))))))))⟩
            · exact ⟨0, c, hc, .succ (fun k => value_Put_2_eq k v true M b) (.bind hr (.no rfl (.bind S (.elimR A (.no rfl (.no n1 (.no n2 (.yes t3 (.elimR A2 .const))))))))), .succ (fun k => ref06_Put_2_eq k v M b) (.bind hq (.no rfl (.elimR B (.no rfl (.no n1 (.no n2 (.yes t3 (.elimR B2 .const))))))))⟩
          · have n3 : (v.k == 3) = false := by simp [h3]
            exact ⟨0, b', hb', .succ (fun k => value_Put_2_eq k v true M b) (.bind hr (.no rfl (.bind S (.elimR A (.no rfl (.no n1 (.no n2 (.no n3 .const)))))))), .succ (fun k => ref06_Put_2_eq k v M b) (.bind hq (.no rfl (.elimR B (.no rfl (.no n1 (.no n2 (.no n3 .const)))))))⟩
  · have hf : r = false := by cases r with | false => rfl | true => exact absurd (hr'.1 rfl) hR
    have hg : q = false := by cases q with | false => rfl | true => exact absurd (hq'.1 rfl) hR
    subst hf hg
    exact .inl ⟨1, .succ (fun k => value_Put_2_eq k v true M b) (.bind hr (.yes rfl .const)), .succ (fun k => ref06_Put_2_eq k v M b) (.bind hq (.yes rfl .const))⟩
end Go.Ev.HpVY
