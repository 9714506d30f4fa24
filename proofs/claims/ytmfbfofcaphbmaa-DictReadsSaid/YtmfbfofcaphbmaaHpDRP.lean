/-
  DictReads, the plain law.
-/
import Derived.Test.YtmfbfofcaphbmaaHpDR
import Derived.Test.YtmfbfofcaphbmaaHpVget
set_option linter.unusedVariables false
set_option linter.unusedSectionVars false
namespace Go.Ev.HpDR
theorem idxA {α : Type} {xs : List α} {i : Nat} (h : i < xs.length) : Ans (fun _ => idx xs ((i : Nat) : Int)) xs[i] := .of (fun _ => idx_nat h) .const
def glen (m : Nat) : Nat := if m = 0 then 0 else (enc m).length
theorem enc_glen (n : Nat) : (enc n).length = 1 + glen (n / 128) := by
  by_cases h : n < 128
  · rw [enc_lt h, glen, if_pos (by omega)]; rfl
  · rw [enc_ge (by omega), glen, if_neg (by omega), List.length_cons]; omega
theorem byteP {m : Nat} (hm : m < 18446744073709551616) : UInt8.ofNat (Int.toNat (IntKind.u8.wrap (((BitVec.ofInt (IntKind.u8).bits (IntKind.u8.wrap (IntKind.u64.wrap (((BitVec.ofInt (IntKind.u64).bits (m : Int) &&& BitVec.ofInt (IntKind.u64).bits 127).toNat : Int)))) ||| BitVec.ofInt (IntKind.u8).bits 128).toNat : Int)))) = UInt8.ofNat (m % 128 + 128) := by
  rw [and127 hm, u64_id (n := m % 128) (by omega), u8_id (n := m % 128) (by omega), or128 (n := m % 128) (by omega), u8_id (n := m % 128 + 128) (by omega), Int.toNat_natCast]
theorem byteR {m : Nat} : UInt8.ofNat (Int.toNat (IntKind.u8.wrap (IntKind.u64.wrap ((Int.tmod (m : Int) 128) + 128)))) = UInt8.ofNat (m % 128 + 128) := by
  have e : (Int.tmod (m : Int) 128) + 128 = ((m % 128 + 128 : Nat) : Int) := by rw [tmod7]; omega
  rw [e, u64_id (by omega), u8_id (by omega), Int.toNat_natCast]
theorem byteL {m : Nat} (hm : m < 128) : UInt8.ofNat (Int.toNat (IntKind.u8.wrap (m : Int))) = UInt8.ofNat m := by
  rw [u8_id (by omega), Int.toNat_natCast]
def wres (M : Nat) (x : List UInt8) : (Bool × Int × Int × Unit) ⊕ (Bool × Int × List UInt8 × Int × Unit) := if x.length ≤ M then Sum.inr (true, (M : Int), x, 0, ()) else Sum.inl (true, (M : Int), 2, ())
def wres3 (M : Nat) (b x : List UInt8) : (Bool × Int × List UInt8 × Int × Unit) ⊕ (Bool × Int × List UInt8 × List UInt8 × Int × Unit) := if x.length + b.length ≤ M then Sum.inr (true, (M : Int), b, b ++ x, 0, ()) else Sum.inl (true, (M : Int), b, 2, ())
def rres (M : Nat) (x : List UInt8) : (Int × Int × Unit) ⊕ (Int × List UInt8 × Int × Unit) := if x.length ≤ M then Sum.inr ((M : Int), x, 0, ()) else Sum.inl ((M : Int), 2, ())
def rres2 (M : Nat) (b x : List UInt8) : (Int × List UInt8 × Int × Unit) ⊕ (Int × List UInt8 × List UInt8 × Int × Unit) := if x.length + b.length ≤ M then Sum.inr ((M : Int), b, b ++ x, 0, ()) else Sum.inl ((M : Int), b, 2, ())
theorem none3 (M : Int) (b : List UInt8) : Ans (fun k => wire_row_none k true M b) (true, M, b, false, ()) := .succ (fun k => wire_row_none_eq k true M b) .const
/-! ### What is read -/
theorem may_ok {c t : Nat} (h0 : 0 < t → c ≠ 0) (h9 : t = 9 → c ≤ 1) : Ans (fun k => vint_may k (c : Int) (t : Int)) (true, ()) := by
  have J : Ans (fun k => vint_may_j0 k (c : Int) (t : Int) false) (true, ()) := by
    refine .of (fun k => vint_may_j0_eq k c t false) (.no rfl ?_)
    by_cases h : t = 9
    · exact .yes (by subst h; rfl) (.no (decide_eq_false (by have := h9 h; omega)) .const)
    · exact .no (by simp; omega) .const
  refine .succ (fun k => vint_may_eq k c t) ?_
  by_cases ht : 0 < t
  · have e : (((c : Nat) : Int) == 0) = false := by have := h0 ht; simp; omega
    rw [e]
    exact .yes (by simp; omega) J
  · exact .no (by simp; omega) J
theorem get_loop (b post : List UInt8) (P : Nat) (hbl : b.length ≤ 140737488355328) (hP : P ≤ b.length) : ∀ (d m t a : Nat) (q : List UInt8), m < 128 ^ d → (0 < t → 0 < m) → a < 2 ^ (7 * t) → a + m * 2 ^ (7 * t) < 18446744073709551616 → b.drop P = q ++ enc m ++ post → q.length = t → t ≤ 9 →
    Ans2 (fun k n => vint_Get_l0 k n b (P : Int) P (a : Int) (t : Int)) (((a + m * 2 ^ (7 * t) : Nat) : Int), ((P + t + (enc m).length : Nat) : Int), 0, ()) := by
  intro d
  have len : ∀ (q : List UInt8) (m : Nat), b.drop P = q ++ enc m ++ post → b.length = P + q.length + (enc m).length + post.length := by
    intro q m h
    have := congrArg List.length h
    simp at this; omega
  have start : ∀ {m t a : Nat} {q : List UInt8} {x : UInt8} {r : List UInt8} {c : Nat} {res : Int × Int × Int × Unit}, enc m = x :: r → x.toNat = c → b.drop P = q ++ enc m ++ post → q.length = t → t ≤ 9 → (0 < t → c ≠ 0) → (t = 9 → c ≤ 1) →
      Ans2 (fun k n => bif ((IntKind.u8.wrap (((BitVec.ofInt (IntKind.u8).bits (c : Int) &&& BitVec.ofInt (IntKind.u8).bits 128).toNat : Int))) == 0) then vint_Get_j2 k b (P : Int) (IntKind.u64.wrap (((BitVec.ofInt (IntKind.u64).bits (a : Int) ||| BitVec.ofInt (IntKind.u64).bits (IntKind.u64.wrap ((IntKind.u64.wrap (IntKind.u8.wrap (((BitVec.ofInt (IntKind.u8).bits (c : Int) &&& BitVec.ofInt (IntKind.u8).bits 127).toNat : Int)))) * (2 ^ (min (Int.toNat (IntKind.i64.wrap (7 * (t : Int)))) (IntKind.u64).bits))))).toNat : Int))) (IntKind.i64.wrap ((IntKind.i64.wrap ((P : Int) + (t : Int))) + 1)) else (bif ((IntKind.i64.wrap ((IntKind.i64.wrap ((P : Int) + (t : Int))) + 1)) == ((List.length b : Nat) : Int)) then some (0, ((List.length b : Nat) : Int), 3, ()) else vint_Get_l0 k n b (P : Int) P (IntKind.u64.wrap (((BitVec.ofInt (IntKind.u64).bits (a : Int) ||| BitVec.ofInt (IntKind.u64).bits (IntKind.u64.wrap ((IntKind.u64.wrap (IntKind.u8.wrap (((BitVec.ofInt (IntKind.u8).bits (c : Int) &&& BitVec.ofInt (IntKind.u8).bits 127).toNat : Int)))) * (2 ^ (min (Int.toNat (IntKind.i64.wrap (7 * (t : Int)))) (IntKind.u64).bits))))).toNat : Int))) (IntKind.i64.wrap ((t : Int) + 1)))) res →
      Ans2 (fun k n => vint_Get_l0 k n b (P : Int) P (a : Int) (t : Int)) res := by
    intro m t a q x r c res he hx hb hq ht h0 h9 L
    have hl := len q m hb
    have hlt : decide ((t : Int) < ((List.length (List.drop P (List.take (List.length b) b)) : Nat) : Int)) = true := by
      rw [List.take_length, List.length_drop]
      have := enc_pos m
      exact decide_eq_true (by omega)
    have hidx : idx (List.drop P (List.take (List.length b) b)) (t : Int) = some x := by
      rw [List.take_length, hb, he]
      subst hq
      unfold idx
      rw [decide_eq_true (by omega), cond_true, Int.toNat_natCast]
      simp
    have h7 : decide (IntKind.i64.wrap (7 * (t : Int)) < 0) = false := by
      rw [wrap_id (by omega) (by omega)]; exact decide_eq_false (by omega)
    exact .succ (fun k n => by rw [vint_Get_l0_eq, hlt, cond_true, hidx, Option.bind_some, hx]) (.bind (may_ok h0 h9) (.no rfl (.no h7 L)))
  have last : ∀ (m t a : Nat) (q : List UInt8), m < 128 → (0 < t → 0 < m) → a < 2 ^ (7 * t) → a + m * 2 ^ (7 * t) < 18446744073709551616 → b.drop P = q ++ enc m ++ post → q.length = t → t ≤ 9 →
      Ans2 (fun k n => vint_Get_l0 k n b (P : Int) P (a : Int) (t : Int)) (((a + m * 2 ^ (7 * t) : Nat) : Int), ((P + t + (enc m).length : Nat) : Int), 0, ()) := by
    intro m t a q hm h0 ha hs hb hq ht
    have he := enc_lt hm
    have hl := len q m hb
    rw [he] at hl
    simp at hl
    have hx : (UInt8.ofNat m).toNat = m := by simp; omega
    refine start he hx hb hq ht (fun h => by have := h0 h; omega) (fun h => ?_) (.yes ?_ ?_)
    · subst h
      have : 2 ^ (7 * 9) = 9223372036854775808 := by decide
      rw [this] at hs; omega
    · rw [top8 (by omega), if_pos hm]; rfl
    · rw [low8 (by omega), Nat.mod_eq_of_lt hm, orIn ha hm ht hs]
      have e1 : IntKind.i64.wrap ((IntKind.i64.wrap ((P : Int) + (t : Int))) + 1) = ((P + t + (enc m).length : Nat) : Int) := by
        rw [he, wrap_id (n := (P : Int) + (t : Int)) (by omega) (by omega), wrap_id (by omega) (by omega)]; simp
      rw [e1]
      refine .of (fun k n => vint_Get_j2_eq k b P _ _) (.no ?_ .const)
      simp; omega
  induction d with
  | zero =>
    intro m t a q hm
    exact last m t a q (by simp at hm; omega)
  | succ d ih =>
    intro m t a q hm h0 ha hs hb hq ht
    by_cases h : m < 128
    · exact last m t a q h h0 ha hs hb hq ht
    · have he := enc_ge (n := m) (by omega)
      have hl := len q m hb
      rw [he] at hl
      simp at hl
      have hep := enc_pos (m / 128)
      have hd : m / 128 < 128 ^ d := by rw [Nat.div_lt_iff_lt_mul (by omega)]; rw [Nat.pow_succ] at hm; exact hm
      have hx : (UInt8.ofNat (m % 128 + 128)).toNat = m % 128 + 128 := by simp; omega
      have h9 : t ≠ 9 := fun e => by
        subst e
        have : 2 ^ (7 * 9) = 9223372036854775808 := by decide
        rw [this] at hs; omega
      have hpow : 2 ^ (7 * (t + 1)) = 128 * 2 ^ (7 * t) := by rw [Nat.mul_add, Nat.pow_add, Nat.mul_comm]
      have hsplit : m * 2 ^ (7 * t) = m % 128 * 2 ^ (7 * t) + m / 128 * 2 ^ (7 * (t + 1)) := by
        rw [hpow, ← Nat.mul_assoc, Nat.mul_comm (m / 128) 128, ← Nat.add_mul, Nat.mod_add_div]
      have hs' : a + m % 128 * 2 ^ (7 * t) + m / 128 * 2 ^ (7 * (t + 1)) < 18446744073709551616 := by omega
      have ha' : a + m % 128 * 2 ^ (7 * t) < 2 ^ (7 * (t + 1)) := by
        have h1 : m % 128 * 2 ^ (7 * t) ≤ 127 * 2 ^ (7 * t) := Nat.mul_le_mul_right _ (by omega)
        rw [hpow]; omega
      have L := ih (m / 128) (t + 1) (a + m % 128 * 2 ^ (7 * t)) (q ++ [UInt8.ofNat (m % 128 + 128)]) hd (fun _ => by omega) ha' hs' (by rw [hb, he]; simp) (by simp [hq]) (by omega)
      have er : (((a + m % 128 * 2 ^ (7 * t) + m / 128 * 2 ^ (7 * (t + 1)) : Nat) : Int), ((P + (t + 1) + (enc (m / 128)).length : Nat) : Int), (0 : Int), ()) = (((a + m * 2 ^ (7 * t) : Nat) : Int), ((P + t + (enc m).length : Nat) : Int), (0 : Int), ()) := by
        have e1 : a + m % 128 * 2 ^ (7 * t) + m / 128 * 2 ^ (7 * (t + 1)) = a + m * 2 ^ (7 * t) := by omega
        have e2 : P + (t + 1) + (enc (m / 128)).length = P + t + (enc m).length := by rw [he, List.length_cons]; omega
        rw [e1, e2]
      rw [er] at L
      refine start he hx hb hq ht (fun _ => by omega) (fun e => absurd e h9) (.no ?_ (.no ?_ ?_))
      · rw [top8 (by omega), if_neg (by omega)]; rfl
      · rw [wrap_id (n := (P : Int) + (t : Int)) (by omega) (by omega), wrap_id (by omega) (by omega)]
        simp; omega
      · rw [low8 (by omega), show (m % 128 + 128) % 128 = m % 128 by omega, orIn ha (by omega) ht (by omega), wrap_succ (m := 10) (by omega) (by omega)]
        exact L
theorem get_ (pre post : List UInt8) {m : Nat} (hm : m < 18446744073709551616) (hbl : (pre ++ enc m ++ post).length ≤ 140737488355328) : Ans (fun k => vint_Get k (pre ++ enc m ++ post) (pre.length : Int)) ((m : Int), ((pre.length + (enc m).length : Nat) : Int), 0, ()) := by
  have hp := enc_pos m
  have hl : (pre ++ enc m ++ post).length = pre.length + (enc m).length + post.length := by rw [List.length_append, List.length_append]
  have L := (get_loop (pre ++ enc m ++ post) post pre.length hbl (by omega) 10 m 0 0 [] (Nat.lt_of_lt_of_le hm (by decide)) (by omega) (by simp) (by simpa using hm) (by simp) rfl (by omega)).diag
  have er : ((((0 + m * 2 ^ (7 * 0) : Nat)) : Int), ((pre.length + 0 + (enc m).length : Nat) : Int), (0 : Int), ()) = ((m : Int), ((pre.length + (enc m).length : Nat) : Int), (0 : Int), ()) := by simp
  rw [er] at L
  generalize hB : pre ++ enc m ++ post = B at *
  have J1 : Ans (fun k => vint_Get_j1 k B (pre.length : Int)) ((m : Int), ((pre.length + (enc m).length : Nat) : Int), 0, ()) := by
    refine .of (fun k => vint_Get_j1_eq k B pre.length) (.bind (a := pre.length) (.of (fun k => bnd_le (by omega)) .const) L)
  refine .succ (fun k => vint_Get_eq k B pre.length) (.yes (by simp) ?_)
  rw [decide_eq_false (by omega)]
  exact .of (fun k => vint_Get_j0_eq k B pre.length false) (.no rfl J1)
theorem rnone2 (P : Int) (b : List UInt8) : Ans (fun k => wire_row_none k true P b) (true, P, b, false, ()) := .succ (fun k => wire_row_none_eq k true P b) .const
theorem rnone3 (P : Int) (b : List UInt8) : Ans (fun k => wire_row_none_2 k true P b) (true, P, b, false, ()) := .succ (fun k => wire_row_none_2_eq k true P b) .const
theorem rlen1 (P : Int) (b : List UInt8) : Ans (fun k => wire_row_len k true P b) (true, P, b, ((List.length b : Nat) : Int), ()) := .succ (fun k => wire_row_len_eq k true P b) .const
theorem rlen2 (P : Int) (b : List UInt8) : Ans (fun k => wire_row_len_2 k true P b) (true, P, b, ((List.length b : Nat) : Int), ()) := .succ (fun k => wire_row_len_2_eq k true P b) .const
theorem take1 {b : List UInt8} {P most m e : Int} (hG : Ans (fun k => vint_Get k b P) (m, e, 0, ())) (hm : m ≤ most) : Ans (fun k => wire_Reader_take k most true P b) (Sum.inr (true, P, b, m, e, 0, ())) :=
  .succ (fun k => wire_Reader_take_eq k most true P b) (.bind (rnone2 P b) (.of (fun k => wire_Reader_take_j0_eq k most true P b _) (.no rfl (.of (fun k => wire_Reader_take_j1_eq k most true P b _) (.bind hG (.no rfl (.no (decide_eq_false (by show ¬ m > most; omega)) .const)))))))
theorem take2 {b : List UInt8} {P most m e : Int} (hG : Ans (fun k => vint_Get k b P) (m, e, 0, ())) (hm : m ≤ most) : Ans (fun k => wire_Reader_take_2 k most true P b) (true, P, b, m, e, 0, ()) :=
  .succ (fun k => wire_Reader_take_2_eq k most true P b) (.bind (rnone3 P b) (.of (fun k => wire_Reader_take_2_j0_eq k most true P b _) (.no rfl (.of (fun k => wire_Reader_take_2_j1_eq k most true P b _) (.bind hG (.no rfl (.no (decide_eq_false (by show ¬ m > most; omega)) .const)))))))
theorem rtext2 {b pre t post : List UInt8} {P : Nat} (hb : b = pre ++ t ++ post) (hl : b.length ≤ 140737488355328) (hG : Ans (fun k => vint_Get k b (P : Int)) ((t.length : Int), (pre.length : Int), 0, ())) : Ans (fun k => wire_Reader_Text_2 k (t.length : Int) true (P : Int) b) (true, ((pre.length + t.length : Nat) : Int), b, t, 0, ()) := by
  have hbl : b.length = pre.length + t.length + post.length := by rw [hb, List.length_append, List.length_append]
  have e0 : IntKind.u64.wrap (if 0 > ((List.length t : Nat) : Int) then 0 else ((List.length t : Nat) : Int)) = ((List.length t : Nat) : Int) := by
    rw [if_neg (by omega), u64_id (by omega)]
  have e1 : IntKind.i64.wrap (((pre.length : Nat) : Int) + (IntKind.i64.wrap ((List.length t : Nat) : Int))) = ((pre.length + t.length : Nat) : Int) := by
    rw [wrap_id (n := ((List.length t : Nat) : Int)) (by omega) (by omega), wrap_id (by omega) (by omega)]; omega
  have e2 : IntKind.u64.wrap (IntKind.i64.wrap (((List.length b : Nat) : Int) - ((pre.length : Nat) : Int))) = ((t.length + post.length : Nat) : Int) := by
    rw [wrap_id (by omega) (by omega), show ((List.length b : Nat) : Int) - ((pre.length : Nat) : Int) = ((t.length + post.length : Nat) : Int) by omega, u64_id (by omega)]
  have e3 : List.drop pre.length (List.take (pre.length + t.length) b) = t := by
    have : pre.length + t.length = (pre ++ t).length := by simp
    rw [hb, this, List.take_left, List.drop_left]
  refine .succ (fun k => by rw [wire_Reader_Text_2_eq, e0]) (.bind (take2 hG (Int.le_refl _)) (.no rfl (.no (decide_eq_false (show ¬ ((List.length t : Nat) : Int) < 0 by omega)) (.bind (rlen2 _ b) (.no (decide_eq_false ?_) ?_)))))
  · show ¬ ((List.length t : Nat) : Int) > IntKind.u64.wrap (IntKind.i64.wrap (((List.length b : Nat) : Int) - ((pre.length : Nat) : Int)))
    rw [e2]; omega
  · refine .bind (a := pre.length + t.length) (.of (fun k => by
      show bnd (.int .i64 (IntKind.i64.wrap (((pre.length : Nat) : Int) + (IntKind.i64.wrap ((List.length t : Nat) : Int))))) b.length = some (pre.length + t.length)
      rw [e1]; exact bnd_le (by omega)) .const) (.bind (a := pre.length) (.of (fun k => by
      show bnd (.int .i64 ((pre.length : Nat) : Int)) (pre.length + t.length) = some pre.length
      exact bnd_le (by omega)) .const) (.bind (a := pre.length + t.length) (.of (fun k => by
      show bnd (.int .i64 (IntKind.i64.wrap (((pre.length : Nat) : Int) + (IntKind.i64.wrap ((List.length t : Nat) : Int))))) b.length = some (pre.length + t.length)
      rw [e1]; exact bnd_le (by omega)) .const) (.yes (by simp) ?_)))
    show Ans (fun k => some (true, IntKind.i64.wrap (((pre.length : Nat) : Int) + (IntKind.i64.wrap ((List.length t : Nat) : Int))), b, List.drop pre.length (List.take (pre.length + t.length) b), 0, ())) _
    rw [e1, e3]
    exact .const
/-! ### Whatever the bytes -/
def Inv (t a : Nat) (q : List UInt8) : Prop := a < 2 ^ (7 * t) ∧ ∀ m : Nat, (0 < t → 0 < m) → enc (a + m * 2 ^ (7 * t)) = q ++ enc m
theorem may_any (c t : Nat) : ∃ r : Bool, Ans (fun k => vint_may k (c : Int) (t : Int)) (r, ()) ∧ (r = true → (0 < t → c ≠ 0) ∧ (t = 9 → c ≤ 1)) := by
  by_cases h0 : 0 < t → c ≠ 0
  · by_cases h9 : t = 9 → c ≤ 1
    · exact ⟨true, may_ok h0 h9, fun _ => ⟨h0, h9⟩⟩
    · have ht : t = 9 := Decidable.byContradiction fun e => h9 fun e' => absurd e' e
      have hc : ¬ c ≤ 1 := fun e => h9 fun _ => e
      subst ht
      refine ⟨false, .succ (fun k => vint_may_eq k c _) (.yes rfl ?_), fun h => by cases h⟩
      have e : (((c : Nat) : Int) == 0) = false := by simp; omega
      rw [e]
      exact .of (fun k => vint_may_j0_eq k c _ false) (.no rfl (.yes rfl (.yes (decide_eq_true (by omega)) .const)))
  · have ht : 0 < t := Decidable.byContradiction fun e => h0 fun e' => absurd e' e
    have hc : c = 0 := Decidable.byContradiction fun e => h0 fun _ => e
    subst hc
    refine ⟨false, .succ (fun k => vint_may_eq k _ t) (.yes (by simp; omega) ?_), fun h => by cases h⟩
    exact .of (fun k => vint_may_j0_eq k _ t _) (.yes rfl .const)
/-- What is found: a fault, or a number's bytes. -/
def Found (b : List UInt8) (P : Nat) (r : Int × Int × Int × Unit) : Prop := r.2.2.1 ≠ 0 ∨ ∃ (m : Nat) (post : List UInt8), m < 18446744073709551616 ∧ b.drop P = enc m ++ post ∧ r = ((m : Int), ((P + (enc m).length : Nat) : Int), 0, ())
theorem inv_step {t a c : Nat} {q : List UInt8} (hI : Inv t a q) (hc : 128 ≤ c) (hc' : c < 256) : Inv (t + 1) (a + c % 128 * 2 ^ (7 * t)) (q ++ [UInt8.ofNat c]) := by
  obtain ⟨h1, h2⟩ := hI
  have hpow : 2 ^ (7 * (t + 1)) = 128 * 2 ^ (7 * t) := by rw [Nat.mul_add, Nat.pow_add, Nat.mul_comm]
  refine ⟨?_, fun m hm => ?_⟩
  · have : c % 128 * 2 ^ (7 * t) ≤ 127 * 2 ^ (7 * t) := Nat.mul_le_mul_right _ (by omega)
    rw [hpow]; omega
  · have hm := hm (by omega)
    have e : a + c % 128 * 2 ^ (7 * t) + m * 2 ^ (7 * (t + 1)) = a + (c % 128 + 128 * m) * 2 ^ (7 * t) := by
      rw [hpow, Nat.add_mul, ← Nat.mul_assoc, Nat.mul_comm m 128]; omega
    rw [e, h2 (c % 128 + 128 * m) (fun _ => by omega), enc_ge (by omega), show (c % 128 + 128 * m) % 128 + 128 = c by omega, show (c % 128 + 128 * m) / 128 = m by omega]
    simp
theorem get_any_loop (b : List UInt8) (P : Nat) (hbl : b.length ≤ 140737488355328) (hP : P < b.length) : ∀ (d t a : Nat) (q rest : List UInt8), t + d = 9 → Inv t a q → b.drop P = q ++ rest → q.length = t → 0 < rest.length →
    ∃ r, Ans2 (fun k n => vint_Get_l0 k n b (P : Int) P (a : Int) (t : Int)) r ∧ Found b P r := by
  intro d
  induction d with
  | zero =>
    intro t a q rest ht hI hb hq hr
    obtain ⟨x, rest, rfl⟩ : ∃ x r, rest = x :: r := by
      cases rest with
      | nil => simp at hr
      | cons x r => exact ⟨x, r, rfl⟩
    have hl : b.length = P + q.length + (rest.length + 1) := by
      have := congrArg List.length hb
      simp at this; omega
    have hlt : decide ((t : Int) < ((List.length (List.drop P (List.take (List.length b) b)) : Nat) : Int)) = true := by
      rw [List.take_length, List.length_drop]; exact decide_eq_true (by omega)
    have hidx : idx (List.drop P (List.take (List.length b) b)) (t : Int) = some x := by
      rw [List.take_length, hb]
      subst hq
      unfold idx
      rw [decide_eq_true (by omega), cond_true, Int.toNat_natCast]
      simp
    have h7 : decide (IntKind.i64.wrap (7 * (t : Int)) < 0) = false := by
      rw [wrap_id (by omega) (by omega)]; exact decide_eq_false (by omega)
    have hx8 := UInt8.toNat_lt x
    obtain ⟨v, hv, hv'⟩ := may_any x.toNat t
    cases v with
    | false => exact ⟨_, .succ (fun k n => by rw [vint_Get_l0_eq, hlt, cond_true, hidx, Option.bind_some]) (.bind hv (.yes rfl .const)), .inl (by simp)⟩
    | true =>
      obtain ⟨hm0, hm9⟩ := hv' rfl
      by_cases hc : x.toNat < 128
      · have hpow : a + x.toNat * 2 ^ (7 * t) < 18446744073709551616 := by
          by_cases h9 : t = 9
          · have := hm9 h9
            have h1 := hI.1
            subst h9
            have e : 2 ^ (7 * 9) = 9223372036854775808 := by decide
            rw [e] at h1 ⊢; omega
          · have h1 := hI.1
            have h2 : 2 ^ (7 * t) ≤ 2 ^ (7 * 8) := Nat.pow_le_pow_right (by omega) (by omega)
            have e : 2 ^ (7 * 8) = 72057594037927936 := by decide
            have h3 : x.toNat * 2 ^ (7 * t) ≤ 127 * 2 ^ (7 * t) := Nat.mul_le_mul_right _ (by omega)
            rw [e] at h2; omega
        have he : enc (a + x.toNat * 2 ^ (7 * t)) = q ++ [x] := by
          rw [hI.2 x.toNat (fun h => by have := hm0 h; omega), enc_lt hc]
          simp
        have e1 : IntKind.i64.wrap ((IntKind.i64.wrap ((P : Int) + (t : Int))) + 1) = ((P + (enc (a + x.toNat * 2 ^ (7 * t))).length : Nat) : Int) := by
          rw [he, wrap_id (n := (P : Int) + (t : Int)) (by omega) (by omega), wrap_id (by omega) (by omega)]
          simp only [List.length_append, List.length_cons, List.length_nil, hq]; omega
        refine ⟨(((a + x.toNat * 2 ^ (7 * t) : Nat) : Int), ((P + (enc (a + x.toNat * 2 ^ (7 * t))).length : Nat) : Int), 0, ()), .succ (fun k n => by rw [vint_Get_l0_eq, hlt, cond_true, hidx, Option.bind_some]) (.bind hv (.no rfl (.no h7 (.yes ?_ ?_)))), .inr ⟨_, rest, hpow, by rw [he, hb]; simp, rfl⟩⟩
        · rw [top8 (by omega), if_pos hc]; rfl
        · rw [low8 (by omega), Nat.mod_eq_of_lt hc, orIn hI.1 hc (by omega) hpow, e1]
          exact .of (fun k n => vint_Get_j2_eq k b P _ _) (.no (by simp; omega) .const)
      · exfalso
        have h9 : t = 9 := by omega
        have := hm9 h9
        omega
  | succ d ih =>
    intro t a q rest ht hI hb hq hr
    obtain ⟨x, rest, rfl⟩ : ∃ x r, rest = x :: r := by
      cases rest with
      | nil => simp at hr
      | cons x r => exact ⟨x, r, rfl⟩
    have hl : b.length = P + q.length + (rest.length + 1) := by
      have := congrArg List.length hb
      simp at this; omega
    have hlt : decide ((t : Int) < ((List.length (List.drop P (List.take (List.length b) b)) : Nat) : Int)) = true := by
      rw [List.take_length, List.length_drop]; exact decide_eq_true (by omega)
    have hidx : idx (List.drop P (List.take (List.length b) b)) (t : Int) = some x := by
      rw [List.take_length, hb]
      subst hq
      unfold idx
      rw [decide_eq_true (by omega), cond_true, Int.toNat_natCast]
      simp
    have h7 : decide (IntKind.i64.wrap (7 * (t : Int)) < 0) = false := by
      rw [wrap_id (by omega) (by omega)]; exact decide_eq_false (by omega)
    have hx8 := UInt8.toNat_lt x
    obtain ⟨v, hv, hv'⟩ := may_any x.toNat t
    cases v with
    | false => exact ⟨_, .succ (fun k n => by rw [vint_Get_l0_eq, hlt, cond_true, hidx, Option.bind_some]) (.bind hv (.yes rfl .const)), .inl (by simp)⟩
    | true =>
      obtain ⟨hm0, hm9⟩ := hv' rfl
      by_cases hc : x.toNat < 128
      · have hpow : a + x.toNat * 2 ^ (7 * t) < 18446744073709551616 := by
          by_cases h9 : t = 9
          · have := hm9 h9
            have h1 := hI.1
            subst h9
            have e : 2 ^ (7 * 9) = 9223372036854775808 := by decide
            rw [e] at h1 ⊢; omega
          · have h1 := hI.1
            have h2 : 2 ^ (7 * t) ≤ 2 ^ (7 * 8) := Nat.pow_le_pow_right (by omega) (by omega)
            have e : 2 ^ (7 * 8) = 72057594037927936 := by decide
            have h3 : x.toNat * 2 ^ (7 * t) ≤ 127 * 2 ^ (7 * t) := Nat.mul_le_mul_right _ (by omega)
            rw [e] at h2; omega
        have he : enc (a + x.toNat * 2 ^ (7 * t)) = q ++ [x] := by
          rw [hI.2 x.toNat (fun h => by have := hm0 h; omega), enc_lt hc]
          simp
        have e1 : IntKind.i64.wrap ((IntKind.i64.wrap ((P : Int) + (t : Int))) + 1) = ((P + (enc (a + x.toNat * 2 ^ (7 * t))).length : Nat) : Int) := by
          rw [he, wrap_id (n := (P : Int) + (t : Int)) (by omega) (by omega), wrap_id (by omega) (by omega)]
          simp only [List.length_append, List.length_cons, List.length_nil, hq]; omega
        refine ⟨(((a + x.toNat * 2 ^ (7 * t) : Nat) : Int), ((P + (enc (a + x.toNat * 2 ^ (7 * t))).length : Nat) : Int), 0, ()), .succ (fun k n => by rw [vint_Get_l0_eq, hlt, cond_true, hidx, Option.bind_some]) (.bind hv (.no rfl (.no h7 (.yes ?_ ?_)))), .inr ⟨_, rest, hpow, by rw [he, hb]; simp, rfl⟩⟩
        · rw [top8 (by omega), if_pos hc]; rfl
        · rw [low8 (by omega), Nat.mod_eq_of_lt hc, orIn hI.1 hc (by omega) hpow, e1]
          exact .of (fun k n => vint_Get_j2_eq k b P _ _) (.no (by simp; omega) .const)
      · have hI' := inv_step hI (c := x.toNat) (by omega) (by omega)
        rw [show UInt8.ofNat x.toNat = x by simp] at hI'
        have e2 : IntKind.i64.wrap ((IntKind.i64.wrap ((P : Int) + (t : Int))) + 1) = ((P + t + 1 : Nat) : Int) := by
          rw [wrap_id (n := (P : Int) + (t : Int)) (by omega) (by omega), wrap_id (by omega) (by omega)]; omega
        have hsum : a + x.toNat % 128 * 2 ^ (7 * t) < 18446744073709551616 := by
          have h1 := hI'.1
          have h2 : 2 ^ (7 * (t + 1)) ≤ 2 ^ (7 * 9) := Nat.pow_le_pow_right (by omega) (by omega)
          have e : 2 ^ (7 * 9) = 9223372036854775808 := by decide
          rw [e] at h2; omega
        have htop : ((IntKind.u8.wrap (((BitVec.ofInt (IntKind.u8).bits ((x.toNat : Nat) : Int) &&& BitVec.ofInt (IntKind.u8).bits 128).toNat : Int))) == 0) = false := by
          rw [top8 (by omega), if_neg (by omega)]; rfl
        by_cases hend : P + t + 1 = b.length
        · refine ⟨(0, ((List.length b : Nat) : Int), 3, ()), .succ (fun k n => by rw [vint_Get_l0_eq, hlt, cond_true, hidx, Option.bind_some]) (.bind hv (.no rfl (.no h7 (.no htop (.yes ?_ .const))))), .inl (by simp)⟩
          rw [e2, hend]; simp
        · obtain ⟨r, hr, hF⟩ := ih (t + 1) (a + x.toNat % 128 * 2 ^ (7 * t)) (q ++ [x]) rest (by omega) hI' (by rw [hb]; simp) (by simp [hq]) (by omega)
          refine ⟨r, .succ (fun k n => by rw [vint_Get_l0_eq, hlt, cond_true, hidx, Option.bind_some]) (.bind hv (.no rfl (.no h7 (.no htop (.no ?_ ?_))))), hF⟩
          · rw [e2]; simp; omega
          · rw [low8 (by omega), orIn hI.1 (by omega) (by omega) hsum, wrap_succ (m := 10) (by omega) (by omega)]
            exact hr
theorem get_any (b : List UInt8) (P : Nat) (hbl : b.length ≤ 140737488355328) (hP : P ≤ b.length) : ∃ r, Ans (fun k => vint_Get k b (P : Int)) r ∧ Found b P r := by
  have J : ∀ r, Ans (fun k => vint_Get_l0 k k b (P : Int) P 0 0) r → Ans (fun k => vint_Get k b (P : Int)) r := by
    intro r L
    have J1 : Ans (fun k => vint_Get_j1 k b (P : Int)) r := .of (fun k => vint_Get_j1_eq k b P) (.bind (a := P) (.of (fun k => bnd_le hP) .const) L)
    refine .succ (fun k => vint_Get_eq k b P) (.yes (by simp) ?_)
    rw [decide_eq_false (by omega)]
    exact .of (fun k => vint_Get_j0_eq k b P false) (.no rfl J1)
  by_cases hlt : P < b.length
  · obtain ⟨r, hr, hF⟩ := get_any_loop b P hbl hlt 9 0 0 [] (b.drop P) rfl ⟨by simp, fun m _ => by simp⟩ (by simp) rfl (by rw [List.length_drop]; omega)
    exact ⟨r, J r hr.diag, hF⟩
  · have e : P = b.length := by omega
    refine ⟨(0, ((List.length b : Nat) : Int), 3, ()), J _ ?_, .inl (by simp)⟩
    have L : Ans2 (fun k n => vint_Get_l0 k n b (P : Int) P 0 0) (0, ((List.length b : Nat) : Int), 3, ()) := by
      refine .succ (g := fun k n => vint_Get_j2 k b (P : Int) 0 ((List.length b : Nat) : Int)) (fun k n => ?_) (.of (fun k n => vint_Get_j2_eq k b P _ _) (.yes (by simp; omega) .const))
      rw [vint_Get_l0_eq, decide_eq_false (by rw [List.take_length, List.length_drop]; omega), cond_false]
    exact L.diag
end Go.Ev.HpDR
