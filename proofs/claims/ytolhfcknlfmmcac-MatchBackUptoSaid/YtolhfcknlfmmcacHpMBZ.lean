/-
  MatchBack, the plain law.
-/
import Derived.Test.YtolhfcknlfmmcacHpMB
import Derived.Test.YtolhfcknlfmmcacHpVget
import Derived.Test.YtolhfcknlfmmcacHpAns3
import Derived.Test.YtolhfcknlfmmcacHpFrm
import Derived.Test.YtolhfcknlfmmcacHpDict
import Derived.Test.YtolhfcknlfmmcacHpOrd
set_option linter.unusedVariables false
set_option linter.unusedSectionVars false
namespace Go.Ev.HpMB
theorem idxA {α : Type} {xs : List α} {i : Nat} (h : i < xs.length) : Ans (fun _ => idx xs ((i : Nat) : Int)) xs[i] := .of (fun _ => idx_nat h) .const
def glen (m : Nat) : Nat := if m = 0 then 0 else (enc m).length
theorem enc_glen (n : Nat) : (enc n).length = 1 + glen (n / 128) := by
  by_cases h : n < 128
  · rw [enc_lt h, glen, if_pos (by omega)]; rfl
  · rw [enc_ge (by omega), glen, if_neg (by omega), List.length_cons]; omega
theorem groups_loop (N : Int) : ∀ (d m c : Nat), m < 128 ^ d → c + d ≤ 100 → Ans2 (fun k n => vint_groups_uint64_l0 k n N (m : Int) (c : Int)) (((c + glen m : Nat) : Int), ()) := by
  intro d
  induction d with
  | zero =>
    intro m c hm hc
    have h0 : m = 0 := by simpa using hm
    subst h0
    refine .succ (fun k n => ?_) .const
    rw [vint_groups_uint64_l0_eq]; rfl
  | succ d ih =>
    intro m c hm hc
    by_cases h0 : m = 0
    · subst h0
      refine .succ (fun k n => ?_) .const
      rw [vint_groups_uint64_l0_eq]; rfl
    · have hb : (((m : Nat) : Int) != 0) = true := by simp; omega
      have hd : m / 128 < 128 ^ d := by rw [Nat.div_lt_iff_lt_mul (by omega)]; rw [Nat.pow_succ] at hm; exact hm
      have L := ih (m / 128) (c + 1) hd (by omega)
      have e : c + glen m = c + 1 + glen (m / 128) := by
        have := enc_glen m
        rw [glen, if_neg h0, this]; omega
      rw [e]
      refine .succ (fun k n => ?_) L
      rw [vint_groups_uint64_l0_eq, hb, cond_true, fdiv7, wrap_succ (m := c + 1) (by omega) (by omega)]
theorem groups {n : Nat} (hn : n < 18446744073709551616) : Ans (fun k => vint_groups_uint64 k (n : Int)) (((enc n).length : Int), ()) := by
  have L := (groups_loop (n : Int) 10 (n / 128) 1 (Nat.lt_of_le_of_lt (Nat.div_le_self _ _) (Nat.lt_of_lt_of_le hn (by decide))) (by omega)).diag
  rw [enc_glen n]
  refine .succ (fun k => ?_) L
  rw [vint_groups_uint64_eq, fdiv7]; rfl
theorem byteP {m : Nat} (hm : m < 18446744073709551616) : UInt8.ofNat (Int.toNat (IntKind.u8.wrap (((BitVec.ofInt (IntKind.u8).bits (IntKind.u8.wrap (IntKind.u64.wrap (((BitVec.ofInt (IntKind.u64).bits (m : Int) &&& BitVec.ofInt (IntKind.u64).bits 127).toNat : Int)))) ||| BitVec.ofInt (IntKind.u8).bits 128).toNat : Int)))) = UInt8.ofNat (m % 128 + 128) := by
  rw [and127 hm, u64_id (n := m % 128) (by omega), u8_id (n := m % 128) (by omega), or128 (n := m % 128) (by omega), u8_id (n := m % 128 + 128) (by omega), Int.toNat_natCast]
theorem byteR {m : Nat} : UInt8.ofNat (Int.toNat (IntKind.u8.wrap (IntKind.u64.wrap ((Int.tmod (m : Int) 128) + 128)))) = UInt8.ofNat (m % 128 + 128) := by
  have e : (Int.tmod (m : Int) 128) + 128 = ((m % 128 + 128 : Nat) : Int) := by rw [tmod7]; omega
  rw [e, u64_id (by omega), u8_id (by omega), Int.toNat_natCast]
theorem byteL {m : Nat} (hm : m < 128) : UInt8.ofNat (Int.toNat (IntKind.u8.wrap (m : Int))) = UInt8.ofNat m := by
  rw [u8_id (by omega), Int.toNat_natCast]
theorem put_loop (b : List UInt8) (N : Int) : ∀ (d m : Nat) (out : List UInt8), m < 128 ^ d → m < 18446744073709551616 → out.length + d ≤ 1000000 → Ans2 (fun k n => vint_Put_l0 k n b N (m : Int) out) (out ++ enc m, ()) := by
  intro d
  have last : ∀ (m : Nat) (out : List UInt8), m < 128 → out.length ≤ 1000000 → Ans2 (fun k n => vint_Put_l0 k n b N (m : Int) out) (out ++ enc m, ()) := by
    intro m out h hl
    rw [enc_lt h]
    refine .succ (fun k n => ?_) .const
    rw [vint_Put_l0_eq, decide_eq_false (by omega), cond_false, byteL h, decide_eq_true (by simp; omega), cond_true]
  induction d with
  | zero =>
    intro m out hm _ hl
    have : m < 128 := by simp at hm; omega
    exact last m out this (by omega)
  | succ d ih =>
    intro m out hm h64 hl
    by_cases h : m < 128
    · exact last m out h (by omega)
    · have hd : m / 128 < 128 ^ d := by rw [Nat.div_lt_iff_lt_mul (by omega)]; rw [Nat.pow_succ] at hm; exact hm
      have L := ih (m / 128) (out ++ [UInt8.ofNat (m % 128 + 128)]) hd (by omega) (by simp; omega)
      have e : out ++ enc m = out ++ [UInt8.ofNat (m % 128 + 128)] ++ enc (m / 128) := by rw [enc_ge (by omega)]; simp
      rw [e]
      refine .succ (fun k n => ?_) L
      rw [vint_Put_l0_eq, decide_eq_true (by omega), cond_true, byteP h64, decide_eq_true (by simp; omega), cond_true, fdiv7]
theorem put {n : Nat} (hn : n < 18446744073709551616) {b : List UInt8} (hb : b.length ≤ 100000) : Ans (fun k => vint_Put k b (n : Int)) (b ++ enc n, ()) := by
  have h10 := enc_ten hn
  have h1 := enc_pos n
  have e : IntKind.i64.wrap (((List.length b : Nat) : Int) + ((enc n).length : Int)) = ((List.length b + (enc n).length : Nat) : Int) := by rw [wrap_id (by omega) (by omega)]; omega
  refine .succ (fun k => vint_Put_eq k b n) (.bind (groups hn) (.yes ?_ (.yes ?_ (put_loop b n 10 n b (Nat.lt_of_lt_of_le hn (by decide)) hn (by omega)).diag)))
  · rw [e]
    simp only [Bool.and_eq_true, decide_eq_true_eq]
    omega
  · simp
/-! ### What is written -/
def wres (M : Nat) (x : List UInt8) : (Bool × Int × Int × Unit) ⊕ (Bool × Int × List UInt8 × Int × Unit) := if x.length ≤ M then Sum.inr (true, (M : Int), x, 0, ()) else Sum.inl (true, (M : Int), 2, ())
def wres3 (M : Nat) (b x : List UInt8) : (Bool × Int × List UInt8 × Int × Unit) ⊕ (Bool × Int × List UInt8 × List UInt8 × Int × Unit) := if x.length + b.length ≤ M then Sum.inr (true, (M : Int), b, b ++ x, 0, ()) else Sum.inl (true, (M : Int), b, 2, ())
def rres (M : Nat) (x : List UInt8) : (Int × Int × Unit) ⊕ (Int × List UInt8 × Int × Unit) := if x.length ≤ M then Sum.inr ((M : Int), x, 0, ()) else Sum.inl ((M : Int), 2, ())
def rres2 (M : Nat) (b x : List UInt8) : (Int × List UInt8 × Int × Unit) ⊕ (Int × List UInt8 × List UInt8 × Int × Unit) := if x.length + b.length ≤ M then Sum.inr ((M : Int), b, b ++ x, 0, ()) else Sum.inl ((M : Int), b, 2, ())
theorem none2 (M : Int) : Ans (fun k => wire_row_none k true M) (true, M, false, ()) := .succ (fun k => wire_row_none_eq k true M) .const
theorem none3 (M : Int) (b : List UInt8) : Ans (fun k => wire_row_none_2 k true M b) (true, M, b, false, ()) := .succ (fun k => wire_row_none_2_eq k true M b) .const
theorem room2 {M : Nat} (hM : M ≤ 65536) (x : Nat) : Ans (fun k => wire_Writer_room k (x : Int) true (M : Int)) (true, (M : Int), decide (x ≤ M), ()) := by
  refine .succ (fun k => wire_Writer_room_eq k x true M) (.bind (.succ (fun k => wire_row_len_3_eq k true M) .const) ?_)
  have e : decide ((x : Int) ≤ IntKind.i64.wrap ((M : Int) - 0)) = decide (x ≤ M) := by
    rw [wrap_id (by omega) (by omega)]; exact decide_eq_decide.2 (by omega)
  show Ans (fun k => some (true, (M : Int), decide ((x : Int) ≤ IntKind.i64.wrap ((M : Int) - 0)), ())) _
  rw [e]; exact .const
theorem room3 {M : Nat} (hM : M ≤ 65536) {b : List UInt8} (hb : b.length ≤ M) (x : Nat) : Ans (fun k => wire_Writer_room_2 k (x : Int) true (M : Int) b) (true, (M : Int), b, decide (x + b.length ≤ M), ()) := by
  refine .succ (fun k => wire_Writer_room_2_eq k x true M b) (.bind (.succ (fun k => wire_row_len_eq k true M b) .const) ?_)
  have e : decide ((x : Int) ≤ IntKind.i64.wrap ((M : Int) - ((List.length b : Nat) : Int))) = decide (x + b.length ≤ M) := by
    rw [wrap_id (by omega) (by omega)]; exact decide_eq_decide.2 (by omega)
  show Ans (fun k => some (true, (M : Int), b, decide ((x : Int) ≤ IntKind.i64.wrap ((M : Int) - ((List.length b : Nat) : Int))), ())) _
  rw [e]; exact .const
theorem size_ {n : Nat} (hn : n < 18446744073709551616) : Ans (fun k => vint_Size k (n : Int)) (((enc n).length : Int), ()) := .succ (fun k => vint_Size_eq k n) (.bind (groups hn) .const)
theorem num2 {M n : Nat} (hM : M ≤ 65536) (hn : n < 18446744073709551616) : Ans (fun k => wire_Writer_Num_2 k (n : Int) true (M : Int)) (wres M (enc n)) := by
  refine .succ (fun k => wire_Writer_Num_2_eq k n true M) (.bind (none2 M) (.of (fun k => wire_Writer_Num_2_j0_eq k n true M _) (.no rfl (.bind (size_ hn) (.bind (room2 hM _) ?_)))))
  unfold wres
  by_cases h : (enc n).length ≤ M
  · rw [if_pos h]
    refine .no (by simp [h]) (.of (fun k => wire_Writer_Num_2_j1_eq k n true M _) (.bind (put hn (b := []) (by simp)) ?_))
    exact .const
  · rw [if_neg h]; exact .yes (by simp; omega) .const
theorem num3 {M n : Nat} (hM : M ≤ 65536) (hn : n < 18446744073709551616) {b : List UInt8} (hb : b.length ≤ M) : Ans (fun k => wire_Writer_Num_3 k (n : Int) true (M : Int) b) (wres3 M b (enc n)) := by
  refine .succ (fun k => wire_Writer_Num_3_eq k n true M b) (.bind (none3 M b) (.of (fun k => wire_Writer_Num_3_j0_eq k n true M b _) (.no rfl (.bind (size_ hn) (.bind (room3 hM hb _) ?_)))))
  unfold wres3
  by_cases h : (enc n).length + b.length ≤ M
  · rw [if_pos h]
    exact .no (by simp [h]) (.of (fun k => wire_Writer_Num_3_j1_eq k n true M b _) (.bind (put hn (b := b) (by omega)) .const))
  · rw [if_neg h]; exact .yes (by simp; omega) .const
theorem text2 {M : Nat} (hM : M ≤ 65536) (s : List UInt8) (hs : s.length ≤ 140737488355328) : Ans (fun k => wire_Writer_Text_2 k s true (M : Int)) (wres M (enc s.length ++ s)) := by
  have h10 := enc_ten (n := s.length) (by omega)
  refine .succ (fun k => wire_Writer_Text_2_eq k s true M) (.bind (none2 M) (.of (fun k => wire_Writer_Text_2_j0_eq k s true M _) (.no rfl ?_)))
  unfold wres
  by_cases h1 : s.length ≤ M
  · refine .yes (by simp; omega) (.of (fun k => by rw [u64_id (n := s.length) (by omega)]) (.bind (size_ (by omega)) ?_))
    have e : IntKind.i64.wrap (((enc s.length).length : Int) + ((List.length s : Nat) : Int)) = (((enc s.length).length + s.length : Nat) : Int) := by rw [wrap_id (by omega) (by omega)]; omega
    refine .of (fun k => by rw [show IntKind.i64.wrap (((((enc s.length).length : Nat) : Int), ()).1 + ((List.length s : Nat) : Int)) = (((enc s.length).length + s.length : Nat) : Int) from e]) (.bind (room2 hM _) ?_)
    by_cases h : (enc s.length ++ s).length ≤ M
    · rw [if_pos h]
      rw [List.length_append] at h
      exact .no (by simp [h]) (.of (fun k => by rw [wire_Writer_Text_2_j1_eq, u64_id (n := s.length) (by omega)]) (.bind (put (by omega) (b := []) (by simp)) (.yes (decide_eq_true (by show (([] ++ enc s.length : List UInt8).length + s.length) * 1 ≤ 140737488355328; simp only [List.nil_append]; omega)) .const)))
    · rw [if_neg h]
      rw [List.length_append] at h
      exact .yes (by simp; omega) .const
  · rw [if_neg (by rw [List.length_append]; omega)]
    exact .no (by simp; omega) .const
theorem text3 {M : Nat} (hM : M ≤ 65536) {b : List UInt8} (hb : b.length ≤ M) (s : List UInt8) (hs : s.length ≤ 140737488355328) : Ans (fun k => wire_Writer_Text_3 k s true (M : Int) b) (wres3 M b (enc s.length ++ s)) := by
  have h10 := enc_ten (n := s.length) (by omega)
  refine .succ (fun k => wire_Writer_Text_3_eq k s true M b) (.bind (none3 M b) (.of (fun k => wire_Writer_Text_3_j0_eq k s true M b _) (.no rfl ?_)))
  unfold wres3
  by_cases h1 : s.length ≤ M
  · refine .yes (by simp; omega) (.of (fun k => by rw [u64_id (n := s.length) (by omega)]) (.bind (size_ (by omega)) ?_))
    have e : IntKind.i64.wrap (((enc s.length).length : Int) + ((List.length s : Nat) : Int)) = (((enc s.length).length + s.length : Nat) : Int) := by rw [wrap_id (by omega) (by omega)]; omega
    refine .of (fun k => by rw [show IntKind.i64.wrap (((((enc s.length).length : Nat) : Int), ()).1 + ((List.length s : Nat) : Int)) = (((enc s.length).length + s.length : Nat) : Int) from e]) (.bind (room3 hM hb _) ?_)
    by_cases h : (enc s.length ++ s).length + b.length ≤ M
    · rw [if_pos h]
      rw [List.length_append] at h
      rw [← List.append_assoc]
      exact .no (by simp [h]) (.of (fun k => by rw [wire_Writer_Text_3_j1_eq, u64_id (n := s.length) (by omega)]) (.bind (put (by omega) (b := b) (by omega)) (.yes (decide_eq_true (by show ((b ++ enc s.length : List UInt8).length + s.length) * 1 ≤ 140737488355328; simp only [List.length_append]; omega)) .const)))
    · rw [if_neg h]
      rw [List.length_append] at h
      exact .yes (by simp; omega) .const
  · rw [if_neg (by rw [List.length_append]; omega)]
    exact .no (by simp; omega) .const
theorem done2 (M : Int) : Ans (fun k => wire_Writer_Done_2 k true M) (true, M, ([] : List UInt8), ()) :=
  .succ (fun k => wire_Writer_Done_2_eq k true M) (.bind (none2 M) (.no rfl (.of (fun k => wire_Writer_Done_2_j0_eq k true M _) (.yes rfl .const))))
theorem done3 (M : Int) {b : List UInt8} (hb : b.length ≤ 65536) : Ans (fun k => wire_Writer_Done_3 k true M b) (true, M, b, b, ()) :=
  .succ (fun k => wire_Writer_Done_3_eq k true M b) (.bind (none3 M b) (.no rfl (.of (fun k => wire_Writer_Done_3_j0_eq k true M b _) (.yes (decide_eq_true (by show b.length * 1 ≤ 140737488355328; omega)) .const))))
/-! ### What is read -/
theorem may_ok {c t : Nat} (h0 : 0 < t → c ≠ 0) (h9 : t = 9 → c ≤ 1) : Ans (fun k => vint_may k (c : Int) (t : Int)) (true, ()) := by
  have J : Ans (fun k => vint_may_j0 k (c : Int) (t : Int) false) (true, ()) := by
    refine .of (fun k => vint_may_j0_eq k c t false) (.no rfl ?_)
    by_cases h : t = 9
    · exact .yes (by subst h; rfl) (.no (decide_eq_false (by have := h9 h; omega)) .const)
    · exact .no (by simp; omega) .const
  refine .succ (fun k => vint_may_eq k c t) ?_
  by_cases ht : 0 < t
  · have e : (((c : Nat) : Int) == 0) = false := by have := h0 ht; simp; omega
    rw [e]
    exact .yes (by simp; omega) J
  · exact .no (by simp; omega) J
theorem get_loop (b post : List UInt8) (P : Nat) (hbl : b.length ≤ 140737488355328) (hP : P ≤ b.length) : ∀ (d m t a : Nat) (q : List UInt8), m < 128 ^ d → (0 < t → 0 < m) → a < 2 ^ (7 * t) → a + m * 2 ^ (7 * t) < 18446744073709551616 → b.drop P = q ++ enc m ++ post → q.length = t → t ≤ 9 →
    Ans2 (fun k n => vint_Get_l0 k n b (P : Int) P (a : Int) (t : Int)) (((a + m * 2 ^ (7 * t) : Nat) : Int), ((P + t + (enc m).length : Nat) : Int), 0, ()) := by
  intro d
  have len : ∀ (q : List UInt8) (m : Nat), b.drop P = q ++ enc m ++ post → b.length = P + q.length + (enc m).length + post.length := by
    intro q m h
    have := congrArg List.length h
    simp at this; omega
  have start : ∀ {m t a : Nat} {q : List UInt8} {x : UInt8} {r : List UInt8} {c : Nat} {res : Int × Int × Int × Unit}, enc m = x :: r → x.toNat = c → b.drop P = q ++ enc m ++ post → q.length = t → t ≤ 9 → (0 < t → c ≠ 0) → (t = 9 → c ≤ 1) →
      Ans2 (fun k n => bif ((IntKind.u8.wrap (((BitVec.ofInt (IntKind.u8).bits (c : Int) &&& BitVec.ofInt (IntKind.u8).bits 128).toNat : Int))) == 0) then vint_Get_j2 k b (P : Int) (IntKind.u64.wrap (((BitVec.ofInt (IntKind.u64).bits (a : Int) ||| BitVec.ofInt (IntKind.u64).bits (IntKind.u64.wrap ((IntKind.u64.wrap (IntKind.u8.wrap (((BitVec.ofInt (IntKind.u8).bits (c : Int) &&& BitVec.ofInt (IntKind.u8).bits 127).toNat : Int)))) * (2 ^ (min (Int.toNat (IntKind.i64.wrap (7 * (t : Int)))) (IntKind.u64).bits))))).toNat : Int))) (IntKind.i64.wrap ((IntKind.i64.wrap ((P : Int) + (t : Int))) + 1)) else (bif ((IntKind.i64.wrap ((IntKind.i64.wrap ((P : Int) + (t : Int))) + 1)) == ((List.length b : Nat) : Int)) then some (0, ((List.length b : Nat) : Int), 3, ()) else vint_Get_l0 k n b (P : Int) P (IntKind.u64.wrap (((BitVec.ofInt (IntKind.u64).bits (a : Int) ||| BitVec.ofInt (IntKind.u64).bits (IntKind.u64.wrap ((IntKind.u64.wrap (IntKind.u8.wrap (((BitVec.ofInt (IntKind.u8).bits (c : Int) &&& BitVec.ofInt (IntKind.u8).bits 127).toNat : Int)))) * (2 ^ (min (Int.toNat (IntKind.i64.wrap (7 * (t : Int)))) (IntKind.u64).bits))))).toNat : Int))) (IntKind.i64.wrap ((t : Int) + 1)))) res →
      Ans2 (fun k n => vint_Get_l0 k n b (P : Int) P (a : Int) (t : Int)) res := by
    intro m t a q x r c res he hx hb hq ht h0 h9 L
    have hl := len q m hb
    have hlt : decide ((t : Int) < ((List.length (List.drop P (List.take (List.length b) b)) : Nat) : Int)) = true := by
      rw [List.take_length, List.length_drop]
      have := enc_pos m
      exact decide_eq_true (by omega)
    have hidx : idx (List.drop P (List.take (List.length b) b)) (t : Int) = some x := by
      rw [List.take_length, hb, he]
      subst hq
      unfold idx
      rw [decide_eq_true (by omega), cond_true, Int.toNat_natCast]
      simp
    have h7 : decide (IntKind.i64.wrap (7 * (t : Int)) < 0) = false := by
      rw [wrap_id (by omega) (by omega)]; exact decide_eq_false (by omega)
    exact .succ (fun k n => by rw [vint_Get_l0_eq, hlt, cond_true, hidx, Option.bind_some, hx]) (.bind (may_ok h0 h9) (.no rfl (.no h7 L)))
  have last : ∀ (m t a : Nat) (q : List UInt8), m < 128 → (0 < t → 0 < m) → a < 2 ^ (7 * t) → a + m * 2 ^ (7 * t) < 18446744073709551616 → b.drop P = q ++ enc m ++ post → q.length = t → t ≤ 9 →
      Ans2 (fun k n => vint_Get_l0 k n b (P : Int) P (a : Int) (t : Int)) (((a + m * 2 ^ (7 * t) : Nat) : Int), ((P + t + (enc m).length : Nat) : Int), 0, ()) := by
    intro m t a q hm h0 ha hs hb hq ht
    have he := enc_lt hm
    have hl := len q m hb
    rw [he] at hl
    simp at hl
    have hx : (UInt8.ofNat m).toNat = m := by simp; omega
    refine start he hx hb hq ht (fun h => by have := h0 h; omega) (fun h => ?_) (.yes ?_ ?_)
    · subst h
      have : 2 ^ (7 * 9) = 9223372036854775808 := by decide
      rw [this] at hs; omega
    · rw [top8 (by omega), if_pos hm]; rfl
    · rw [low8 (by omega), Nat.mod_eq_of_lt hm, orIn ha hm ht hs]
      have e1 : IntKind.i64.wrap ((IntKind.i64.wrap ((P : Int) + (t : Int))) + 1) = ((P + t + (enc m).length : Nat) : Int) := by
        rw [he, wrap_id (n := (P : Int) + (t : Int)) (by omega) (by omega), wrap_id (by omega) (by omega)]; simp
      rw [e1]
      refine .of (fun k n => vint_Get_j2_eq k b P _ _) (.no ?_ .const)
      simp; omega
  induction d with
  | zero =>
    intro m t a q hm
    exact last m t a q (by simp at hm; omega)
  | succ d ih =>
    intro m t a q hm h0 ha hs hb hq ht
    by_cases h : m < 128
    · exact last m t a q h h0 ha hs hb hq ht
    · have he := enc_ge (n := m) (by omega)
      have hl := len q m hb
      rw [he] at hl
      simp at hl
      have hep := enc_pos (m / 128)
      have hd : m / 128 < 128 ^ d := by rw [Nat.div_lt_iff_lt_mul (by omega)]; rw [Nat.pow_succ] at hm; exact hm
      have hx : (UInt8.ofNat (m % 128 + 128)).toNat = m % 128 + 128 := by simp; omega
      have h9 : t ≠ 9 := fun e => by
        subst e
        have : 2 ^ (7 * 9) = 9223372036854775808 := by decide
        rw [this] at hs; omega
      have hpow : 2 ^ (7 * (t + 1)) = 128 * 2 ^ (7 * t) := by rw [Nat.mul_add, Nat.pow_add, Nat.mul_comm]
      have hsplit : m * 2 ^ (7 * t) = m % 128 * 2 ^ (7 * t) + m / 128 * 2 ^ (7 * (t + 1)) := by
        rw [hpow, ← Nat.mul_assoc, Nat.mul_comm (m / 128) 128, ← Nat.add_mul, Nat.mod_add_div]
      have hs' : a + m % 128 * 2 ^ (7 * t) + m / 128 * 2 ^ (7 * (t + 1)) < 18446744073709551616 := by omega
      have ha' : a + m % 128 * 2 ^ (7 * t) < 2 ^ (7 * (t + 1)) := by
        have h1 : m % 128 * 2 ^ (7 * t) ≤ 127 * 2 ^ (7 * t) := Nat.mul_le_mul_right _ (by omega)
        rw [hpow]; omega
      have L := ih (m / 128) (t + 1) (a + m % 128 * 2 ^ (7 * t)) (q ++ [UInt8.ofNat (m % 128 + 128)]) hd (fun _ => by omega) ha' hs' (by rw [hb, he]; simp) (by simp [hq]) (by omega)
      have er : (((a + m % 128 * 2 ^ (7 * t) + m / 128 * 2 ^ (7 * (t + 1)) : Nat) : Int), ((P + (t + 1) + (enc (m / 128)).length : Nat) : Int), (0 : Int), ()) = (((a + m * 2 ^ (7 * t) : Nat) : Int), ((P + t + (enc m).length : Nat) : Int), (0 : Int), ()) := by
        have e1 : a + m % 128 * 2 ^ (7 * t) + m / 128 * 2 ^ (7 * (t + 1)) = a + m * 2 ^ (7 * t) := by omega
        have e2 : P + (t + 1) + (enc (m / 128)).length = P + t + (enc m).length := by rw [he, List.length_cons]; omega
        rw [e1, e2]
      rw [er] at L
      refine start he hx hb hq ht (fun _ => by omega) (fun e => absurd e h9) (.no ?_ (.no ?_ ?_))
      · rw [top8 (by omega), if_neg (by omega)]; rfl
      · rw [wrap_id (n := (P : Int) + (t : Int)) (by omega) (by omega), wrap_id (by omega) (by omega)]
        simp; omega
      · rw [low8 (by omega), show (m % 128 + 128) % 128 = m % 128 by omega, orIn ha (by omega) ht (by omega), wrap_succ (m := 10) (by omega) (by omega)]
        exact L
theorem get_ (pre post : List UInt8) {m : Nat} (hm : m < 18446744073709551616) (hbl : (pre ++ enc m ++ post).length ≤ 140737488355328) : Ans (fun k => vint_Get k (pre ++ enc m ++ post) (pre.length : Int)) ((m : Int), ((pre.length + (enc m).length : Nat) : Int), 0, ()) := by
  have hp := enc_pos m
  have hl : (pre ++ enc m ++ post).length = pre.length + (enc m).length + post.length := by rw [List.length_append, List.length_append]
  have L := (get_loop (pre ++ enc m ++ post) post pre.length hbl (by omega) 10 m 0 0 [] (Nat.lt_of_lt_of_le hm (by decide)) (by omega) (by simp) (by simpa using hm) (by simp) rfl (by omega)).diag
  have er : ((((0 + m * 2 ^ (7 * 0) : Nat)) : Int), ((pre.length + 0 + (enc m).length : Nat) : Int), (0 : Int), ()) = ((m : Int), ((pre.length + (enc m).length : Nat) : Int), (0 : Int), ()) := by simp
  rw [er] at L
  generalize hB : pre ++ enc m ++ post = B at *
  have J1 : Ans (fun k => vint_Get_j1 k B (pre.length : Int)) ((m : Int), ((pre.length + (enc m).length : Nat) : Int), 0, ()) := by
    refine .of (fun k => vint_Get_j1_eq k B pre.length) (.bind (a := pre.length) (.of (fun k => bnd_le (by omega)) .const) L)
  refine .succ (fun k => vint_Get_eq k B pre.length) (.yes (by simp) ?_)
  rw [decide_eq_false (by omega)]
  exact .of (fun k => vint_Get_j0_eq k B pre.length false) (.no rfl J1)
theorem rnone2 (P : Int) (b : List UInt8) : Ans (fun k => wire_row_none_2 k true P b) (true, P, b, false, ()) := .succ (fun k => wire_row_none_2_eq k true P b) .const
theorem rnone3 (P : Int) (b : List UInt8) : Ans (fun k => wire_row_none_3 k true P b) (true, P, b, false, ()) := .succ (fun k => wire_row_none_3_eq k true P b) .const
theorem rlen1 (P : Int) (b : List UInt8) : Ans (fun k => wire_row_len k true P b) (true, P, b, ((List.length b : Nat) : Int), ()) := .succ (fun k => wire_row_len_eq k true P b) .const
theorem rlen2 (P : Int) (b : List UInt8) : Ans (fun k => wire_row_len_2 k true P b) (true, P, b, ((List.length b : Nat) : Int), ()) := .succ (fun k => wire_row_len_2_eq k true P b) .const
theorem take1 {b : List UInt8} {P most m e : Int} (hG : Ans (fun k => vint_Get k b P) (m, e, 0, ())) (hm : m ≤ most) : Ans (fun k => wire_Reader_take k most true P b) (Sum.inr (true, P, b, m, e, 0, ())) :=
  .succ (fun k => wire_Reader_take_eq k most true P b) (.bind (rnone2 P b) (.of (fun k => wire_Reader_take_j0_eq k most true P b _) (.no rfl (.of (fun k => wire_Reader_take_j1_eq k most true P b _) (.bind hG (.no rfl (.no (decide_eq_false (by show ¬ m > most; omega)) .const)))))))
theorem take2 {b : List UInt8} {P most m e : Int} (hG : Ans (fun k => vint_Get k b P) (m, e, 0, ())) (hm : m ≤ most) : Ans (fun k => wire_Reader_take_2 k most true P b) (true, P, b, m, e, 0, ()) :=
  .succ (fun k => wire_Reader_take_2_eq k most true P b) (.bind (rnone3 P b) (.of (fun k => wire_Reader_take_2_j0_eq k most true P b _) (.no rfl (.of (fun k => wire_Reader_take_2_j1_eq k most true P b _) (.bind hG (.no rfl (.no (decide_eq_false (by show ¬ m > most; omega)) .const)))))))
theorem rtext2 {b pre t post : List UInt8} {P : Nat} (hb : b = pre ++ t ++ post) (hl : b.length ≤ 140737488355328) (hG : Ans (fun k => vint_Get k b (P : Int)) ((t.length : Int), (pre.length : Int), 0, ())) : Ans (fun k => wire_Reader_Text_2 k (t.length : Int) true (P : Int) b) (true, ((pre.length + t.length : Nat) : Int), b, t, 0, ()) := by
  have hbl : b.length = pre.length + t.length + post.length := by rw [hb, List.length_append, List.length_append]
  have e0 : IntKind.u64.wrap (if 0 > ((List.length t : Nat) : Int) then 0 else ((List.length t : Nat) : Int)) = ((List.length t : Nat) : Int) := by
    rw [if_neg (by omega), u64_id (by omega)]
  have e1 : IntKind.i64.wrap (((pre.length : Nat) : Int) + (IntKind.i64.wrap ((List.length t : Nat) : Int))) = ((pre.length + t.length : Nat) : Int) := by
    rw [wrap_id (n := ((List.length t : Nat) : Int)) (by omega) (by omega), wrap_id (by omega) (by omega)]; omega
  have e2 : IntKind.u64.wrap (IntKind.i64.wrap (((List.length b : Nat) : Int) - ((pre.length : Nat) : Int))) = ((t.length + post.length : Nat) : Int) := by
    rw [wrap_id (by omega) (by omega), show ((List.length b : Nat) : Int) - ((pre.length : Nat) : Int) = ((t.length + post.length : Nat) : Int) by omega, u64_id (by omega)]
  have e3 : List.drop pre.length (List.take (pre.length + t.length) b) = t := by
    have : pre.length + t.length = (pre ++ t).length := by simp
    rw [hb, this, List.take_left, List.drop_left]
  refine .succ (fun k => by rw [wire_Reader_Text_2_eq, e0]) (.bind (take2 hG (Int.le_refl _)) (.no rfl (.no (decide_eq_false (show ¬ ((List.length t : Nat) : Int) < 0 by omega)) (.bind (rlen2 _ b) (.no (decide_eq_false ?_) ?_)))))
  · show ¬ ((List.length t : Nat) : Int) > IntKind.u64.wrap (IntKind.i64.wrap (((List.length b : Nat) : Int) - ((pre.length : Nat) : Int)))
    rw [e2]; omega
  · refine .bind (a := pre.length + t.length) (.of (fun k => by
      show bnd (.int .i64 (IntKind.i64.wrap (((pre.length : Nat) : Int) + (IntKind.i64.wrap ((List.length t : Nat) : Int))))) b.length = some (pre.length + t.length)
      rw [e1]; exact bnd_le (by omega)) .const) (.bind (a := pre.length) (.of (fun k => by
      show bnd (.int .i64 ((pre.length : Nat) : Int)) (pre.length + t.length) = some pre.length
      exact bnd_le (by omega)) .const) (.bind (a := pre.length + t.length) (.of (fun k => by
      show bnd (.int .i64 (IntKind.i64.wrap (((pre.length : Nat) : Int) + (IntKind.i64.wrap ((List.length t : Nat) : Int))))) b.length = some (pre.length + t.length)
      rw [e1]; exact bnd_le (by omega)) .const) (.yes (by simp) ?_)))
    show Ans (fun k => some (true, IntKind.i64.wrap (((pre.length : Nat) : Int) + (IntKind.i64.wrap ((List.length t : Nat) : Int))), b, List.drop pre.length (List.take (pre.length + t.length) b), 0, ())) _
    rw [e1, e3]
    exact .const
theorem end1 (b : List UInt8) : Ans (fun k => wire_Reader_End k true (b.length : Int) b) (true, (b.length : Int), b, 0, ()) :=
  .succ (fun k => wire_Reader_End_eq k true b.length b) (.bind (rnone2 _ b) (.of (fun k => wire_Reader_End_j0_eq k true b.length b _) (.no rfl (.bind (rlen1 _ b) (.no (by show (((List.length b : Nat) : Int) != ((List.length b : Nat) : Int)) = false; simp) .const)))))
theorem end2 (b : List UInt8) : Ans (fun k => wire_Reader_End_2 k true (b.length : Int) b) (true, (b.length : Int), b, 0, ()) :=
  .succ (fun k => wire_Reader_End_2_eq k true b.length b) (.bind (rnone3 _ b) (.of (fun k => wire_Reader_End_2_j0_eq k true b.length b _) (.no rfl (.bind (rlen2 _ b) (.no (by show (((List.length b : Nat) : Int) != ((List.length b : Nat) : Int)) = false; simp) .const)))))
/-! ### Whatever the bytes -/
def Inv (t a : Nat) (q : List UInt8) : Prop := a < 2 ^ (7 * t) ∧ ∀ m : Nat, (0 < t → 0 < m) → enc (a + m * 2 ^ (7 * t)) = q ++ enc m
theorem may_any (c t : Nat) : ∃ r : Bool, Ans (fun k => vint_may k (c : Int) (t : Int)) (r, ()) ∧ (r = true → (0 < t → c ≠ 0) ∧ (t = 9 → c ≤ 1)) := by
  by_cases h0 : 0 < t → c ≠ 0
  · by_cases h9 : t = 9 → c ≤ 1
    · exact ⟨true, may_ok h0 h9, fun _ => ⟨h0, h9⟩⟩
    · have ht : t = 9 := Decidable.byContradiction fun e => h9 fun e' => absurd e' e
      have hc : ¬ c ≤ 1 := fun e => h9 fun _ => e
      subst ht
      refine ⟨false, .succ (fun k => vint_may_eq k c _) (.yes rfl ?_), fun h => by cases h⟩
      have e : (((c : Nat) : Int) == 0) = false := by simp; omega
      rw [e]
      exact .of (fun k => vint_may_j0_eq k c _ false) (.no rfl (.yes rfl (.yes (decide_eq_true (by omega)) .const)))
  · have ht : 0 < t := Decidable.byContradiction fun e => h0 fun e' => absurd e' e
    have hc : c = 0 := Decidable.byContradiction fun e => h0 fun _ => e
    subst hc
    refine ⟨false, .succ (fun k => vint_may_eq k _ t) (.yes (by simp; omega) ?_), fun h => by cases h⟩
    exact .of (fun k => vint_may_j0_eq k _ t _) (.yes rfl .const)
/-- What is found: a fault, or a number's bytes. -/
def Found (b : List UInt8) (P : Nat) (r : Int × Int × Int × Unit) : Prop := r.2.2.1 ≠ 0 ∨ ∃ (m : Nat) (post : List UInt8), m < 18446744073709551616 ∧ b.drop P = enc m ++ post ∧ r = ((m : Int), ((P + (enc m).length : Nat) : Int), 0, ())
theorem inv_step {t a c : Nat} {q : List UInt8} (hI : Inv t a q) (hc : 128 ≤ c) (hc' : c < 256) : Inv (t + 1) (a + c % 128 * 2 ^ (7 * t)) (q ++ [UInt8.ofNat c]) := by
  obtain ⟨h1, h2⟩ := hI
  have hpow : 2 ^ (7 * (t + 1)) = 128 * 2 ^ (7 * t) := by rw [Nat.mul_add, Nat.pow_add, Nat.mul_comm]
  refine ⟨?_, fun m hm => ?_⟩
  · have : c % 128 * 2 ^ (7 * t) ≤ 127 * 2 ^ (7 * t) := Nat.mul_le_mul_right _ (by omega)
    rw [hpow]; omega
  · have hm := hm (by omega)
    have e : a + c % 128 * 2 ^ (7 * t) + m * 2 ^ (7 * (t + 1)) = a + (c % 128 + 128 * m) * 2 ^ (7 * t) := by
      rw [hpow, Nat.add_mul, ← Nat.mul_assoc, Nat.mul_comm m 128]; omega
    rw [e, h2 (c % 128 + 128 * m) (fun _ => by omega), enc_ge (by omega), show (c % 128 + 128 * m) % 128 + 128 = c by omega, show (c % 128 + 128 * m) / 128 = m by omega]
    simp
theorem get_any_loop (b : List UInt8) (P : Nat) (hbl : b.length ≤ 140737488355328) (hP : P < b.length) : ∀ (d t a : Nat) (q rest : List UInt8), t + d = 9 → Inv t a q → b.drop P = q ++ rest → q.length = t → 0 < rest.length →
    ∃ r, Ans2 (fun k n => vint_Get_l0 k n b (P : Int) P (a : Int) (t : Int)) r ∧ Found b P r := by
  intro d
  induction d with
  | zero =>
    intro t a q rest ht hI hb hq hr
    obtain ⟨x, rest, rfl⟩ : ∃ x r, rest = x :: r := by
      cases rest with
      | nil => simp at hr
      | cons x r => exact ⟨x, r, rfl⟩
    have hl : b.length = P + q.length + (rest.length + 1) := by
      have := congrArg List.length hb
      simp at this; omega
    have hlt : decide ((t : Int) < ((List.length (List.drop P (List.take (List.length b) b)) : Nat) : Int)) = true := by
      rw [List.take_length, List.length_drop]; exact decide_eq_true (by omega)
    have hidx : idx (List.drop P (List.take (List.length b) b)) (t : Int) = some x := by
      rw [List.take_length, hb]
      subst hq
      unfold idx
      rw [decide_eq_true (by omega), cond_true, Int.toNat_natCast]
      simp
    have h7 : decide (IntKind.i64.wrap (7 * (t : Int)) < 0) = false := by
      rw [wrap_id (by omega) (by omega)]; exact decide_eq_false (by omega)
    have hx8 := UInt8.toNat_lt x
    obtain ⟨v, hv, hv'⟩ := may_any x.toNat t
    cases v with
    | false => exact ⟨_, .succ (fun k n => by rw [vint_Get_l0_eq, hlt, cond_true, hidx, Option.bind_some]) (.bind hv (.yes rfl .const)), .inl (by simp)⟩
    | true =>
      obtain ⟨hm0, hm9⟩ := hv' rfl
      by_cases hc : x.toNat < 128
      · have hpow : a + x.toNat * 2 ^ (7 * t) < 18446744073709551616 := by
          by_cases h9 : t = 9
          · have := hm9 h9
            have h1 := hI.1
            subst h9
            have e : 2 ^ (7 * 9) = 9223372036854775808 := by decide
            rw [e] at h1 ⊢; omega
          · have h1 := hI.1
            have h2 : 2 ^ (7 * t) ≤ 2 ^ (7 * 8) := Nat.pow_le_pow_right (by omega) (by omega)
            have e : 2 ^ (7 * 8) = 72057594037927936 := by decide
            have h3 : x.toNat * 2 ^ (7 * t) ≤ 127 * 2 ^ (7 * t) := Nat.mul_le_mul_right _ (by omega)
            rw [e] at h2; omega
        have he : enc (a + x.toNat * 2 ^ (7 * t)) = q ++ [x] := by
          rw [hI.2 x.toNat (fun h => by have := hm0 h; omega), enc_lt hc]
          simp
        have e1 : IntKind.i64.wrap ((IntKind.i64.wrap ((P : Int) + (t : Int))) + 1) = ((P + (enc (a + x.toNat * 2 ^ (7 * t))).length : Nat) : Int) := by
          rw [he, wrap_id (n := (P : Int) + (t : Int)) (by omega) (by omega), wrap_id (by omega) (by omega)]
          simp only [List.length_append, List.length_cons, List.length_nil, hq]; omega
        refine ⟨(((a + x.toNat * 2 ^ (7 * t) : Nat) : Int), ((P + (enc (a + x.toNat * 2 ^ (7 * t))).length : Nat) : Int), 0, ()), .succ (fun k n => by rw [vint_Get_l0_eq, hlt, cond_true, hidx, Option.bind_some]) (.bind hv (.no rfl (.no h7 (.yes ?_ ?_)))), .inr ⟨_, rest, hpow, by rw [he, hb]; simp, rfl⟩⟩
        · rw [top8 (by omega), if_pos hc]; rfl
        · rw [low8 (by omega), Nat.mod_eq_of_lt hc, orIn hI.1 hc (by omega) hpow, e1]
          exact .of (fun k n => vint_Get_j2_eq k b P _ _) (.no (by simp; omega) .const)
      · exfalso
        have h9 : t = 9 := by omega
        have := hm9 h9
        omega
  | succ d ih =>
    intro t a q rest ht hI hb hq hr
    obtain ⟨x, rest, rfl⟩ : ∃ x r, rest = x :: r := by
      cases rest with
      | nil => simp at hr
      | cons x r => exact ⟨x, r, rfl⟩
    have hl : b.length = P + q.length + (rest.length + 1) := by
      have := congrArg List.length hb
      simp at this; omega
    have hlt : decide ((t : Int) < ((List.length (List.drop P (List.take (List.length b) b)) : Nat) : Int)) = true := by
      rw [List.take_length, List.length_drop]; exact decide_eq_true (by omega)
    have hidx : idx (List.drop P (List.take (List.length b) b)) (t : Int) = some x := by
      rw [List.take_length, hb]
      subst hq
      unfold idx
      rw [decide_eq_true (by omega), cond_true, Int.toNat_natCast]
      simp
    have h7 : decide (IntKind.i64.wrap (7 * (t : Int)) < 0) = false := by
      rw [wrap_id (by omega) (by omega)]; exact decide_eq_false (by omega)
    have hx8 := UInt8.toNat_lt x
    obtain ⟨v, hv, hv'⟩ := may_any x.toNat t
    cases v with
    | false => exact ⟨_, .succ (fun k n => by rw [vint_Get_l0_eq, hlt, cond_true, hidx, Option.bind_some]) (.bind hv (.yes rfl .const)), .inl (by simp)⟩
    | true =>
      obtain ⟨hm0, hm9⟩ := hv' rfl
      by_cases hc : x.toNat < 128
      · have hpow : a + x.toNat * 2 ^ (7 * t) < 18446744073709551616 := by
          by_cases h9 : t = 9
          · have := hm9 h9
            have h1 := hI.1
            subst h9
            have e : 2 ^ (7 * 9) = 9223372036854775808 := by decide
            rw [e] at h1 ⊢; omega
          · have h1 := hI.1
            have h2 : 2 ^ (7 * t) ≤ 2 ^ (7 * 8) := Nat.pow_le_pow_right (by omega) (by omega)
            have e : 2 ^ (7 * 8) = 72057594037927936 := by decide
            have h3 : x.toNat * 2 ^ (7 * t) ≤ 127 * 2 ^ (7 * t) := Nat.mul_le_mul_right _ (by omega)
            rw [e] at h2; omega
        have he : enc (a + x.toNat * 2 ^ (7 * t)) = q ++ [x] := by
          rw [hI.2 x.toNat (fun h => by have := hm0 h; omega), enc_lt hc]
          simp
        have e1 : IntKind.i64.wrap ((IntKind.i64.wrap ((P : Int) + (t : Int))) + 1) = ((P + (enc (a + x.toNat * 2 ^ (7 * t))).length : Nat) : Int) := by
          rw [he, wrap_id (n := (P : Int) + (t : Int)) (by omega) (by omega), wrap_id (by omega) (by omega)]
          simp only [List.length_append, List.length_cons, List.length_nil, hq]; omega
        refine ⟨(((a + x.toNat * 2 ^ (7 * t) : Nat) : Int), ((P + (enc (a + x.toNat * 2 ^ (7 * t))).length : Nat) : Int), 0, ()), .succ (fun k n => by rw [vint_Get_l0_eq, hlt, cond_true, hidx, Option.bind_some]) (.bind hv (.no rfl (.no h7 (.yes ?_ ?_)))), .inr ⟨_, rest, hpow, by rw [he, hb]; simp, rfl⟩⟩
        · rw [top8 (by omega), if_pos hc]; rfl
        · rw [low8 (by omega), Nat.mod_eq_of_lt hc, orIn hI.1 hc (by omega) hpow, e1]
          exact .of (fun k n => vint_Get_j2_eq k b P _ _) (.no (by simp; omega) .const)
      · have hI' := inv_step hI (c := x.toNat) (by omega) (by omega)
        rw [show UInt8.ofNat x.toNat = x by simp] at hI'
        have e2 : IntKind.i64.wrap ((IntKind.i64.wrap ((P : Int) + (t : Int))) + 1) = ((P + t + 1 : Nat) : Int) := by
          rw [wrap_id (n := (P : Int) + (t : Int)) (by omega) (by omega), wrap_id (by omega) (by omega)]; omega
        have hsum : a + x.toNat % 128 * 2 ^ (7 * t) < 18446744073709551616 := by
          have h1 := hI'.1
          have h2 : 2 ^ (7 * (t + 1)) ≤ 2 ^ (7 * 9) := Nat.pow_le_pow_right (by omega) (by omega)
          have e : 2 ^ (7 * 9) = 9223372036854775808 := by decide
          rw [e] at h2; omega
        have htop : ((IntKind.u8.wrap (((BitVec.ofInt (IntKind.u8).bits ((x.toNat : Nat) : Int) &&& BitVec.ofInt (IntKind.u8).bits 128).toNat : Int))) == 0) = false := by
          rw [top8 (by omega), if_neg (by omega)]; rfl
        by_cases hend : P + t + 1 = b.length
        · refine ⟨(0, ((List.length b : Nat) : Int), 3, ()), .succ (fun k n => by rw [vint_Get_l0_eq, hlt, cond_true, hidx, Option.bind_some]) (.bind hv (.no rfl (.no h7 (.no htop (.yes ?_ .const))))), .inl (by simp)⟩
          rw [e2, hend]; simp
        · obtain ⟨r, hr, hF⟩ := ih (t + 1) (a + x.toNat % 128 * 2 ^ (7 * t)) (q ++ [x]) rest (by omega) hI' (by rw [hb]; simp) (by simp [hq]) (by omega)
          refine ⟨r, .succ (fun k n => by rw [vint_Get_l0_eq, hlt, cond_true, hidx, Option.bind_some]) (.bind hv (.no rfl (.no h7 (.no htop (.no ?_ ?_))))), hF⟩
          · rw [e2]; simp; omega
          · rw [low8 (by omega), orIn hI.1 (by omega) (by omega) hsum, wrap_succ (m := 10) (by omega) (by omega)]
            exact hr
theorem get_any (b : List UInt8) (P : Nat) (hbl : b.length ≤ 140737488355328) (hP : P ≤ b.length) : ∃ r, Ans (fun k => vint_Get k b (P : Int)) r ∧ Found b P r := by
  have J : ∀ r, Ans (fun k => vint_Get_l0 k k b (P : Int) P 0 0) r → Ans (fun k => vint_Get k b (P : Int)) r := by
    intro r L
    have J1 : Ans (fun k => vint_Get_j1 k b (P : Int)) r := .of (fun k => vint_Get_j1_eq k b P) (.bind (a := P) (.of (fun k => bnd_le hP) .const) L)
    refine .succ (fun k => vint_Get_eq k b P) (.yes (by simp) ?_)
    rw [decide_eq_false (by omega)]
    exact .of (fun k => vint_Get_j0_eq k b P false) (.no rfl J1)
  by_cases hlt : P < b.length
  · obtain ⟨r, hr, hF⟩ := get_any_loop b P hbl hlt 9 0 0 [] (b.drop P) rfl ⟨by simp, fun m _ => by simp⟩ (by simp) rfl (by rw [List.length_drop]; omega)
    exact ⟨r, J r hr.diag, hF⟩
  · have e : P = b.length := by omega
    refine ⟨(0, ((List.length b : Nat) : Int), 3, ()), J _ ?_, .inl (by simp)⟩
    have L : Ans2 (fun k n => vint_Get_l0 k n b (P : Int) P 0 0) (0, ((List.length b : Nat) : Int), 3, ()) := by
      refine .succ (g := fun k n => vint_Get_j2 k b (P : Int) 0 ((List.length b : Nat) : Int)) (fun k n => ?_) (.of (fun k n => vint_Get_j2_eq k b P _ _) (.yes (by simp; omega) .const))
      rw [vint_Get_l0_eq, decide_eq_false (by rw [List.take_length, List.length_drop]; omega), cond_false]
    exact L.diag
end Go.Ev.HpMB
set_option linter.unusedVariables false
set_option linter.unusedSectionVars false
namespace Go.Ev.HpMB
/-! ### Names -/
theorem lower (r : Int) : ∃ b, Ans (fun k => word_isLower k r) (b, ()) := by
  by_cases h : r ≥ 97
  · exact ⟨_, .succ (fun k => word_isLower_eq k r) (.yes (by simp; omega) .const)⟩
  · exact ⟨_, .succ (fun k => word_isLower_eq k r) (.no (by simp; omega) .const)⟩
theorem digit (r : Int) : ∃ b, Ans (fun k => word_isDigit k r) (b, ()) := by
  by_cases h : r ≥ 48
  · exact ⟨_, .succ (fun k => word_isDigit_eq k r) (.yes (by simp; omega) .const)⟩
  · exact ⟨_, .succ (fun k => word_isDigit_eq k r) (.no (by simp; omega) .const)⟩
theorem isSign (r : Int) : ∃ b, Ans (fun k => word_isSign k r) (b, ()) := by
  obtain ⟨b1, h1⟩ := lower r
  obtain ⟨b2, h2⟩ := digit r
  cases b1 with
  | true => exact ⟨_, .succ (fun k => word_isSign_eq k r) (.bind h1 (.no rfl .const))⟩
  | false =>
    cases b2 with
    | true => exact ⟨_, .succ (fun k => word_isSign_eq k r) (.bind h1 (.yes rfl (.bind h2 (.no rfl .const))))⟩
    | false => exact ⟨_, .succ (fun k => word_isSign_eq k r) (.bind h1 (.yes rfl (.bind h2 (.yes rfl .const))))⟩
theorem name_loop (s : Bytes) : ∀ (d pos : Nat), List.length s ≤ pos + d → ∃ b, Ans2 (fun k n => word_Name_l0 k n s pos) (b, ()) ∧ (b = true → List.length s ≤ 32)
  | d, pos, hd => by
    by_cases hlt : pos < List.length s
    · match d, hd with
      | 0, hd => omega
      | d + 1, hd =>
        have hw := runeW_pos s pos
        obtain ⟨b, hb, hb'⟩ := name_loop s d (pos + runeW s pos) (by omega)
        obtain ⟨b1, h1⟩ := isSign ((runeC s pos : Nat) : Int)
        obtain ⟨b2, h2⟩ := lower ((runeC s pos : Nat) : Int)
        have L : ∀ {r}, Ans2 (fun k n => (word_isSign k ((runeC s pos : Nat) : Int)).bind fun r => (bif ((!r.1) == false) then (bif ((((pos : Nat) : Int) == 0) == true) then ((word_isLower k ((runeC s pos : Nat) : Int)).bind fun r1 => (bif (!r1.1) then some (false, ()) else word_Name_l0 k n s (pos + runeW s pos))) else word_Name_l0 k n s (pos + runeW s pos)) else some (false, ()))) r → Ans2 (fun k n => word_Name_l0 k n s pos) r :=
          fun h => .succ (fun k n => word_Name_l0_eq k n s pos) (.yes (decide_eq_true hlt) h)
        cases b1 with
        | false => exact ⟨false, L (.bind h1 (.no rfl .const)), by simp⟩
        | true =>
          by_cases h0 : pos = 0
          · have e0 : ((((pos : Nat) : Int) == 0) == true) = true := by simp [h0]
            cases b2 with
            | false => exact ⟨false, L (.bind h1 (.yes rfl (.yes e0 (.bind h2 (.yes rfl .const))))), by simp⟩
            | true => exact ⟨b, L (.bind h1 (.yes rfl (.yes e0 (.bind h2 (.no rfl hb))))), hb'⟩
          · have e0 : ((((pos : Nat) : Int) == 0) == true) = false := by simp; omega
            exact ⟨b, L (.bind h1 (.yes rfl (.no e0 hb))), hb'⟩
    · have L : ∀ {r}, Ans2 (fun _ _ => (bif ((!(s == ([] : Bytes))) == true) then some (decide (((List.length s : Nat) : Int) ≤ 32), ()) else some (false, ()))) r → Ans2 (fun k n => word_Name_l0 k n s pos) r :=
        fun h => .succ (fun k n => word_Name_l0_eq k n s pos) (.no (decide_eq_false hlt) h)
      cases hc : ((!(s == ([] : Bytes))) == true) with
      | true => exact ⟨_, L (.yes hc .const), fun h => by have := of_decide_eq_true h; omega⟩
      | false => exact ⟨_, L (.no hc .const), by simp⟩
theorem name_ (s : Bytes) : ∃ b, Ans (fun k => word_Name k s) (b, ()) ∧ (b = true → List.length s ≤ 32) := by
  obtain ⟨b, h, h'⟩ := name_loop s (List.length s) 0 (by omega)
  exact ⟨b, .succ (fun k => word_Name_eq k s) h.diag, h'⟩
theorem split_at {b x post : List UInt8} {P : Nat} (hP : P ≤ b.length) (hb : b.drop P = x ++ post) : b = b.take P ++ x ++ post ∧ (b.take P).length = P ∧ P + x.length ≤ b.length := by
  refine ⟨?_, by rw [List.length_take]; omega, ?_⟩
  · rw [List.append_assoc, ← hb, List.take_append_drop]
  · have := congrArg List.length hb
    rw [List.length_drop, List.length_append] at this; omega
theorem drop_at {b x post : List UInt8} {P : Nat} (hb : b.drop P = x ++ post) : b.drop (P + x.length) = post := by
  rw [← List.drop_drop, hb, List.drop_left]
theorem get_at {b post : List UInt8} {P m : Nat} (hbl : b.length ≤ 140737488355328) (hP : P ≤ b.length) (hm : m < 18446744073709551616) (hb : b.drop P = enc m ++ post) : Ans (fun k => vint_Get k b (P : Int)) ((m : Int), ((P + (enc m).length : Nat) : Int), 0, ()) := by
  obtain ⟨h1, h2, _⟩ := split_at hP hb
  have G := get_ (b.take P) post hm (by rw [← h1]; exact hbl)
  rw [← h1, h2] at G
  exact G
/-! ### Numbers -/
theorem tkf1 {b : List UInt8} {P most : Int} {r : Int × Int × Int × Unit} (hG : Ans (fun k => vint_Get k b P) r) (he : r.2.2.1 ≠ 0) : Ans (fun k => wire_Reader_take k most true P b) (Sum.inr (true, P, b, 0, 0, r.2.2.1, ())) :=
  .succ (fun k => wire_Reader_take_eq k most true P b) (.bind (rnone2 P b) (.of (fun k => wire_Reader_take_j0_eq k most true P b _) (.no rfl (.of (fun k => wire_Reader_take_j1_eq k most true P b _) (.bind hG (.yes (by show (r.2.2.1 != 0) = true; simpa using he) .const))))))
theorem tkf2 {b : List UInt8} {P most : Int} {r : Int × Int × Int × Unit} (hG : Ans (fun k => vint_Get k b P) r) (he : r.2.2.1 ≠ 0) : Ans (fun k => wire_Reader_take_2 k most true P b) (true, P, b, 0, 0, r.2.2.1, ()) :=
  .succ (fun k => wire_Reader_take_2_eq k most true P b) (.bind (rnone3 P b) (.of (fun k => wire_Reader_take_2_j0_eq k most true P b _) (.no rfl (.of (fun k => wire_Reader_take_2_j1_eq k most true P b _) (.bind hG (.yes (by show (r.2.2.1 != 0) = true; simpa using he) .const))))))
theorem tkg1 {b : List UInt8} {P most m e : Int} (hG : Ans (fun k => vint_Get k b P) (m, e, 0, ())) (hm : ¬ m ≤ most) : Ans (fun k => wire_Reader_take k most true P b) (Sum.inr (true, P, b, 0, 0, 4, ())) :=
  .succ (fun k => wire_Reader_take_eq k most true P b) (.bind (rnone2 P b) (.of (fun k => wire_Reader_take_j0_eq k most true P b _) (.no rfl (.of (fun k => wire_Reader_take_j1_eq k most true P b _) (.bind hG (.no rfl (.yes (decide_eq_true (by show m > most; omega)) .const)))))))
theorem tkg2 {b : List UInt8} {P most m e : Int} (hG : Ans (fun k => vint_Get k b P) (m, e, 0, ())) (hm : ¬ m ≤ most) : Ans (fun k => wire_Reader_take_2 k most true P b) (true, P, b, 0, 0, 4, ()) :=
  .succ (fun k => wire_Reader_take_2_eq k most true P b) (.bind (rnone3 P b) (.of (fun k => wire_Reader_take_2_j0_eq k most true P b _) (.no rfl (.of (fun k => wire_Reader_take_2_j1_eq k most true P b _) (.bind hG (.no rfl (.yes (decide_eq_true (by show m > most; omega)) .const)))))))
theorem num1_known {b post : List UInt8} {P m most : Nat} (hbl : b.length ≤ 140737488355328) (hP : P ≤ b.length) (hm : m ≤ most) (h64 : m < 18446744073709551616) (hb : b.drop P = enc m ++ post) : Ans (fun k => wire_Reader_Num k (most : Int) true (P : Int) b) (Sum.inr (true, ((P + (enc m).length : Nat) : Int), b, (m : Int), 0, ())) :=
  .succ (fun k => wire_Reader_Num_eq k most true P b) (.elimR (take1 (get_at hbl hP h64 hb) (by omega)) (.yes rfl (.of (fun k => wire_Reader_Num_j1_eq k most true P b _ _) .const)))
theorem num1_fault {b : List UInt8} {P e most : Int} (he : e ≠ 0) (h : Ans (fun k => wire_Reader_take k most true P b) (Sum.inr (true, P, b, 0, 0, e, ()))) : Ans (fun k => wire_Reader_Num k most true P b) (Sum.inr (true, P, b, 0, e, ())) :=
  .succ (fun k => wire_Reader_Num_eq k most true P b) (.elimR h (.no (by show (e == 0) = false; simpa using he) (.of (fun k => wire_Reader_Num_j1_eq k most true P b _ _) .const)))
theorem num1_any (b : List UInt8) (P most : Nat) (hbl : b.length ≤ 140737488355328) (hP : P ≤ b.length) : (∃ e, e ≠ 0 ∧ Ans (fun k => wire_Reader_Num k (most : Int) true (P : Int) b) (Sum.inr (true, (P : Int), b, 0, e, ()))) ∨
    ∃ (m : Nat) (post : List UInt8), m ≤ most ∧ b.drop P = enc m ++ post ∧ Ans (fun k => wire_Reader_Num k (most : Int) true (P : Int) b) (Sum.inr (true, ((P + (enc m).length : Nat) : Int), b, (m : Int), 0, ())) := by
  obtain ⟨r, hr, hF⟩ := get_any b P hbl hP
  rcases hF with he | ⟨m, post, hm, hb, rfl⟩
  · exact .inl ⟨_, he, num1_fault he (tkf1 hr he)⟩
  · by_cases h16 : m ≤ most
    · exact .inr ⟨m, post, h16, hb, num1_known hbl hP h16 hm hb⟩
    · exact .inl ⟨4, by decide, num1_fault (by decide) (tkg1 hr (by omega))⟩
theorem num_known {b post : List UInt8} {P m most : Nat} (hbl : b.length ≤ 140737488355328) (hP : P ≤ b.length) (hm : m ≤ most) (h64 : m < 18446744073709551616) (hb : b.drop P = enc m ++ post) : Ans (fun k => wire_Reader_Num_2 k (most : Int) true (P : Int) b) (true, ((P + (enc m).length : Nat) : Int), b, (m : Int), 0, ()) :=
  .succ (fun k => wire_Reader_Num_2_eq k most true P b) (.bind (take2 (get_at hbl hP h64 hb) (by omega)) (.yes rfl (.of (fun k => wire_Reader_Num_2_j0_eq k most true P b _ _) .const)))
theorem num_fault {b : List UInt8} {P e most : Int} (he : e ≠ 0) (h : Ans (fun k => wire_Reader_take_2 k most true P b) (true, P, b, 0, 0, e, ())) : Ans (fun k => wire_Reader_Num_2 k most true P b) (true, P, b, 0, e, ()) :=
  .succ (fun k => wire_Reader_Num_2_eq k most true P b) (.bind h (.no (by show (e == 0) = false; simpa using he) (.of (fun k => wire_Reader_Num_2_j0_eq k most true P b _ _) .const)))
theorem num_any (b : List UInt8) (P most : Nat) (hbl : b.length ≤ 140737488355328) (hP : P ≤ b.length) : (∃ e, e ≠ 0 ∧ Ans (fun k => wire_Reader_Num_2 k (most : Int) true (P : Int) b) (true, (P : Int), b, 0, e, ())) ∨
    ∃ (m : Nat) (post : List UInt8), m ≤ most ∧ b.drop P = enc m ++ post ∧ Ans (fun k => wire_Reader_Num_2 k (most : Int) true (P : Int) b) (true, ((P + (enc m).length : Nat) : Int), b, (m : Int), 0, ()) := by
  obtain ⟨r, hr, hF⟩ := get_any b P hbl hP
  rcases hF with he | ⟨m, post, hm, hb, rfl⟩
  · exact .inl ⟨_, he, num_fault he (tkf2 hr he)⟩
  · by_cases h16 : m ≤ most
    · exact .inr ⟨m, post, h16, hb, num_known hbl hP h16 hm hb⟩
    · exact .inl ⟨4, by decide, num_fault (by decide) (tkg2 hr (by omega))⟩
def encT (t : List UInt8) : List UInt8 := enc t.length ++ t
/-! ### Texts -/
theorem text_good2 {b t post : List UInt8} {P : Nat} (hbl : b.length ≤ 140737488355328) (hP : P ≤ b.length) (ht : t.length ≤ 32) (hb : b.drop P = encT t ++ post) : Ans (fun k => wire_Reader_Text_2 k 32 true (P : Int) b) ((true, ((P + (encT t).length : Nat) : Int), b, t, 0, ())) := by
  unfold encT at hb ⊢
  rw [List.append_assoc] at hb
  have hG := get_at hbl hP (by omega) hb
  obtain ⟨h1, h2, h3⟩ := split_at hP hb
  have hbl2 : b.length = P + (enc t.length).length + (t.length + post.length) := by
    have := congrArg List.length hb
    rw [List.length_drop, List.length_append, List.length_append] at this; omega
  have hd : b.drop (P + (enc t.length).length) = t ++ post := drop_at hb
  have e0 : IntKind.u64.wrap (if 0 > (32 : Int) then 0 else 32) = 32 := by decide
  generalize hE : P + (enc t.length).length = E at *
  have e1 : IntKind.i64.wrap ((E : Int) + (IntKind.i64.wrap ((List.length t : Nat) : Int))) = ((E + t.length : Nat) : Int) := by
    rw [wrap_id (n := ((List.length t : Nat) : Int)) (by omega) (by omega), wrap_id (by omega) (by omega)]; omega
  have e2 : IntKind.u64.wrap (IntKind.i64.wrap (((List.length b : Nat) : Int) - (E : Int))) = ((t.length + post.length : Nat) : Int) := by
    rw [wrap_id (by omega) (by omega), show ((List.length b : Nat) : Int) - (E : Int) = ((t.length + post.length : Nat) : Int) by omega, u64_id (by omega)]
  have e3 : List.drop E (List.take (E + t.length) b) = t := by
    rw [← List.take_drop, hd, List.take_left]
  have e4 : P + ((enc t.length).length + t.length) = E + t.length := by omega
  rw [show (enc t.length ++ t).length = (enc t.length).length + t.length from List.length_append, e4]
  refine .succ (fun k => by rw [wire_Reader_Text_2_eq, e0]) (.bind (take2 hG (by omega)) (.no rfl (.no rfl (.bind (rlen2 _ b) (.no (decide_eq_false ?_) ?_)))))
  · show ¬ ((List.length t : Nat) : Int) > IntKind.u64.wrap (IntKind.i64.wrap (((List.length b : Nat) : Int) - (E : Int)))
    rw [e2]; omega
  · refine .bind (a := E + t.length) (.of (fun k => by
      show bnd (.int .i64 (IntKind.i64.wrap ((E : Int) + (IntKind.i64.wrap ((List.length t : Nat) : Int))))) b.length = some (E + t.length)
      rw [e1]; exact bnd_le (by omega)) .const) (.bind (a := E) (.of (fun k => by
      show bnd (.int .i64 (E : Int)) (E + t.length) = some E
      exact bnd_le (by omega)) .const) (.bind (a := E + t.length) (.of (fun k => by
      show bnd (.int .i64 (IntKind.i64.wrap ((E : Int) + (IntKind.i64.wrap ((List.length t : Nat) : Int))))) b.length = some (E + t.length)
      rw [e1]; exact bnd_le (by omega)) .const) (.yes (by simp) ?_)))
    show Ans (fun k => some ((true, IntKind.i64.wrap ((E : Int) + (IntKind.i64.wrap ((List.length t : Nat) : Int))), b, List.drop E (List.take (E + t.length) b), 0, ()))) _
    rw [e1, e3]
    exact .const
theorem text_fault2 {b : List UInt8} {P e : Int} (he : e ≠ 0) (h : Ans (fun k => wire_Reader_take_2 k 32 true P b) ((true, P, b, 0, 0, e, ()))) : Ans (fun k => wire_Reader_Text_2 k 32 true P b) ((true, P, b, [], e, ())) := by
  have e0 : IntKind.u64.wrap (if 0 > (32 : Int) then 0 else 32) = 32 := by decide
  exact .succ (fun k => by rw [wire_Reader_Text_2_eq, e0]) (.bind h (.yes (by show (e != 0) = true; simpa using he) .const))
theorem text_any2 (b : List UInt8) (P : Nat) (hbl : b.length ≤ 140737488355328) (hP : P ≤ b.length) : (∃ e P', e ≠ 0 ∧ Ans (fun k => wire_Reader_Text_2 k 32 true (P : Int) b) ((true, P', b, [], e, ()))) ∨
    ∃ (t post : List UInt8), t.length ≤ 32 ∧ b.drop P = encT t ++ post ∧ Ans (fun k => wire_Reader_Text_2 k 32 true (P : Int) b) ((true, ((P + (encT t).length : Nat) : Int), b, t, 0, ())) := by
  obtain ⟨r, hr, hF⟩ := get_any b P hbl hP
  rcases hF with he | ⟨m, post, hm, hb, rfl⟩
  · exact .inl ⟨_, _, he, text_fault2 he (tkf2 hr he)⟩
  · by_cases h32 : m ≤ 32
    · by_cases hl : m ≤ post.length
      · have hb' : b.drop P = encT (post.take m) ++ post.drop m := by
          rw [hb]; unfold encT
          rw [List.length_take, Nat.min_eq_left hl, List.append_assoc, List.take_append_drop]
        have ht : (post.take m).length ≤ 32 := by rw [List.length_take]; omega
        exact .inr ⟨post.take m, post.drop m, ht, hb', text_good2 hbl hP ht hb'⟩
      · refine .inl ⟨3, (P : Int), by decide, ?_⟩
        have e0 : IntKind.u64.wrap (if 0 > (32 : Int) then 0 else 32) = 32 := by decide
        have hlen : b.length = P + (enc m).length + post.length := by
          have := congrArg List.length hb
          rw [List.length_drop, List.length_append] at this; omega
        refine .succ (fun k => by rw [wire_Reader_Text_2_eq, e0]) (.bind (take2 hr (by omega)) (.no rfl (.no rfl (.bind (rlen2 _ b) (.yes (decide_eq_true ?_) .const)))))
        show ((m : Nat) : Int) > IntKind.u64.wrap (IntKind.i64.wrap (((List.length b : Nat) : Int) - ((P + (enc m).length : Nat) : Int)))
        rw [wrap_id (by omega) (by omega), show ((List.length b : Nat) : Int) - ((P + (enc m).length : Nat) : Int) = (post.length : Int) by omega, u64_id (by omega)]
        omega
    · exact .inl ⟨4, _, by decide, text_fault2 (by decide) (tkg2 hr (by omega))⟩
end Go.Ev.HpMB
set_option linter.unusedVariables false
set_option linter.unusedSectionVars false
namespace Go.Ev.HpMB
theorem Ans3.succ2 {α : Type} {r : α} {f g : Nat → Nat → Nat → Option α} (h : ∀ k m n, f (k + 1) m (n + 1) = g k m n) (hg : Ans3 g r) : Ans3 f r := by
  obtain ⟨N, hN⟩ := hg
  refine ⟨N + 1, fun k m n hk hm hn => ?_⟩
  obtain ⟨j, rfl⟩ : ∃ j, n = j + 1 := ⟨n - 1, by omega⟩
  obtain ⟨i, rfl⟩ : ∃ i, k = i + 1 := ⟨k - 1, by omega⟩
  rw [h]; exact hN i m j (by omega) (by omega) (by omega)
theorem Ans3.up {α : Type} {r : α} {f : Nat → Nat → Nat → Option α} (h : Ans3 f r) : Ans3 (fun k m n => f (k + 1) m n) r := by
  obtain ⟨N, hN⟩ := h
  exact ⟨N, fun k m n hk hm hn => hN (k + 1) m n (by omega) hm hn⟩
/-! ### Sums: that there is one -/
theorem step (bit s : Int) : ∃ s', Ans (fun k => frame_More_1 k bit s) (s', ()) := by
  cases h : ((IntKind.u32.wrap (((BitVec.ofInt (IntKind.u32).bits (IntKind.u32.wrap (((BitVec.ofInt (IntKind.u32).bits s &&& BitVec.ofInt (IntKind.u32).bits 1).toNat : Int))) ^^^ BitVec.ofInt (IntKind.u32).bits bit).toNat : Int))) == 1) with
  | true => exact ⟨_, .succ (fun k => frame_More_1_eq k bit s) (.yes h .const)⟩
  | false => exact ⟨_, .succ (fun k => frame_More_1_eq k bit s) (.no h .const)⟩
theorem bits8 (b : List UInt8) (o1 : Int) (d : UInt8) (i : Nat) (hi : i < 9000000000000) (L : ∀ s, ∃ r, Ans2 (fun k n => frame_bits_1_l0 k n b o1 ((i + 1 : Nat) : Int) s) (b, r, ())) : ∀ (e t : Nat) (s : Int), t + e = 8 →
    ∃ r, Ans3 (fun k m n => frame_bits_1_l1 k m n b o1 d (i : Int) (t : Int) s) (b, r, ()) := by
  intro e
  induction e with
  | zero =>
    intro t s ht
    obtain ⟨r, hr⟩ := L s
    exact ⟨r, Ans3.succ2 (fun k m n => by rw [frame_bits_1_l1_eq, wrap_succ (m := 9000000000001) (i := i) (by omega) (by omega)]) (.no (decide_eq_false (by omega)) (Ans3.up (f := fun k m _ => frame_bits_1_l0 k m b o1 ((i + 1 : Nat) : Int) s) hr.three))⟩
  | succ e ih =>
    intro t s ht
    obtain ⟨s', hs⟩ := step (IntKind.u32.wrap (((BitVec.ofInt (IntKind.u32).bits (Int.fdiv (IntKind.u32.wrap ((d).toNat : Int)) (2 ^ (min (Int.toNat (t : Int)) (IntKind.u32).bits))) &&& BitVec.ofInt (IntKind.u32).bits 1).toNat : Int))) s
    obtain ⟨r, hr⟩ := ih (t + 1) s' (by omega)
    exact ⟨r, Ans3.succ2 (fun k m n => by rw [frame_bits_1_l1_eq, wrap_succ (m := 9) (i := t) (by omega) (by omega)]) (.yes (decide_eq_true (by omega)) (.no (decide_eq_false (by omega)) (.bind hs (Ans3.up hr))))⟩
theorem bytes_loop (b : List UInt8) (o1 : Int) (hb : b.length ≤ 8000000000000) : ∀ (d i : Nat) (s : Int), i + d = b.length → ∃ r, Ans2 (fun k n => frame_bits_1_l0 k n b o1 (i : Int) s) (b, r, ()) := by
  intro d
  induction d with
  | zero =>
    intro i s hi
    exact ⟨s, .succ (fun k n => frame_bits_1_l0_eq k n b o1 i s) (.no (nlt_nat (by omega)) .const)⟩
  | succ d ih =>
    intro i s hi
    have hlt : i < b.length := by omega
    obtain ⟨r, hr⟩ := bits8 b o1 b[i] i (by omega) (fun s => ih (i + 1) s (by omega)) 8 0 s rfl
    exact ⟨r, .succ (fun k n => frame_bits_1_l0_eq k n b o1 i s) (.yes (lt_nat hlt) (.bind (idxA hlt) hr.diag))⟩
theorem sum_ex (b : List UInt8) (hb : b.length ≤ 8000000000000) : ∃ c : Nat, c < 4294967296 ∧ Ans (fun k => frame_Sum k b) ((c : Int), ()) := by
  obtain ⟨r, hr⟩ := bytes_loop b (IntKind.u32.wrap (((BitVec.ofInt (IntKind.u32).bits 0 ^^^ BitVec.ofInt (IntKind.u32).bits 4294967295).toNat : Int))) hb b.length 0 (IntKind.u32.wrap (((BitVec.ofInt (IntKind.u32).bits 0 ^^^ BitVec.ofInt (IntKind.u32).bits 4294967295).toNat : Int))) (by omega)
  obtain ⟨c, hc, e⟩ := u32_rng (((BitVec.ofInt (IntKind.u32).bits r ^^^ BitVec.ofInt (IntKind.u32).bits 4294967295).toNat : Int))
  refine ⟨c, hc, .succ (fun k => frame_Sum_eq k b) (.bind (a := ((c : Int), ())) (.succ (fun k => frame_More_eq k 0 b) (.bind (.succ (fun k => frame_bits_eq k b) .const) (.bind (.succ (fun k => frame_bits_1_eq k _ _) hr.diag) ?_))) .const)⟩
  show Ans (fun k => some (IntKind.u32.wrap (((BitVec.ofInt (IntKind.u32).bits r ^^^ BitVec.ofInt (IntKind.u32).bits 4294967295).toNat : Int)), ())) _
  rw [e]; exact .const
open Classical in
noncomputable def sumOf (b : List UInt8) : Nat := if h : b.length ≤ 8000000000000 then Classical.choose (sum_ex b h) else 0
theorem sumOf_lt (b : List UInt8) : sumOf b < 4294967296 := by
  unfold sumOf
  split
  · rename_i h; exact (Classical.choose_spec (sum_ex b h)).1
  · omega
theorem sum_ (b : List UInt8) (h : b.length ≤ 8000000000000) : Ans (fun k => frame_Sum k b) ((sumOf b : Int), ()) := by
  have := (Classical.choose_spec (sum_ex b h)).2
  unfold sumOf
  rw [dif_pos h]; exact this
/-! ### Frames -/
def bodyOf' (x : List UInt8) : List UInt8 := enc x.length ++ x
noncomputable def frameOf (x : List UInt8) : List UInt8 := bodyOf' x ++ le4 (sumOf (bodyOf' x))
theorem wrap_loop (b : List UInt8) (c : Nat) (hc : c < 4294967296) (out : List UInt8) (ho : out.length ≤ 100000) : Ans2 (fun k n => frame_Wrap_l0 k n b ((c : Int), ()) 0 out) (out ++ le4 c, 0, ()) := by
  have B : ∀ (i : Nat), i < 4 → (UInt8.ofNat (Int.toNat (IntKind.u8.wrap (Int.fdiv (c : Int) (2 ^ (min (Int.toNat (IntKind.i64.wrap (8 * (i : Int)))) (IntKind.u32).bits)))))) = UInt8.ofNat (c / 2 ^ (8 * i) % 256) := by
    intro i hi
    have e : IntKind.i64.wrap (8 * (i : Int)) = ((8 * i : Nat) : Int) := by rw [wrap_id (by omega) (by omega)]; omega
    rw [e]; exact byteW hc (by omega)
  have S : ∀ (i : Nat) (o : List UInt8) {r}, i < 4 → o.length ≤ 100010 → Ans2 (fun k n => frame_Wrap_l0 k n b ((c : Int), ()) ((i + 1 : Nat) : Int) (o ++ [UInt8.ofNat (c / 2 ^ (8 * i) % 256)])) r → Ans2 (fun k n => frame_Wrap_l0 k n b ((c : Int), ()) (i : Int) o) r := by
    intro i o r hi ho h
    have e : IntKind.i64.wrap (8 * (i : Int)) = ((8 * i : Nat) : Int) := by rw [wrap_id (by omega) (by omega)]; omega
    refine .succ (fun k n => by rw [frame_Wrap_l0_eq, wrap_succ (m := 5) (i := i) (by omega) (by omega), B i hi, e]) (.yes (decide_eq_true (by omega)) (.no (decide_eq_false (by omega)) (.yes (decide_eq_true ?_) h)))
    show (o.length + 1) * 1 ≤ 140737488355328
    omega
  refine S 0 out (by omega) (by omega) (S 1 _ (by omega) (by simp; omega) (S 2 _ (by omega) (by simp; omega) (S 3 _ (by omega) (by simp; omega) ?_)))
  have e : out ++ [UInt8.ofNat (c / 2 ^ (8 * 0) % 256)] ++ [UInt8.ofNat (c / 2 ^ (8 * 1) % 256)] ++ [UInt8.ofNat (c / 2 ^ (8 * 2) % 256)] ++ [UInt8.ofNat (c / 2 ^ (8 * 3) % 256)] = out ++ le4 c := by
    simp [le4]
  rw [e]
  exact .succ (fun k n => frame_Wrap_l0_eq k n b _ _ _) (.no (decide_eq_false (by omega)) .const)
theorem wrap_ {x : List UInt8} (hx : x.length ≤ 65536) : Ans (fun k => frame_Wrap k x) (frameOf x, 0, ()) := by
  have h10 := enc_ten (n := x.length) (by omega)
  have hp := put (n := x.length) (by omega) (b := []) (by simp)
  have hs := sum_ (bodyOf' x) (by unfold bodyOf'; rw [List.length_append]; omega)
  have L := wrap_loop x (sumOf (bodyOf' x)) (sumOf_lt _) (bodyOf' x) (by unfold bodyOf'; rw [List.length_append]; omega)
  refine .succ (fun k => by rw [frame_Wrap_eq, u64_id (n := List.length x) (by omega)]) (.no (decide_eq_false (by omega)) (.bind hp (.yes (decide_eq_true ?_) (.bind hs L.diag))))
  show (([] ++ enc x.length : List UInt8).length + x.length) * 1 ≤ 140737488355328
  rw [List.nil_append]; omega
theorem told_ {a b c d : UInt8} {r : List UInt8} : Ans (fun k => frame_told k (a :: b :: c :: d :: r)) ((((d.toNat * 256 + c.toNat) * 256 + b.toNat) * 256 + a.toNat : Nat), ()) := by
  have ha := UInt8.toNat_lt a
  have hb := UInt8.toNat_lt b
  have hc := UInt8.toNat_lt c
  have hd := UInt8.toNat_lt d
  have S : ∀ (i : Nat) (s : Nat) (x : UInt8) {res}, (h : i < (a :: b :: c :: d :: r).length) → (a :: b :: c :: d :: r)[i] = x → i < 4 → s < 16777216 → Ans2 (fun k n => frame_told_l0 k n (a :: b :: c :: d :: r) ((s * 256 + x.toNat : Nat) : Int) ((i : Int) - 1)) res → Ans2 (fun k n => frame_told_l0 k n (a :: b :: c :: d :: r) (s : Int) (i : Int)) res := by
    intro i s x res h hx hi hs L
    have hx8 := UInt8.toNat_lt x
    refine .succ (fun k n => frame_told_l0_eq k n _ s i) (.yes (decide_eq_true (by omega)) (.bind (idxA h) ?_))
    rw [hx]
    refine .of (fun k n => ?_) L
    show frame_told_l0 k n _ (IntKind.u32.wrap (((BitVec.ofInt (IntKind.u32).bits (IntKind.u32.wrap ((s : Int) * (2 ^ (min (Int.toNat 8) (IntKind.u32).bits)))) ||| BitVec.ofInt (IntKind.u32).bits (IntKind.u32.wrap ((x.toNat : Nat) : Int))).toNat : Int))) (IntKind.i64.wrap ((i : Int) - 1)) = _
    rw [u32_id (n := x.toNat) (by omega), orByte hs hx8, wrap_id (n := (i : Int) - 1) (by omega) (by omega)]
  refine .succ (fun k => frame_told_eq k _) (Ans2.diag (f := fun k n => frame_told_l0 k n _ 0 3) ?_)
  refine S 3 0 d (by simp) rfl (by omega) (by omega) (S 2 _ c (by simp) rfl (by omega) (by omega) (S 1 _ b (by simp) rfl (by omega) (by omega) (S 0 _ a (by simp) rfl (by omega) (by omega) ?_)))
  refine .succ (fun k n => frame_told_l0_eq k n _ _ _) (.no (decide_eq_false (by omega)) ?_)
  rw [Nat.zero_mul, Nat.zero_add]
  exact .const
end Go.Ev.HpMB
set_option linter.unusedVariables false
set_option linter.unusedSectionVars false
namespace Go.Ev.HpMB
theorem frame_len (x : List UInt8) : (frameOf x).length = (enc x.length).length + x.length + 4 := by
  unfold frameOf bodyOf'
  rw [List.length_append, List.length_append, le4_len]
theorem bndA {n m : Nat} (h : n ≤ m) : Ans (fun _ => bnd (.int .i64 ((n : Nat) : Int)) m) n := .of (fun _ => bnd_le h) .const
theorem take4 {r : List UInt8} {s : Nat} {post : List UInt8} (h : r = le4 s ++ post) : ∃ a b c d, r = a :: b :: c :: d :: post ∧ le4 s = [a, b, c, d] := ⟨_, _, _, _, h, rfl⟩
section
variable (b : List UInt8) (hbl : b.length ≤ 1000000000000)
include hbl
/-- The frame's parts are there: whether its sum is told. -/
theorem open_parts {P m : Nat} {x post : List UInt8} (hP : P ≤ b.length) (hx : x.length ≤ 65536) (hb : b.drop P = enc x.length ++ x ++ post) (h4 : 4 ≤ post.length) :
    (∃ e, e ≠ 0 ∧ post.take 4 ≠ le4 (sumOf (bodyOf' x)) ∧ Ans (fun k => frame_Open k b (P : Int)) ([], (P : Int), e, ())) ∨
    (post.take 4 = le4 (sumOf (bodyOf' x)) ∧ Ans (fun k => frame_Open k b (P : Int)) (x, ((P + (frameOf x).length : Nat) : Int), 0, ())) := by
  rw [List.append_assoc] at hb
  have hG := get_at (by omega) hP (by omega) hb
  obtain ⟨h1, h2, h3⟩ := split_at hP hb
  have hd := drop_at hb
  have hlen : b.length = P + (enc x.length).length + (x.length + post.length) := by
    have := congrArg List.length hb
    rw [List.length_drop, List.length_append, List.length_append] at this; omega
  have h10 := enc_ten (n := x.length) (by omega)
  obtain ⟨a, c, d, f, r, hpost⟩ : ∃ a c d f r, post = a :: c :: d :: f :: r := by
    match post, h4 with
    | a :: c :: d :: f :: r, _ => exact ⟨a, c, d, f, r, rfl⟩
  have hfr := frame_len x
  generalize hF : P + (enc x.length).length = F at *
  have e1 : IntKind.i64.wrap ((F : Int) + (IntKind.i64.wrap ((x.length : Nat) : Int))) = ((F + x.length : Nat) : Int) := by
    rw [wrap_id (n := ((x.length : Nat) : Int)) (by omega) (by omega), wrap_id (by omega) (by omega)]; omega
  have e2 : decide (IntKind.i64.wrap ((IntKind.i64.wrap ((x.length : Nat) : Int)) + 4) > IntKind.i64.wrap (((List.length b : Nat) : Int) - (F : Int))) = false := by
    rw [wrap_id (n := ((x.length : Nat) : Int)) (by omega) (by omega), wrap_id (n := ((x.length : Nat) : Int) + 4) (by omega) (by omega), wrap_id (n := ((List.length b : Nat) : Int) - (F : Int)) (by omega) (by omega)]
    exact decide_eq_false (by omega)
  have e3 : List.drop P (List.take (F + x.length) b) = bodyOf' x := by
    have : F + x.length = P + (enc x.length ++ x).length := by rw [List.length_append]; omega
    rw [this, ← List.take_drop, hb, ← List.append_assoc, List.take_left]; rfl
  have e4 : List.drop (F + x.length) (List.take (List.length b) b) = post := by
    rw [List.take_length]
    exact drop_at hd
  have e5 : List.drop F (List.take (F + x.length) b) = x := by rw [← List.take_drop, hd, List.take_left]
  have hS := sum_ (bodyOf' x) (by unfold bodyOf'; rw [List.length_append]; omega)
  have hT := told_ (a := a) (b := c) (c := d) (d := f) (r := r)
  rw [← hpost, ← e4] at hT
  rw [← e3] at hS
  have B1 : Ans (fun _ => bnd (.int .i64 (IntKind.i64.wrap ((F : Int) + (IntKind.i64.wrap ((x.length : Nat) : Int))))) (List.length b)) (F + x.length) := by rw [e1]; exact bndA (by omega)
  have X : ∀ {res}, Ans (fun k => (bif ((sumOf (bodyOf' x) : Int) != ((((f.toNat * 256 + d.toNat) * 256 + c.toNat) * 256 + a.toNat : Nat) : Int)) then some (([] : List UInt8), (P : Int), 8, ()) else some (x, ((P + (frameOf x).length : Nat) : Int), 0, ()))) res → Ans (fun k => frame_Open k b (P : Int)) res := by
    intro res h
    refine .succ (fun k => frame_Open_eq k b P) (.bind hG (.no rfl (.no (decide_eq_false (by show ¬ ((x.length : Nat) : Int) > 65536; omega)) (.no e2 (.bind B1 (.bind (a := P) (bndA (by omega)) (.bind hS (.bind B1 (.bind (f := fun k => frame_told k (List.drop (F + x.length) (List.take (List.length b) b))) hT ?_)))))))))
    rw [e3]
    cases hc : ((sumOf (bodyOf' x) : Int) != ((((f.toNat * 256 + d.toNat) * 256 + c.toNat) * 256 + a.toNat : Nat) : Int)) with
    | true => rw [hc] at h; exact .yes rfl h
    | false =>
      rw [hc] at h
      refine .no rfl (.bind B1 (.bind (a := F) (bndA (by omega)) ?_))
      show Ans (fun k => (bif decide (List.length (List.drop F (List.take (F + x.length) b)) * 1 ≤ 140737488355328) then some ((List.drop F (List.take (F + x.length) b)), (IntKind.i64.wrap ((IntKind.i64.wrap ((F : Int) + (IntKind.i64.wrap ((x.length : Nat) : Int)))) + 4)), 0, ()) else none)) res
      rw [e5, e1, wrap_id (n := ((F + x.length : Nat) : Int) + 4) (by omega) (by omega)]
      refine .yes (decide_eq_true (by omega)) ?_
      rw [show ((F + x.length : Nat) : Int) + 4 = ((P + (frameOf x).length : Nat) : Int) by omega]
      exact h
  have ht4 : post.take 4 = [a, c, d, f] := by rw [hpost]; rfl
  by_cases hc : sumOf (bodyOf' x) = ((f.toNat * 256 + d.toNat) * 256 + c.toNat) * 256 + a.toNat
  · refine .inr ⟨by rw [ht4, le4_of hc.symm], X (.no (by rw [hc]; simp) .const)⟩
  · refine .inl ⟨8, by decide, fun h => hc ?_, X (.yes (bne_iff_ne.2 fun h => hc (by omega)) .const)⟩
    rw [ht4] at h
    have hs := sumOf_lt (bodyOf' x)
    generalize sumOf (bodyOf' x) = s at *
    unfold le4 at h
    injection h with h1 h
    injection h with h2 h
    injection h with h3 h
    injection h with h4
    subst h1 h2 h3 h4
    simp only [UInt8.toNat_ofNat']
    omega
theorem open_known {P : Nat} {x post : List UInt8} (hP : P ≤ b.length) (hx : x.length ≤ 65536) (hb : b.drop P = frameOf x ++ post) : Ans (fun k => frame_Open k b (P : Int)) (x, ((P + (frameOf x).length : Nat) : Int), 0, ()) := by
  have hb' : b.drop P = enc x.length ++ x ++ (le4 (sumOf (bodyOf' x)) ++ post) := by rw [hb]; unfold frameOf bodyOf'; simp
  rcases open_parts b hbl (m := 0) hP hx hb' (by rw [List.length_append, le4_len]; omega) with ⟨e, he, hn, _⟩ | ⟨_, h⟩
  · exact absurd (by rw [show 4 = (le4 (sumOf (bodyOf' x))).length from rfl, List.take_left]) hn
  · exact h
theorem open_any {P : Nat} (hP : P ≤ b.length) : (∃ e p, e ≠ 0 ∧ Ans (fun k => frame_Open k b (P : Int)) ([], p, e, ())) ∨
    ∃ (x post : List UInt8), x.length ≤ 65536 ∧ b.drop P = frameOf x ++ post ∧ Ans (fun k => frame_Open k b (P : Int)) (x, ((P + (frameOf x).length : Nat) : Int), 0, ()) := by
  obtain ⟨r, hr, hF⟩ := get_any b P (by omega) hP
  rcases hF with he | ⟨m, post, hm, hb, rfl⟩
  · exact .inl ⟨_, _, he, .succ (fun k => frame_Open_eq k b P) (.bind hr (.yes (by show (r.2.2.1 != 0) = true; simpa using he) .const))⟩
  · have hlen : b.length = P + (enc m).length + post.length := by
      have := congrArg List.length hb
      rw [List.length_drop, List.length_append] at this; omega
    by_cases h64 : m ≤ 65536
    · by_cases hfit : m + 4 ≤ post.length
      · have hx : (post.take m).length = m := by rw [List.length_take]; omega
        have hb' : b.drop P = enc (post.take m).length ++ post.take m ++ post.drop m := by rw [hb, hx, List.append_assoc, List.take_append_drop]
        rcases open_parts b hbl (m := 0) (x := post.take m) hP (by omega) hb' (by rw [List.length_drop]; omega) with ⟨e, he, _, h⟩ | ⟨h4, h⟩
        · exact .inl ⟨e, _, he, h⟩
        · refine .inr ⟨post.take m, (post.drop m).drop 4, by omega, ?_, h⟩
          have e : le4 (sumOf (bodyOf' (post.take m))) ++ (post.drop m).drop 4 = post.drop m := by rw [← h4, List.take_append_drop]
          show b.drop P = (enc (post.take m).length ++ post.take m) ++ le4 (sumOf (bodyOf' (post.take m))) ++ (post.drop m).drop 4
          rw [List.append_assoc, e]
          exact hb'
      · refine .inl ⟨3, _, by decide, .succ (fun k => frame_Open_eq k b P) (.bind hr (.no rfl (.no (decide_eq_false (by show ¬ (m : Int) > 65536; omega)) (.yes ?_ .const))))⟩
        show decide (IntKind.i64.wrap ((IntKind.i64.wrap (m : Int)) + 4) > IntKind.i64.wrap (((List.length b : Nat) : Int) - ((P + (enc m).length : Nat) : Int))) = true
        rw [wrap_id (n := (m : Int)) (by omega) (by omega), wrap_id (n := (m : Int) + 4) (by omega) (by omega), wrap_id (n := ((List.length b : Nat) : Int) - ((P + (enc m).length : Nat) : Int)) (by omega) (by omega)]
        exact decide_eq_true (by omega)
    · exact .inl ⟨4, _, by decide, .succ (fun k => frame_Open_eq k b P) (.bind hr (.no rfl (.yes (decide_eq_true (by show (m : Int) > 65536; omega)) .const)))⟩
end
/-! ### Right matches -/
def Rise : Int → List Bnd → Prop
  | _, [] => True
  | last, x :: xs => last < x.at_ ∧ x.at_ < 4096 ∧ List.length x.var ≤ 32 ∧ Rise x.at_ xs
def OkM (m : Mat) : Prop := Rise (-1) m.l ∧ 0 < m.l.length
theorem Rise.len : ∀ {l : List Bnd} {last : Int}, Rise last l → last < 4096 → (l.length : Int) ≤ 4095 - last
  | [], last, _, h => by simp; omega
  | x :: xs, last, ⟨h1, h2, _, h4⟩, h => by
    have := h4.len h2
    simp only [List.length_cons]; omega
theorem right_loop (m : Mat) : ∀ (l : List Bnd) (i : Nat) (last : Int), m.l.drop i = l → (i : Int) ≤ last + 1 → last < 4096 →
    ∃ r, Ans2 (fun k n => match_Right_l0 k n m last (i : Int)) (r, ()) ∧ (r = true → Rise last l ∧ 0 < m.l.length) := by
  intro l
  induction l with
  | nil =>
    intro i last hd hi hl
    have hlen : m.l.length ≤ i := by
      have := congrArg List.length hd
      rw [List.length_drop] at this; simp at this; omega
    exact ⟨_, .succ (fun k n => match_Right_l0_eq k n m last i) (.no (nlt_nat hlen) .const), fun h => ⟨trivial, by have := of_decide_eq_true h; omega⟩⟩
  | cons x xs ih =>
    intro i last hd hi hl
    have hlt : i < m.l.length := by
      have := congrArg List.length hd
      rw [List.length_drop] at this; simp at this; omega
    have hx : m.l[i] = x := by
      have := List.drop_eq_getElem_cons hlt
      rw [hd] at this
      injection this with h _; exact h.symm
    have hxs : m.l.drop (i + 1) = xs := by
      have := List.drop_eq_getElem_cons hlt
      rw [hd] at this
      injection this with _ h; exact h.symm
    have X : ∀ {r}, Ans2 (fun k n => (bif (decide (x.at_ ≤ last) == false) then (bif (decide (x.at_ ≥ 4096) == false) then ((word_Name k x.var).bind fun r => (bif (!r.1) then some (false, ()) else match_Right_l0 k n m x.at_ ((i + 1 : Nat) : Int))) else some (false, ())) else some (false, ()))) r → Ans2 (fun k n => match_Right_l0 k n m last (i : Int)) r := by
      intro r h
      refine .succ (fun k n => by rw [match_Right_l0_eq, wrap_succ (m := 5000) (i := i) (by omega) (by omega)]) (.yes (lt_nat hlt) (.bind (idxA hlt) ?_))
      rw [hx]; exact h
    by_cases h1 : x.at_ ≤ last
    · exact ⟨false, X (.no (by simp [h1]) .const), by simp⟩
    · by_cases h2 : x.at_ ≥ 4096
      · exact ⟨false, X (.yes (by simp [h1]) (.no (by simp [h2]) .const)), by simp⟩
      · obtain ⟨q, hq, hq'⟩ := name_ x.var
        cases q with
        | false => exact ⟨false, X (.yes (by simp [h1]) (.yes (by simp [h2]) (.bind hq (.yes rfl .const)))), by simp⟩
        | true =>
          obtain ⟨r, hr, hr'⟩ := ih (i + 1) x.at_ hxs (by omega) (by omega)
          exact ⟨r, X (.yes (by simp [h1]) (.yes (by simp [h2]) (.bind hq (.no rfl hr)))), fun h => ⟨⟨by omega, by omega, hq' rfl, (hr' h).1⟩, (hr' h).2⟩⟩
theorem right_ (m : Mat) : ∃ r, Ans (fun k => match_Right k m) (r, ()) ∧ (r = true → OkM m) := by
  obtain ⟨r, hr, h⟩ := right_loop m m.l 0 (-1) rfl (by omega) (by omega)
  exact ⟨r, .succ (fun k => match_Right_eq k m) hr.diag, h⟩
/-! ### Matches written -/
def encB (last : Int) (x : Bnd) : List UInt8 := enc (x.at_ - last).toNat ++ encT x.var
def encBs : Int → List Bnd → List UInt8
  | _, [] => []
  | last, x :: xs => encB last x ++ encBs x.at_ xs
def encM (m : Mat) : List UInt8 := enc m.l.length ++ encBs 0 m.l
theorem newW : Ans (fun k => wire_NewWriter k 65536) (Sum.inr (true, 65536, 0, ())) := .succ (fun k => wire_NewWriter_eq k 65536) (.yes rfl (.no rfl (.of (fun k => wire_NewWriter_j0_eq k 65536) .const)))
/-- From 0, not from -1: the first may be at 0. -/
def Go0 : Int → List Bnd → Prop
  | _, [] => True
  | last, x :: xs => last ≤ x.at_ ∧ x.at_ < 4096 ∧ List.length x.var ≤ 32 ∧ Go0 x.at_ xs
theorem Rise.go0 : ∀ {l : List Bnd} {last last' : Int}, Rise last l → last' ≤ last + 1 → Go0 last' l
  | [], _, _, _, _ => trivial
  | x :: xs, last, last', ⟨h1, h2, h3, h4⟩, h => ⟨by omega, h2, h3, h4.go0 (by omega)⟩
theorem one_loop (m : Mat) (hm : m.l.length ≤ 4096) : ∀ (l : List Bnd) (i : Nat) (last : Int) (b : List UInt8), m.l.drop i = l → Go0 last l → 0 ≤ last → b.length ≤ 65536 →
    (∃ e, e ≠ 0 ∧ 65536 < (b ++ encBs last l).length ∧ Ans2 (fun k n => match_one_l2 k n m last (i : Int) true 65536 b) ([], e, ())) ∨
    ((b ++ encBs last l).length ≤ 65536 ∧ Ans2 (fun k n => match_one_l2 k n m last (i : Int) true 65536 b) (frameOf (b ++ encBs last l), 0, ())) := by
  intro l
  induction l with
  | nil =>
    intro i last b hd hg hl hb
    have hlen : m.l.length ≤ i := by
      have := congrArg List.length hd
      rw [List.length_drop] at this; simp at this; omega
    have W := wrap_ hb
    refine .inr ⟨by simpa [encBs] using hb, ?_⟩
    rw [show b ++ encBs last [] = b by simp [encBs]]
    exact .succ (fun k n => match_one_l2_eq k n m last i true 65536 b) (.no (nlt_nat hlen) (Ans.two (.bind (done3 65536 (b := b) hb) (.bind W .const))))
  | cons x xs ih =>
    intro i last b hd hg hl hb
    obtain ⟨g1, g2, g3, g4⟩ := hg
    have hlt : i < m.l.length := by
      have := congrArg List.length hd
      rw [List.length_drop] at this; simp at this; omega
    have hx : m.l[i] = x := by
      have := List.drop_eq_getElem_cons hlt
      rw [hd] at this
      injection this with h _; exact h.symm
    have hxs : m.l.drop (i + 1) = xs := by
      have := List.drop_eq_getElem_cons hlt
      rw [hd] at this
      injection this with _ h; exact h.symm
    obtain ⟨q, hq⟩ : ∃ q : Nat, x.at_ - last = (q : Int) := ⟨(x.at_ - last).toNat, by omega⟩
    have eq1 : IntKind.u64.wrap (IntKind.i64.wrap (x.at_ - last)) = (q : Int) := by rw [hq, wrap_id (by omega) (by omega), u64_id (by omega)]
    have N := num3 (M := 65536) (n := q) (by omega) (by omega) (b := b) hb
    unfold wres3 at N
    rw [← eq1] at N
    have ee : encBs last (x :: xs) = enc q ++ (encT x.var ++ encBs x.at_ xs) := by simp [encBs, encB, hq]
    by_cases h1 : (enc q).length + b.length ≤ 65536
    · rw [if_pos h1] at N
      have T := text3 (M := 65536) (by omega) (b := b ++ enc q) (by rw [List.length_append]; omega) x.var (by omega)
      unfold wres3 at T
      by_cases h2 : (enc (List.length x.var) ++ x.var).length + (b ++ enc q).length ≤ 65536
      · rw [if_pos h2] at T
        have h2' : (b ++ enc q ++ encT x.var).length ≤ 65536 := by rw [List.length_append]; show _ + (enc (List.length x.var) ++ x.var).length ≤ 65536; omega
        have X : ∀ {r}, Ans2 (fun k n => match_one_l2 k n m x.at_ ((i + 1 : Nat) : Int) true 65536 (b ++ enc q ++ encT x.var)) r → Ans2 (fun k n => match_one_l2 k n m last (i : Int) true 65536 b) r := by
          intro r h
          refine .succ (fun k n => by rw [match_one_l2_eq, wrap_succ (m := 5000) (i := i) (by omega) (by omega)]) (.yes (lt_nat hlt) (.bind (idxA hlt) ?_))
          rw [hx]
          exact Ans2.elimR N (.no rfl (Ans2.elimR T (.no rfl h)))
        have e3 : b ++ encBs last (x :: xs) = b ++ enc q ++ encT x.var ++ encBs x.at_ xs := by rw [ee]; simp
        rw [e3]
        rcases ih (i + 1) x.at_ (b ++ enc q ++ encT x.var) hxs g4 (by omega) h2' with ⟨e, he, hL, A⟩ | ⟨hL, A⟩
        · exact .inl ⟨e, he, hL, X A⟩
        · exact .inr ⟨hL, X A⟩
      · rw [if_neg h2] at T
        refine .inl ⟨2, by decide, ?_, .succ (fun k n => match_one_l2_eq k n m last i true 65536 b) (.yes (lt_nat hlt) (.bind (idxA hlt) ?_))⟩
        · have hu : (encT x.var).length = (enc (List.length x.var) ++ x.var).length := rfl
          rw [ee]
          simp only [List.length_append] at h2 hu ⊢
          omega
        · rw [hx]
          exact Ans2.elimR N (.no rfl (Ans2.elimL T (.yes rfl .const)))
    · rw [if_neg h1] at N
      refine .inl ⟨2, by decide, ?_, .succ (fun k n => match_one_l2_eq k n m last i true 65536 b) (.yes (lt_nat hlt) (.bind (idxA hlt) ?_))⟩
      · rw [ee]
        simp only [List.length_append]
        omega
      · rw [hx]
        exact Ans2.elimL N (.yes rfl .const)
theorem one_ {m : Mat} (hm : OkM m) : (∃ e, e ≠ 0 ∧ 65536 < (encM m).length ∧ Ans (fun k => match_one k m) ([], e, ())) ∨ ((encM m).length ≤ 65536 ∧ Ans (fun k => match_one k m) (frameOf (encM m), 0, ())) := by
  have hl := hm.1.len (by omega)
  have h10 := enc_ten (n := m.l.length) (by omega)
  have N := num2 (M := 65536) (n := m.l.length) (by omega) (by omega)
  unfold wres at N
  rw [if_pos (by omega), ← u64_id (n := m.l.length) (by omega)] at N
  have X : ∀ {r}, Ans2 (fun k n => match_one_l2 k n m 0 ((0 : Nat) : Int) true 65536 (enc m.l.length)) r → Ans (fun k => match_one k m) r := fun h =>
    .succ (fun k => match_one_eq k m) (.elimR newW (.elimR N (.no rfl h.diag)))
  rcases one_loop m (by omega) m.l 0 0 (enc m.l.length) rfl (hm.1.go0 (by omega)) (by omega) (by omega) with ⟨e, he, hL, A⟩ | ⟨hL, A⟩
  · exact .inl ⟨e, he, hL, X A⟩
  · exact .inr ⟨hL, X A⟩
end Go.Ev.HpMB
set_option linter.unusedVariables false
set_option linter.unusedSectionVars false
namespace Go.Ev.HpMB
theorem Ans.uniq {α : Type} {f : Nat → Option α} {a b : α} (h : Ans f a) (h' : Ans f b) : a = b := by
  obtain ⟨N, hN⟩ := h
  obtain ⟨M, hM⟩ := h'
  have h1 := hN (max N M) (by omega)
  have h2 := hM (max N M) (by omega)
  rw [h1] at h2
  exact Option.some.inj h2
theorem awake_run (k : Nat) : law26_awake (k + 60) = some (true, ()) := by kernel_rfl
theorem awake : Ans (fun k => law26_awake k) (true, ()) := .plus 60 awake_run
theorem awakes : Ans (fun k => (law26_awake k).bind fun r => some (r.1, ())) (true, ()) := .bind awake .const
theorem newR {b : List UInt8} (hl : b.length ≤ 140737488355328) : Ans (fun k => wire_NewReader k b) (true, 0, b, ()) := .succ (fun k => wire_NewReader_eq k b) (.yes (decide_eq_true (by omega)) .const)
theorem end_no {b : List UInt8} {P : Nat} (h : P ≠ b.length) : Ans (fun k => wire_Reader_End_2 k true (P : Int) b) (true, (P : Int), b, 4, ()) :=
  .succ (fun k => wire_Reader_End_2_eq k true P b) (.bind (rnone3 _ b) (.of (fun k => wire_Reader_End_2_j0_eq k true P b _) (.no rfl (.bind (rlen2 _ b) (.yes (by show ((P : Int) != ((List.length b : Nat) : Int)) = true; simp; omega) .const)))))
/-! ### A match read -/
theorem drop_cons {α : Type} {l xs : List α} {x : α} {i : Nat} (hd : l.drop i = x :: xs) : ∃ h : i < l.length, l[i] = x ∧ l.drop (i + 1) = xs := by
  have hlt : i < l.length := by
    have := congrArg List.length hd
    rw [List.length_drop] at this; simp at this; omega
  have h := List.drop_eq_getElem_cons hlt
  rw [hd] at h
  injection h with h1 h2
  exact ⟨hlt, h1.symm, h2.symm⟩
theorem bound_known {b post : List UInt8} {P : Nat} {x : Bnd} {last : Int} (hbl : b.length ≤ 65536) (hP : P ≤ b.length) (h0 : 0 ≤ last) (h1 : last ≤ x.at_) (h2 : x.at_ < 4096) (h3 : List.length x.var ≤ 32) (hb : b.drop P = encB last x ++ post) :
    Ans (fun k => match_bound_2 k last true (P : Int) b) (true, ((P + (encB last x).length : Nat) : Int), b, x, 0, ()) := by
  obtain ⟨q, hq⟩ : ∃ q : Nat, x.at_ - last = (q : Int) := ⟨(x.at_ - last).toNat, by omega⟩
  have eb : encB last x = enc q ++ encT x.var := by simp [encB, hq]
  rw [eb, List.append_assoc] at hb
  have hN := num_known (most := 4096) (by omega) hP (by omega) (by omega) hb
  obtain ⟨_, _, h4⟩ := split_at hP hb
  have hT := text_good2 (by omega) h4 h3 (drop_at hb)
  rw [eb, List.length_append, ← Nat.add_assoc]
  refine .succ (fun k => match_bound_2_eq k last true P b) (.bind hN (.no rfl (.bind hT ?_)))
  show Ans (fun k => some (true, ((P + (enc q).length + (encT x.var).length : Nat) : Int), b, (⟨IntKind.i64.wrap (last + IntKind.i64.wrap (q : Int)), x.var⟩ : Bnd), 0, ())) _
  rw [wrap_id (n := (q : Int)) (by omega) (by omega), wrap_id (n := last + (q : Int)) (by omega) (by omega), show last + (q : Int) = x.at_ by omega]
  exact .const
theorem bound_any {b : List UInt8} {P : Nat} {last : Int} (hbl : b.length ≤ 65536) (hP : P ≤ b.length) (h0 : 0 ≤ last) (h1 : last ≤ 100000000) :
    (∃ e p x, e ≠ 0 ∧ Ans (fun k => match_bound_2 k last true (P : Int) b) (true, p, b, x, e, ())) ∨
    ∃ (x : Bnd) (post : List UInt8), last ≤ x.at_ ∧ x.at_ ≤ last + 4096 ∧ b.drop P = encB last x ++ post ∧ Ans (fun k => match_bound_2 k last true (P : Int) b) (true, ((P + (encB last x).length : Nat) : Int), b, x, 0, ()) := by
  rcases num_any b P 4096 (by omega) hP with ⟨e, he, hN⟩ | ⟨q, post, hq, hb, hN⟩
  · exact .inl ⟨e, _, _, he, .succ (fun k => match_bound_2_eq k last true P b) (.bind hN (.yes (by show (e != 0) = true; simpa using he) .const))⟩
  · obtain ⟨_, _, h4⟩ := split_at hP hb
    rcases text_any2 b _ (by omega) h4 with ⟨e, p, he, hT⟩ | ⟨t, post2, ht, hb2, hT⟩
    · exact .inl ⟨e, _, _, he, .succ (fun k => match_bound_2_eq k last true P b) (.bind hN (.no rfl (.bind hT .const)))⟩
    · have ea : (last + (q : Int) - last).toNat = q := by omega
      refine .inr ⟨⟨last + q, t⟩, post2, by show last ≤ last + (q : Int); omega, by show last + (q : Int) ≤ last + 4096; omega, ?_, ?_⟩
      · unfold encB
        rw [hb, show (⟨last + q, t⟩ : Bnd).at_ - last = last + (q : Int) - last from rfl, ea, List.append_assoc, ← hb2, drop_at hb]
      · have el : (encB last ⟨last + q, t⟩).length = (enc q).length + (encT t).length := by
          unfold encB
          rw [show (⟨last + q, t⟩ : Bnd).at_ - last = last + (q : Int) - last from rfl, ea, List.length_append]
        rw [el, ← Nat.add_assoc]
        refine .succ (fun k => match_bound_2_eq k last true P b) (.bind hN (.no rfl (.bind hT ?_)))
        show Ans (fun k => some (true, ((P + (enc q).length + (encT t).length : Nat) : Int), b, (⟨IntKind.i64.wrap (last + IntKind.i64.wrap (q : Int)), t⟩ : Bnd), 0, ())) _
        rw [wrap_id (n := (q : Int)) (by omega) (by omega), wrap_id (n := last + (q : Int)) (by omega) (by omega)]
        exact .const
theorem read_loop (b : List UInt8) (hbl : b.length ≤ 65536) (m : Mat) (hR : Ans (fun k => match_Right k m) (true, ())) (P2 : Int) (hm : m.l.length ≤ 4096) : ∀ (l : List Bnd) (i P : Nat) (last : Int), m.l.drop i = l → Go0 last l → 0 ≤ last → P ≤ b.length → b.drop P = encBs last l →
    Ans2 (fun k n => match_read_l1 k n b (true, P2, b, ((m.l.length : Nat) : Int), 0, ()) last (i : Int) true (P : Int) b (m.l.take i)) (m, 0, ()) := by
  intro l
  induction l with
  | nil =>
    intro i P last hd hg h0 hP hb
    have hlen : m.l.length ≤ i := by
      have := congrArg List.length hd
      rw [List.length_drop] at this; simp at this; omega
    have hPb : P = b.length := by
      have := congrArg List.length hb
      rw [List.length_drop] at this
      simp [encBs] at this; omega
    subst hPb
    rw [List.take_of_length_le hlen]
    exact .succ (fun k n => match_read_l1_eq k n b _ last i true _ b m.l) (.no (decide_eq_false (by show ¬ (i : Int) < ((m.l.length : Nat) : Int); omega)) (Ans.two (.bind (end2 b) (.yes rfl (.bind hR (.of (fun k => match_read_j0_eq k b _ m.l) (.no rfl .const)))))))
  | cons x xs ih =>
    intro i P last hd hg h0 hP hb
    obtain ⟨g1, g2, g3, g4⟩ := hg
    obtain ⟨hlt, hx, hxs⟩ := drop_cons hd
    have hB := bound_known hbl hP h0 g1 g2 g3 (post := encBs x.at_ xs) hb
    obtain ⟨_, _, h4⟩ := split_at hP (show b.drop P = encB last x ++ encBs x.at_ xs from hb)
    have L := ih (i + 1) (P + (encB last x).length) x.at_ hxs g4 (by omega) h4 (drop_at (show b.drop P = encB last x ++ encBs x.at_ xs from hb))
    rw [List.take_succ_eq_append_getElem hlt, hx] at L
    have ew : IntKind.u64.wrap ((i : Int) + 1) = ((i + 1 : Nat) : Int) := by rw [show (i : Int) + 1 = ((i + 1 : Nat) : Int) by omega, u64_id (by omega)]
    have hk : ((m.l.take i).length + 1) * 24 ≤ 140737488355328 := by rw [List.length_take]; omega
    exact .succ (fun k n => by rw [match_read_l1_eq, ew]) (.yes (decide_eq_true (by show (i : Int) < ((m.l.length : Nat) : Int); omega)) (.bind hB (.no rfl (.yes (decide_eq_true hk) L))))
theorem read_known {m : Mat} (hm : OkM m) (hR : Ans (fun k => match_Right k m) (true, ())) (hl : (encM m).length ≤ 65536) : Ans (fun k => match_read k (encM m)) (m, 0, ()) := by
  have h4 := hm.1.len (by omega)
  have h0 : (encM m).drop 0 = enc m.l.length ++ encBs 0 m.l := rfl
  have hN := num1_known (most := 4096) (P := 0) (by omega) (by omega) (by omega) (by omega) h0
  obtain ⟨_, _, h5⟩ := split_at (Nat.zero_le _) h0
  have L := read_loop (encM m) hl m hR ((0 + (enc m.l.length).length : Nat) : Int) (by omega) m.l 0 _ 0 rfl (hm.1.go0 (by omega)) (by omega) h5 (drop_at h0)
  exact .succ (fun k => match_read_eq k (encM m)) (.bind (newR (by omega)) (.elimR hN (.no rfl L.diag)))
theorem read_any_l (b : List UInt8) (hbl : b.length ≤ 65536) (P2 : Int) (n : Nat) (hn : n ≤ 4096) : ∀ (d i P : Nat) (last : Int) (acc : List Bnd), i + d = n → acc.length = i → 0 ≤ last → last ≤ 4096 * i → P ≤ b.length →
    ∃ res, Ans2 (fun k m => match_read_l1 k m b (true, P2, b, (n : Int), 0, ()) last (i : Int) true (P : Int) b acc) res ∧
      ((∃ e, e ≠ 0 ∧ res = (⟨[]⟩, e, ())) ∨ ∃ xs, xs.length = d ∧ b.drop P = encBs last xs ∧ Ans (fun k => match_Right k ⟨acc ++ xs⟩) (true, ()) ∧ OkM ⟨acc ++ xs⟩ ∧ res = (⟨acc ++ xs⟩, 0, ())) := by
  intro d
  induction d with
  | zero =>
    intro i P last acc hi ha h0 h1 hP
    have X : ∀ {r}, Ans (fun k => (wire_Reader_End_2 k true (P : Int) b).bind fun r => (bif ((r.2.2.2.1 != 0) == false) then ((match_Right k (⟨acc⟩ : Mat)).bind fun r2 => match_read_j0 k b r2 acc) else match_read_j1 k b acc)) r → Ans2 (fun k m => match_read_l1 k m b (true, P2, b, (n : Int), 0, ()) last (i : Int) true (P : Int) b acc) r := fun h =>
      .succ (fun k m => match_read_l1_eq k m b _ last i true P b acc) (.no (decide_eq_false (by show ¬ (i : Int) < (n : Int); omega)) h.two)
    by_cases hPb : P = b.length
    · subst hPb
      obtain ⟨r, hr, hr'⟩ := right_ ⟨acc⟩
      cases r with
      | true =>
        refine ⟨_, X (.bind (end2 b) (.yes rfl (.bind hr (.of (fun k => match_read_j0_eq k b _ acc) (.no rfl .const))))), .inr ⟨[], rfl, by simp [encBs], ?_, ?_, ?_⟩⟩
        · rw [List.append_nil]; exact hr
        · rw [List.append_nil]; exact hr' rfl
        · rw [List.append_nil]
      | false => exact ⟨_, X (.bind (end2 b) (.yes rfl (.bind hr (.of (fun k => match_read_j0_eq k b _ acc) (.yes rfl .const))))), .inl ⟨4, by decide, rfl⟩⟩
    · exact ⟨_, X (.bind (end_no hPb) (.no rfl (.of (fun k => match_read_j1_eq k b acc) .const))), .inl ⟨4, by decide, rfl⟩⟩
  | succ d ih =>
    intro i P last acc hi ha h0 h1 hP
    have ew : IntKind.u64.wrap ((i : Int) + 1) = ((i + 1 : Nat) : Int) := by rw [show (i : Int) + 1 = ((i + 1 : Nat) : Int) by omega, u64_id (by omega)]
    have hlt : decide ((i : Int) < ((true, P2, b, (n : Int), 0, ()) : (Bool × Int × List UInt8 × Int × Int × Unit)).2.2.2.1) = true := decide_eq_true (by show (i : Int) < (n : Int); omega)
    rcases bound_any hbl hP h0 (by omega) with ⟨e, p, x, he, h⟩ | ⟨x, post, hx1, hx2, hb, h⟩
    · exact ⟨_, .succ (fun k m => match_read_l1_eq k m b _ last i true P b acc) (.yes hlt (.bind h (.yes (by show (e != 0) = true; simpa using he) .const))), .inl ⟨e, he, rfl⟩⟩
    · obtain ⟨_, _, h4⟩ := split_at hP hb
      obtain ⟨res, hr, hF⟩ := ih (i + 1) (P + (encB last x).length) x.at_ (acc ++ [x]) (by omega) (by simp [ha]) (by omega) (by omega) h4
      have hk : (acc.length + 1) * 24 ≤ 140737488355328 := by omega
      refine ⟨res, .succ (fun k m => by rw [match_read_l1_eq, ew]) (.yes hlt (.bind h (.no rfl (.yes (decide_eq_true hk) hr)))), ?_⟩
      rcases hF with hF | ⟨xs, hl, hb2, hR, hok, rfl⟩
      · exact .inl hF
      · have ea : acc ++ [x] ++ xs = acc ++ x :: xs := by simp
        rw [ea] at hR hok ⊢
        refine .inr ⟨x :: xs, by simp [hl], ?_, hR, hok, rfl⟩
        show _ = encB last x ++ encBs x.at_ xs
        rw [hb, ← hb2, drop_at hb]
theorem read_any (b : List UInt8) (hbl : b.length ≤ 65536) : ∃ res, Ans (fun k => match_read k b) res ∧ ((∃ e, e ≠ 0 ∧ res = (⟨[]⟩, e, ())) ∨ ∃ m, b = encM m ∧ Ans (fun k => match_Right k m) (true, ()) ∧ OkM m ∧ res = (m, 0, ())) := by
  rcases num1_any b 0 4096 (by omega) (Nat.zero_le _) with ⟨e, he, hN⟩ | ⟨n, post, hn, hb, hN⟩
  · exact ⟨_, .succ (fun k => match_read_eq k b) (.bind (newR (by omega)) (.elimR hN (.yes (by show (e != 0) = true; simpa using he) .const))), .inl ⟨e, he, rfl⟩⟩
  · obtain ⟨_, _, h3⟩ := split_at (Nat.zero_le _) hb
    obtain ⟨res, hr, hF⟩ := read_any_l b hbl ((0 + (enc n).length : Nat) : Int) n hn n 0 _ 0 [] (by omega) rfl (by omega) (by omega) h3
    refine ⟨res, .succ (fun k => match_read_eq k b) (.bind (newR (by omega)) (.elimR hN (.no rfl hr.diag))), ?_⟩
    rcases hF with hF | ⟨xs, hl, hb2, hR, hok, rfl⟩
    · exact .inl hF
    · rw [List.nil_append] at hR hok ⊢
      refine .inr ⟨⟨xs⟩, ?_, hR, hok, rfl⟩
      unfold encM
      have h5 : post = encBs 0 xs := by rw [← hb2]; exact (drop_at hb).symm
      rw [List.drop_zero] at hb
      rw [hb, h5, ← hl]
/-! ### Matches as bytes -/
def Fine (m : Mat) : Prop := Ans (fun k => match_Right k m) (true, ()) ∧ OkM m ∧ (encM m).length ≤ 65536
noncomputable def frames (l : List Mat) : List UInt8 := l.flatMap fun m => frameOf (encM m)
theorem frames_add (l : List Mat) (m : Mat) : frames (l ++ [m]) = frames l ++ frameOf (encM m) := by simp [frames]
theorem frame_max {x : List UInt8} (h : x.length ≤ 65536) : (frameOf x).length ≤ 65550 := by
  have := enc_ten (n := x.length) (by omega)
  rw [frame_len]; omega
theorem frame_min (x : List UInt8) : 4 < (frameOf x).length := by
  have := enc_pos x.length
  rw [frame_len]; omega
theorem wrongs (l : List Mat) (hl : l.length ≤ 1048576) : ∀ (d i : Nat), i + d = l.length → ∃ r, Ans2 (fun k n => api_Match_2_l0 k n l (i : Int)) (r, ()) ∧ ((r < 0 ∧ ∀ m ∈ l.drop i, Ans (fun k => match_Right k m) (true, ())) ∨ (0 ≤ r ∧ ∃ m ∈ l, Ans (fun k => match_Right k m) (false, ()))) := by
  intro d
  induction d with
  | zero =>
    intro i hi
    refine ⟨-1, .succ (fun k n => api_Match_2_l0_eq k n l i) (.no (nlt_nat (by omega)) .const), .inl ⟨by omega, ?_⟩⟩
    rw [List.drop_of_length_le (by omega)]; simp
  | succ d ih =>
    intro i hi
    have hlt : i < l.length := by omega
    obtain ⟨q, hq, _⟩ := right_ l[i]
    have hw : Ans (fun k => match_Put_1 k l[i]) (!q, ()) := .succ (fun k => match_Put_1_eq k l[i]) (.bind hq .const)
    cases q with
    | true =>
      obtain ⟨r, hr, h⟩ := ih (i + 1) (by omega)
      refine ⟨r, .succ (fun k n => by rw [api_Match_2_l0_eq, wrap_succ (m := 1048577) (i := i) (by omega) (by omega)]) (.yes (lt_nat hlt) (.bind (idxA hlt) (.bind hw (.no rfl hr)))), ?_⟩
      rcases h with ⟨h1, h2⟩ | h
      · refine .inl ⟨h1, fun m hm => ?_⟩
        rw [List.drop_eq_getElem_cons hlt] at hm
        rcases List.mem_cons.1 hm with rfl | hm
        · exact hq
        · exact h2 m hm
      · exact .inr h
    | false => exact ⟨i, .succ (fun k n => api_Match_2_l0_eq k n l i) (.yes (lt_nat hlt) (.bind (idxA hlt) (.bind hw (.yes rfl .const)))), .inr ⟨by omega, l[i], List.getElem_mem hlt, hq⟩⟩
theorem put_loopM (l : List Mat) (hl : l.length ≤ 1048576) (hok : ∀ m ∈ l, OkM m) : ∀ (d i : Nat), i + d = l.length → (frames (l.take i)).length ≤ 65550 * i →
    ∃ x e, Ans2 (fun k n => match_Put_l0 k n l (i : Int) (frames (l.take i))) (x, e, ()) ∧ ((e = 0 ∧ (∀ m ∈ l.drop i, (encM m).length ≤ 65536) ∧ x = frames l) ∨ (e ≠ 0 ∧ ∃ m ∈ l, ¬ (encM m).length ≤ 65536)) := by
  intro d
  induction d with
  | zero =>
    intro i hi hf
    refine ⟨_, _, .succ (fun k n => match_Put_l0_eq k n l i _) (.no (nlt_nat (by omega)) .const), .inl ⟨rfl, ?_, ?_⟩⟩
    · rw [List.drop_of_length_le (by omega)]; simp
    · rw [List.take_of_length_le (by omega)]
  | succ d ih =>
    intro i hi hf
    have hlt : i < l.length := by omega
    rcases one_ (hok _ (List.getElem_mem hlt)) with ⟨e, he, hb, h⟩ | ⟨hb, h⟩
    · exact ⟨_, 2, .succ (fun k n => match_Put_l0_eq k n l i _) (.yes (lt_nat hlt) (.bind (idxA hlt) (.bind h (.yes (by show (e != 0) = true; simpa using he) .const)))), .inr ⟨by decide, l[i], List.getElem_mem hlt, by omega⟩⟩
    · have hfm := frame_max hb
      have e1 : frames (l.take (i + 1)) = frames (l.take i) ++ frameOf (encM l[i]) := by rw [List.take_succ_eq_append_getElem hlt, frames_add]
      obtain ⟨x, e, hx, h2⟩ := ih (i + 1) (by omega) (by rw [e1, List.length_append]; omega)
      rw [e1] at hx
      refine ⟨x, e, .succ (fun k n => by rw [match_Put_l0_eq, wrap_succ (m := 1048577) (i := i) (by omega) (by omega)]) (.yes (lt_nat hlt) (.bind (idxA hlt) (.bind h (.no rfl (.yes (decide_eq_true ?_) hx))))), ?_⟩
      · show ((frames (l.take i)).length + (frameOf (encM l[i])).length) * 1 ≤ 140737488355328
        omega
      · rcases h2 with ⟨h3, h4, h5⟩ | h3
        · refine .inl ⟨h3, fun m hm => ?_, h5⟩
          rw [List.drop_eq_getElem_cons hlt] at hm
          rcases List.mem_cons.1 hm with rfl | hm
          · exact hb
          · exact h4 m hm
        · exact .inr h3
theorem put_ (l : List Mat) (hl : l.length ≤ 1048576) : ∃ x e, Ans (fun k => match_Put k l) (x, e, ()) ∧ ((e = 0 ∧ (∀ m ∈ l, Fine m) ∧ x = frames l) ∨ (e ≠ 0 ∧ ∃ m ∈ l, ¬ Fine m)) := by
  obtain ⟨r, hr, h⟩ := wrongs l hl l.length 0 (by omega)
  have hC : Ans (fun k => api_Match k l) (decide (r ≥ 0), ()) := .succ (fun k => api_Match_eq k l) (.bind (.succ (fun k => api_Match_2_eq k l) hr.diag) .const)
  rcases h with ⟨h1, h2⟩ | ⟨h1, m, hm, h2⟩
  · rw [List.drop_zero] at h2
    have hok : ∀ m ∈ l, OkM m := fun m hm => by
      obtain ⟨q, hq, hq'⟩ := right_ m
      have := Ans.uniq hq (h2 m hm)
      exact hq' (congrArg Prod.fst this)
    obtain ⟨x, e, hx, h3⟩ := put_loopM l hl hok l.length 0 (by omega) (by simp [frames])
    rw [show frames (l.take 0) = [] by simp [frames]] at hx
    rw [decide_eq_false (by omega)] at hC
    refine ⟨x, e, .succ (fun k => match_Put_eq k l) (.bind hC (.no rfl hx.diag)), ?_⟩
    rcases h3 with ⟨h4, h5, h6⟩ | ⟨h4, m, hm, h5⟩
    · rw [List.drop_zero] at h5
      exact .inl ⟨h4, fun m hm => ⟨h2 m hm, hok m hm, h5 m hm⟩, h6⟩
    · exact .inr ⟨h4, m, hm, fun hF => h5 hF.2.2⟩
  · rw [decide_eq_true (by omega)] at hC
    refine ⟨_, _, .succ (fun k => match_Put_eq k l) (.bind hC (.yes rfl .const)), .inr ⟨by decide, m, hm, fun hF => ?_⟩⟩
    have := Ans.uniq h2 hF.1
    cases this
/-! ### Matches of bytes -/
theorem get_known_l (l : List Mat) (hl : l.length ≤ 100) (hF : ∀ m ∈ l, Fine m) (b : List UInt8) (hbl : b.length ≤ 1000000000000) : ∀ (d i P : Nat), i + d = l.length → P ≤ b.length → b.drop P = frames (l.drop i) →
    Ans2 (fun k n => match_Get_l0 k n b (P : Int) (l.take i)) (l, ((l.length : Nat) : Int), 0, ()) := by
  intro d
  induction d with
  | zero =>
    intro i P hi hP hb
    have hd0 : l.drop i = [] := List.drop_of_length_le (by omega)
    rw [hd0] at hb
    have hPb : P = b.length := by
      have := congrArg List.length hb
      rw [List.length_drop] at this
      simp [frames] at this; omega
    rw [List.take_of_length_le (by omega)]
    exact .succ (fun k n => match_Get_l0_eq k n b P l) (.no (decide_eq_false (by omega)) .const)
  | succ d ih =>
    intro i P hi hP hb
    have hlt : i < l.length := by omega
    have e : frames (l.drop i) = frameOf (encM l[i]) ++ frames (l.drop (i + 1)) := by unfold frames; rw [List.drop_eq_getElem_cons hlt, List.flatMap_cons]
    rw [e] at hb
    obtain ⟨f1, f2, f3⟩ := hF _ (List.getElem_mem hlt)
    have hO := open_known b hbl hP f3 hb
    obtain ⟨_, _, h3⟩ := split_at hP hb
    have hmin := frame_min (encM l[i])
    have L := ih (i + 1) (P + (frameOf (encM l[i])).length) (by omega) h3 (drop_at hb)
    rw [List.take_succ_eq_append_getElem hlt] at L
    exact .succ (fun k n => match_Get_l0_eq k n b P _) (.yes (decide_eq_true (by omega)) (.bind hO (.no rfl (.bind (read_known f2 f1 f3) (.no rfl (.yes (decide_eq_true (by show ((l.take i).length + 1) * 24 ≤ 140737488355328; rw [List.length_take]; omega)) L))))))
theorem get_any_l (b : List UInt8) (hbl : b.length ≤ 1048576) : ∀ (d P : Nat) (out : List Mat), b.length ≤ P + d → P ≤ b.length → out.length ≤ P →
    ∃ res, Ans2 (fun k n => match_Get_l0 k n b (P : Int) out) res ∧ ((∃ p e, e ≠ 0 ∧ res = ([], p, e, ())) ∨ ∃ ms, b.drop P = frames ms ∧ (∀ m ∈ ms, Fine m) ∧ (out ++ ms).length ≤ b.length ∧ res = (out ++ ms, (((out ++ ms).length : Nat) : Int), 0, ())) := by
  have fin : ∀ (P : Nat) (out : List Mat), P = b.length → out.length ≤ P → ∃ res, Ans2 (fun k n => match_Get_l0 k n b (P : Int) out) res ∧ ((∃ p e, e ≠ 0 ∧ res = ([], p, e, ())) ∨ ∃ ms, b.drop P = frames ms ∧ (∀ m ∈ ms, Fine m) ∧ (out ++ ms).length ≤ b.length ∧ res = (out ++ ms, (((out ++ ms).length : Nat) : Int), 0, ())) := by
    intro P out hP ho
    refine ⟨_, .succ (fun k n => match_Get_l0_eq k n b P out) (.no (decide_eq_false (by omega)) .const), .inr ⟨[], ?_, by simp, by simp; omega, by simp⟩⟩
    rw [List.drop_of_length_le (by omega)]; simp [frames]
  intro d
  induction d with
  | zero => exact fun P out hd hP ho => fin P out (by omega) ho
  | succ d ih =>
    intro P out hd hP ho
    by_cases hPb : P = b.length
    · exact fin P out hPb ho
    · have hlt : decide ((P : Int) < ((List.length b : Nat) : Int)) = true := decide_eq_true (by omega)
      rcases open_any b (by omega) hP with ⟨e, p, he, h⟩ | ⟨x, post, hx, hb, h⟩
      · exact ⟨_, .succ (fun k n => match_Get_l0_eq k n b P out) (.yes hlt (.bind h (.yes (by show (e != 0) = true; simpa using he) .const))), .inl ⟨p, e, he, rfl⟩⟩
      · obtain ⟨_, _, h3⟩ := split_at hP hb
        have hmin := frame_min x
        obtain ⟨r, hr, hF⟩ := read_any x hx
        rcases hF with ⟨e, he, rfl⟩ | ⟨m, hm, hR, hok, rfl⟩
        · exact ⟨_, .succ (fun k n => match_Get_l0_eq k n b P out) (.yes hlt (.bind h (.no rfl (.bind hr (.yes (by show (e != 0) = true; simpa using he) .const))))), .inl ⟨_, e, he, rfl⟩⟩
        · obtain ⟨res, hres, hG⟩ := ih (P + (frameOf x).length) (out ++ [m]) (by omega) h3 (by simp; omega)
          refine ⟨res, .succ (fun k n => match_Get_l0_eq k n b P out) (.yes hlt (.bind h (.no rfl (.bind hr (.no rfl (.yes (decide_eq_true (by show (out.length + 1) * 24 ≤ 140737488355328; omega)) hres)))))), ?_⟩
          rcases hG with hG | ⟨ms, hb2, hfine, hlen, rfl⟩
          · exact .inl hG
          · have ea : out ++ [m] ++ ms = out ++ m :: ms := by simp
            rw [ea] at hlen ⊢
            refine .inr ⟨m :: ms, ?_, fun y hy => ?_, hlen, rfl⟩
            · rw [hb, ← drop_at hb, hb2, hm]; simp [frames]
            · rcases List.mem_cons.1 hy with rfl | hy
              · exact ⟨hR, hok, by rw [← hm]; exact hx⟩
              · exact hfine y hy
/-! ### The same -/
theorem order_self (a : Mat) (ha : a.l.length ≤ 4096) : Ans (fun k => ref26_Order k a a) (0, ()) := by
  have L1 : ∀ (d i : Nat), i + d = a.l.length → Ans2 (fun k n => ref26_Order_l1 k n a a (i : Int)) (0, ()) := by
    intro d
    induction d with
    | zero => exact fun i hi => .succ (fun k n => ref26_Order_l1_eq k n a a i) (.no (by rw [nlt_nat (by omega)]; rfl) .const)
    | succ d ih =>
      intro i hi
      have hlt : i < a.l.length := by omega
      have c1 : Op.bytesLess a.l[i].var a.l[i].var = false := less_irrefl _
      have c2 : (!(Op.bytesLess a.l[i].var a.l[i].var || a.l[i].var == a.l[i].var)) = false := by simp
      exact .succ (fun k n => ref26_Order_l1_eq k n a a i) (.yes (by rw [lt_nat hlt]; rfl) (.yes (lt_nat hlt) (.of (fun k n => by rw [ref26_Order_j2_eq, wrap_succ (m := 5000) (i := i) (by omega) (by omega)]) (.bind (idxA hlt) (.bind (idxA hlt) (.no c1 (.bind (idxA hlt) (.bind (idxA hlt) (.no c2 (ih (i + 1) (by omega)))))))))))
  have L0 : ∀ (d i : Nat), i + d = a.l.length → Ans2 (fun k n => ref26_Order_l0 k n a a (i : Int)) (0, ()) := by
    have F : Ans (fun k => ref26_Order_j1 k a a) (0, ()) := .of (fun k => ref26_Order_j1_eq k a a) (.no (by simp) (L1 a.l.length 0 (by omega)).diag)
    intro d
    induction d with
    | zero => exact fun i hi => .succ (fun k n => ref26_Order_l0_eq k n a a i) (.no (by rw [nlt_nat (by omega)]; rfl) F.two)
    | succ d ih =>
      intro i hi
      have hlt : i < a.l.length := by omega
      exact .succ (fun k n => ref26_Order_l0_eq k n a a i) (.yes (by rw [lt_nat hlt]; rfl) (.yes (lt_nat hlt) (.of (fun k n => by rw [ref26_Order_j0_eq, wrap_succ (m := 5000) (i := i) (by omega) (by omega)]) (.bind (idxA hlt) (.bind (idxA hlt) (.no (show (a.l[i].at_ != a.l[i].at_) = false by simp) (ih (i + 1) (by omega))))))))
  exact .succ (fun k => ref26_Order_eq k a a) (L0 a.l.length 0 (by omega)).diag
theorem matches_self (l : List Mat) (hl : l.length ≤ 100) (hF : ∀ m ∈ l, Fine m) : Ans (fun k => law26_matches k l l) (true, ()) := by
  have L : ∀ (d i : Nat), i + d = l.length → Ans2 (fun k n => law26_matches_l0 k n l l (i : Int)) (true, ()) := by
    intro d
    induction d with
    | zero => exact fun i hi => .succ (fun k n => law26_matches_l0_eq k n l l i) (.no (nlt_nat (by omega)) .const)
    | succ d ih =>
      intro i hi
      have hlt : i < l.length := by omega
      have h4 := (hF _ (List.getElem_mem hlt)).2.1.1.len (by omega)
      exact .succ (fun k n => by rw [law26_matches_l0_eq, wrap_succ (m := 101) (i := i) (by omega) (by omega)]) (.yes (lt_nat hlt) (.bind (idxA hlt) (.bind (idxA hlt) (.bind (order_self l[i] (by omega)) (.no rfl (ih (i + 1) (by omega)))))))
  exact .succ (fun k => law26_matches_eq k l l) (.no (by simp) (L l.length 0 (by omega)).diag)
/-! ### The law -/
theorem tail (l : List Mat) (b : List UInt8) (hbl : b.length ≤ 1048576) : Ans (fun k => law26_MatchBack_j0 k l b) (true, ()) := by
  obtain ⟨res, hr, h⟩ := get_any_l b hbl b.length 0 [] (by omega) (by omega) (by simp)
  have hG : Ans (fun k => match_Get k b) res := .succ (fun k => match_Get_eq k b) hr.diag
  refine .of (fun k => law26_MatchBack_j0_eq k l b) ?_
  rcases h with ⟨p, e, he, rfl⟩ | ⟨ms, hb, hF, hlen, rfl⟩
  · exact .bind hG (.yes (by show (e != 0) = true; simpa using he) (.yes rfl awakes))
  · rw [List.nil_append] at hG hlen
    rw [List.drop_zero] at hb
    obtain ⟨x, e, hP, h⟩ := put_ ms (by omega)
    rcases h with ⟨rfl, _, hx⟩ | ⟨_, m, hm, hn⟩
    · refine .bind hG (.no rfl (.bind hP (.yes rfl (.yes ?_ (.yes ?_ awakes)))))
      · show ((x == b) == true) = true
        rw [hx, ← hb]; simp
      · show ((((ms.length : Nat) : Int) == ((List.length ms : Nat) : Int)) == true) = true
        simp
    · exact absurd (hF m hm) hn
theorem law (l : List Mat) (b : List UInt8) (hbl : b.length ≤ 1048576) : ∃ k, law26_MatchBack k l b = some (true, ()) := by
  suffices h : Ans (fun k => law26_MatchBack k l b) (true, ()) from h.ex
  have T := tail l b hbl
  refine .succ (fun k => law26_MatchBack_eq k l b) ?_
  by_cases hl : l.length ≤ 100
  · refine .no (decide_eq_false (by omega)) ?_
    obtain ⟨x, e, hP, h⟩ := put_ l (by omega)
    rcases h with ⟨rfl, hF, rfl⟩ | ⟨he, _⟩
    · have hmax : ∀ (l : List Mat), (∀ m ∈ l, Fine m) → (frames l).length ≤ 65550 * l.length := by
        intro l
        induction l with
        | nil => intro _; simp [frames]
        | cons m l ih =>
          intro h
          have h1 := frame_max (h m (by simp)).2.2
          have h2 := ih fun y hy => h y (by simp [hy])
          simp only [frames, List.flatMap_cons, List.length_append, List.length_cons] at h2 ⊢
          omega
      have hm := hmax l hF
      have G : Ans (fun k => match_Get k (frames l)) (l, ((l.length : Nat) : Int), 0, ()) := .succ (fun k => match_Get_eq k _) (get_known_l l hl hF (frames l) (by omega) l.length 0 0 (by omega) (by omega) rfl).diag
      exact .bind hP (.yes rfl (.bind G (.yes rfl (.yes (by simp) (.bind (matches_self l hl hF) (.no rfl T))))))
    · exact .bind hP (.no (by show (e == 0) = false; simpa using he) T)
  · exact .yes (decide_eq_true (by omega)) awakes
theorem bytes_le {xs : List UInt8} {n : Nat} (h : ∀ m, bulkN m (.sl .u8 false xs) ≤ n) : xs.length ≤ n := by
  have h2 := h 2
  have e : ∀ ys : List (T .u8), (ys.map fun x => ((cells .u8 x).map (bulkN 1)).sum).sum = List.length ys := by
    intro ys
    induction ys with
    | nil => rfl
    | cons y ys ih => rw [List.map_cons, List.sum_cons, ih]; simp [cells, bulkN]; omega
  have e2 : bulkN 2 (.sl .u8 false xs) = 1 + (xs.map fun x => ((cells .u8 x).map (bulkN 1)).sum).sum := rfl
  have h4 : bulkN 2 (.sl .u8 false xs) = 1 + List.length (α := T .u8) xs := e2.trans (congrArg (1 + ·) (e xs))
  rw [h4] at h2
  show List.length (α := T .u8) xs ≤ n
  omega
end Go.Ev.HpMB
