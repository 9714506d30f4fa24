/-
  ValueBytes, the plain law.
-/
import Derived.Test.YtkgacdekkdeilaaHpVY
import Derived.Test.YtkgacdekkdeilaaHpVget
set_option linter.unusedVariables false
set_option linter.unusedSectionVars false
namespace Go.Ev.HpVY
theorem idxA {α : Type} {xs : List α} {i : Nat} (h : i < xs.length) : Ans (fun _ => idx xs ((i : Nat) : Int)) xs[i] := .of (fun _ => idx_nat h) .const
def glen (m : Nat) : Nat := if m = 0 then 0 else (enc m).length
theorem enc_glen (n : Nat) : (enc n).length = 1 + glen (n / 128) := by
  by_cases h : n < 128
  · rw [enc_lt h, glen, if_pos (by omega)]; rfl
  · rw [enc_ge (by omega), glen, if_neg (by omega), List.length_cons]; omega
theorem groups_loop (N : Int) : ∀ (d m c : Nat), m < 128 ^ d → c + d ≤ 100 → Ans2 (fun k n => vint_groups_uint64_l0 k n N (m : Int) (c : Int)) (((c + glen m : Nat) : Int), ()) := by
  intro d
  induction d with
  | zero =>
    intro m c hm hc
    have h0 : m = 0 := by simpa using hm
    subst h0
    refine .succ (fun k n => ?_) .const
    rw [vint_groups_uint64_l0_eq]; rfl
  | succ d ih =>
    intro m c hm hc
    by_cases h0 : m = 0
    · subst h0
      refine .succ (fun k n => ?_) .const
      rw [vint_groups_uint64_l0_eq]; rfl
    · have hb : (((m : Nat) : Int) != 0) = true := by simp; omega
      have hd : m / 128 < 128 ^ d := by rw [Nat.div_lt_iff_lt_mul (by omega)]; rw [Nat.pow_succ] at hm; exact hm
      have L := ih (m / 128) (c + 1) hd (by omega)
      have e : c + glen m = c + 1 + glen (m / 128) := by
        have := enc_glen m
        rw [glen, if_neg h0, this]; omega
      rw [e]
      refine .succ (fun k n => ?_) L
      rw [vint_groups_uint64_l0_eq, hb, cond_true, fdiv7, wrap_succ (m := c + 1) (by omega) (by omega)]
theorem groups {n : Nat} (hn : n < 18446744073709551616) : Ans (fun k => vint_groups_uint64 k (n : Int)) (((enc n).length : Int), ()) := by
  have L := (groups_loop (n : Int) 10 (n / 128) 1 (Nat.lt_of_le_of_lt (Nat.div_le_self _ _) (Nat.lt_of_lt_of_le hn (by decide))) (by omega)).diag
  rw [enc_glen n]
  refine .succ (fun k => ?_) L
  rw [vint_groups_uint64_eq, fdiv7]; rfl
theorem byteP {m : Nat} (hm : m < 18446744073709551616) : UInt8.ofNat (Int.toNat (IntKind.u8.wrap (((BitVec.ofInt (IntKind.u8).bits (IntKind.u8.wrap (IntKind.u64.wrap (((BitVec.ofInt (IntKind.u64).bits (m : Int) &&& BitVec.ofInt (IntKind.u64).bits 127).toNat : Int)))) ||| BitVec.ofInt (IntKind.u8).bits 128).toNat : Int)))) = UInt8.ofNat (m % 128 + 128) := by
  rw [and127 hm, u64_id (n := m % 128) (by omega), u8_id (n := m % 128) (by omega), or128 (n := m % 128) (by omega), u8_id (n := m % 128 + 128) (by omega), Int.toNat_natCast]
theorem byteR {m : Nat} : UInt8.ofNat (Int.toNat (IntKind.u8.wrap (IntKind.u64.wrap ((Int.tmod (m : Int) 128) + 128)))) = UInt8.ofNat (m % 128 + 128) := by
  have e : (Int.tmod (m : Int) 128) + 128 = ((m % 128 + 128 : Nat) : Int) := by rw [tmod7]; omega
  rw [e, u64_id (by omega), u8_id (by omega), Int.toNat_natCast]
theorem byteL {m : Nat} (hm : m < 128) : UInt8.ofNat (Int.toNat (IntKind.u8.wrap (m : Int))) = UInt8.ofNat m := by
  rw [u8_id (by omega), Int.toNat_natCast]
theorem put_loop (b : List UInt8) (N : Int) : ∀ (d m : Nat) (out : List UInt8), m < 128 ^ d → m < 18446744073709551616 → out.length + d ≤ 1000000 → Ans2 (fun k n => vint_Put_l0 k n b N (m : Int) out) (out ++ enc m, ()) := by
  intro d
  have last : ∀ (m : Nat) (out : List UInt8), m < 128 → out.length ≤ 1000000 → Ans2 (fun k n => vint_Put_l0 k n b N (m : Int) out) (out ++ enc m, ()) := by
    intro m out h hl
    rw [enc_lt h]
    refine .succ (fun k n => ?_) .const
    rw [vint_Put_l0_eq, decide_eq_false (by omega), cond_false, byteL h, decide_eq_true (by simp; omega), cond_true]
  induction d with
  | zero =>
    intro m out hm _ hl
    have : m < 128 := by simp at hm; omega
    exact last m out this (by omega)
  | succ d ih =>
    intro m out hm h64 hl
    by_cases h : m < 128
    · exact last m out h (by omega)
    · have hd : m / 128 < 128 ^ d := by rw [Nat.div_lt_iff_lt_mul (by omega)]; rw [Nat.pow_succ] at hm; exact hm
      have L := ih (m / 128) (out ++ [UInt8.ofNat (m % 128 + 128)]) hd (by omega) (by simp; omega)
      have e : out ++ enc m = out ++ [UInt8.ofNat (m % 128 + 128)] ++ enc (m / 128) := by rw [enc_ge (by omega)]; simp
      rw [e]
      refine .succ (fun k n => ?_) L
      rw [vint_Put_l0_eq, decide_eq_true (by omega), cond_true, byteP h64, decide_eq_true (by simp; omega), cond_true, fdiv7]
theorem put {n : Nat} (hn : n < 18446744073709551616) {b : List UInt8} (hb : b.length ≤ 100000) : Ans (fun k => vint_Put k b (n : Int)) (b ++ enc n, ()) := by
  have h10 := enc_ten hn
  have h1 := enc_pos n
  have e : IntKind.i64.wrap (((List.length b : Nat) : Int) + ((enc n).length : Int)) = ((List.length b + (enc n).length : Nat) : Int) := by rw [wrap_id (by omega) (by omega)]; omega
  refine .succ (fun k => vint_Put_eq k b n) (.bind (groups hn) (.yes ?_ (.yes ?_ (put_loop b n 10 n b (Nat.lt_of_lt_of_le hn (by decide)) hn (by omega)).diag)))
  · rw [e]
    simp only [Bool.and_eq_true, decide_eq_true_eq]
    omega
  · simp
theorem rput_loop (b : List UInt8) (N : Int) : ∀ (d m : Nat) (out : List UInt8), m < 128 ^ d → m < 18446744073709551616 → out.length + d ≤ 1000000 → Ans2 (fun k n => ref01_Put_l0 k n b N (m : Int) out) (out ++ enc m, ()) := by
  intro d
  have last : ∀ (m : Nat) (out : List UInt8), m < 128 → out.length ≤ 1000000 → Ans2 (fun k n => ref01_Put_l0 k n b N (m : Int) out) (out ++ enc m, ()) := by
    intro m out h hl
    rw [enc_lt h]
    refine .succ (fun k n => ?_) .const
    rw [ref01_Put_l0_eq, decide_eq_false (by omega), cond_false, byteL h, decide_eq_true (by simp; omega), cond_true]
  induction d with
  | zero =>
    intro m out hm _ hl
    have : m < 128 := by simp at hm; omega
    exact last m out this (by omega)
  | succ d ih =>
    intro m out hm h64 hl
    by_cases h : m < 128
    · exact last m out h (by omega)
    · have hd : m / 128 < 128 ^ d := by rw [Nat.div_lt_iff_lt_mul (by omega)]; rw [Nat.pow_succ] at hm; exact hm
      have L := ih (m / 128) (out ++ [UInt8.ofNat (m % 128 + 128)]) hd (by omega) (by simp; omega)
      have e : out ++ enc m = out ++ [UInt8.ofNat (m % 128 + 128)] ++ enc (m / 128) := by rw [enc_ge (by omega)]; simp
      rw [e]
      refine .succ (fun k n => ?_) L
      rw [ref01_Put_l0_eq, decide_eq_true (by omega), cond_true, byteR, decide_eq_true (by simp; omega), cond_true, tdiv7, u64_id (by omega)]
theorem rput {n : Nat} (hn : n < 18446744073709551616) : Ans (fun k => ref01_Put k ([] : List UInt8) (n : Int)) (enc n, ()) :=
  .succ (fun k => ref01_Put_eq k [] n) (.yes rfl (rput_loop [] n 10 n [] (Nat.lt_of_lt_of_le hn (by decide)) hn (by simp)).diag)
theorem turn_ {m : Int} (h : -9223372036854775808 ≤ m ∧ m < 9223372036854775808) : Ans (fun k => vint_Turn k m) ((turn m : Int), ()) :=
  .succ (fun k => by rw [vint_Turn_eq, turnP h]) .const
theorem rturn {m : Int} (h : -9223372036854775808 ≤ m ∧ m < 9223372036854775808) : Ans (fun k => ref01_Turn k m) ((turn m : Int), ()) := by
  refine .succ (fun k => ref01_Turn_eq k m) ?_
  by_cases hm : m < 0
  · rw [← turnN ⟨h.1, hm⟩]; exact .yes (decide_eq_true hm) .const
  · rw [← turnZ ⟨by omega, h.2⟩]; exact .no (decide_eq_false hm) .const
/-! ### What is written -/
def wres (M : Nat) (x : List UInt8) : (Bool × Int × Int × Unit) ⊕ (Bool × Int × List UInt8 × Int × Unit) := if x.length ≤ M then Sum.inr (true, (M : Int), x, 0, ()) else Sum.inl (true, (M : Int), 2, ())
def wres3 (M : Nat) (b x : List UInt8) : (Bool × Int × List UInt8 × Int × Unit) ⊕ (Bool × Int × List UInt8 × List UInt8 × Int × Unit) := if x.length + b.length ≤ M then Sum.inr (true, (M : Int), b, b ++ x, 0, ()) else Sum.inl (true, (M : Int), b, 2, ())
def rres (M : Nat) (x : List UInt8) : (Int × Int × Unit) ⊕ (Int × List UInt8 × Int × Unit) := if x.length ≤ M then Sum.inr ((M : Int), x, 0, ()) else Sum.inl ((M : Int), 2, ())
def rres2 (M : Nat) (b x : List UInt8) : (Int × List UInt8 × Int × Unit) ⊕ (Int × List UInt8 × List UInt8 × Int × Unit) := if x.length + b.length ≤ M then Sum.inr ((M : Int), b, b ++ x, 0, ()) else Sum.inl ((M : Int), b, 2, ())
theorem none2 (M : Int) : Ans (fun k => wire_row_none k true M) (true, M, false, ()) := .succ (fun k => wire_row_none_eq k true M) .const
theorem none3 (M : Int) (b : List UInt8) : Ans (fun k => wire_row_none_2 k true M b) (true, M, b, false, ()) := .succ (fun k => wire_row_none_2_eq k true M b) .const
theorem room2 {M : Nat} (hM : M ≤ 65536) (x : Nat) : Ans (fun k => wire_Writer_room k (x : Int) true (M : Int)) (true, (M : Int), decide (x ≤ M), ()) := by
  refine .succ (fun k => wire_Writer_room_eq k x true M) (.bind (.succ (fun k => wire_row_len_3_eq k true M) .const) ?_)
  have e : decide ((x : Int) ≤ IntKind.i64.wrap ((M : Int) - 0)) = decide (x ≤ M) := by
    rw [wrap_id (by omega) (by omega)]; exact decide_eq_decide.2 (by omega)
  show Ans (fun k => some (true, (M : Int), decide ((x : Int) ≤ IntKind.i64.wrap ((M : Int) - 0)), ())) _
  rw [e]; exact .const
theorem room3 {M : Nat} (hM : M ≤ 65536) {b : List UInt8} (hb : b.length ≤ M) (x : Nat) : Ans (fun k => wire_Writer_room_2 k (x : Int) true (M : Int) b) (true, (M : Int), b, decide (x + b.length ≤ M), ()) := by
  refine .succ (fun k => wire_Writer_room_2_eq k x true M b) (.bind (.succ (fun k => wire_row_len_eq k true M b) .const) ?_)
  have e : decide ((x : Int) ≤ IntKind.i64.wrap ((M : Int) - ((List.length b : Nat) : Int))) = decide (x + b.length ≤ M) := by
    rw [wrap_id (by omega) (by omega)]; exact decide_eq_decide.2 (by omega)
  show Ans (fun k => some (true, (M : Int), b, decide ((x : Int) ≤ IntKind.i64.wrap ((M : Int) - ((List.length b : Nat) : Int))), ())) _
  rw [e]; exact .const
theorem size_ {n : Nat} (hn : n < 18446744073709551616) : Ans (fun k => vint_Size k (n : Int)) (((enc n).length : Int), ()) := .succ (fun k => vint_Size_eq k n) (.bind (groups hn) .const)
theorem num2 {M n : Nat} (hM : M ≤ 65536) (hn : n < 18446744073709551616) : Ans (fun k => wire_Writer_Num k (n : Int) true (M : Int)) (wres M (enc n)) := by
  refine .succ (fun k => wire_Writer_Num_eq k n true M) (.bind (none2 M) (.of (fun k => wire_Writer_Num_j0_eq k n true M _) (.no rfl (.bind (size_ hn) (.bind (room2 hM _) ?_)))))
  unfold wres
  by_cases h : (enc n).length ≤ M
  · rw [if_pos h]
    refine .no (by simp [h]) (.of (fun k => wire_Writer_Num_j1_eq k n true M _) (.bind (put hn (b := []) (by simp)) ?_))
    exact .const
  · rw [if_neg h]; exact .yes (by simp; omega) .const
theorem num3 {M n : Nat} (hM : M ≤ 65536) (hn : n < 18446744073709551616) {b : List UInt8} (hb : b.length ≤ M) : Ans (fun k => wire_Writer_Num_2 k (n : Int) true (M : Int) b) (wres3 M b (enc n)) := by
  refine .succ (fun k => wire_Writer_Num_2_eq k n true M b) (.bind (none3 M b) (.of (fun k => wire_Writer_Num_2_j0_eq k n true M b _) (.no rfl (.bind (size_ hn) (.bind (room3 hM hb _) ?_)))))
  unfold wres3
  by_cases h : (enc n).length + b.length ≤ M
  · rw [if_pos h]
    exact .no (by simp [h]) (.of (fun k => wire_Writer_Num_2_j1_eq k n true M b _) (.bind (put hn (b := b) (by omega)) .const))
  · rw [if_neg h]; exact .yes (by simp; omega) .const
theorem int2 {M : Nat} {m : Int} (hM : M ≤ 65536) (h : -9223372036854775808 ≤ m ∧ m < 9223372036854775808) : Ans (fun k => wire_Writer_Int k m true (M : Int)) (wres M (enc (turn m))) := by
  have N := num2 hM (turn_lt h)
  refine .succ (fun k => wire_Writer_Int_eq k m true M) (.bind (turn_ h) ?_)
  unfold wres at N ⊢
  by_cases hx : (enc (turn m)).length ≤ M
  · rw [if_pos hx] at N ⊢; exact .bind N .const
  · rw [if_neg hx] at N ⊢; exact .bind N .const
theorem int3 {M : Nat} {m : Int} (hM : M ≤ 65536) (h : -9223372036854775808 ≤ m ∧ m < 9223372036854775808) {b : List UInt8} (hb : b.length ≤ M) : Ans (fun k => wire_Writer_Int_2 k m true (M : Int) b) (wres3 M b (enc (turn m))) := by
  have N := num3 hM (turn_lt h) hb
  refine .succ (fun k => wire_Writer_Int_2_eq k m true M b) (.bind (turn_ h) ?_)
  unfold wres3 at N ⊢
  by_cases hx : (enc (turn m)).length + b.length ≤ M
  · rw [if_pos hx] at N ⊢; exact .bind N .const
  · rw [if_neg hx] at N ⊢; exact .bind N .const
theorem text2 {M : Nat} (hM : M ≤ 65536) (s : List UInt8) (hs : s.length ≤ 140737488355328) : Ans (fun k => wire_Writer_Text k s true (M : Int)) (wres M (enc s.length ++ s)) := by
  have h10 := enc_ten (n := s.length) (by omega)
  refine .succ (fun k => wire_Writer_Text_eq k s true M) (.bind (none2 M) (.of (fun k => wire_Writer_Text_j0_eq k s true M _) (.no rfl ?_)))
  unfold wres
  by_cases h1 : s.length ≤ M
  · refine .yes (by simp; omega) (.of (fun k => by rw [u64_id (n := s.length) (by omega)]) (.bind (size_ (by omega)) ?_))
    have e : IntKind.i64.wrap (((enc s.length).length : Int) + ((List.length s : Nat) : Int)) = (((enc s.length).length + s.length : Nat) : Int) := by rw [wrap_id (by omega) (by omega)]; omega
    refine .of (fun k => by rw [show IntKind.i64.wrap (((((enc s.length).length : Nat) : Int), ()).1 + ((List.length s : Nat) : Int)) = (((enc s.length).length + s.length : Nat) : Int) from e]) (.bind (room2 hM _) ?_)
    by_cases h : (enc s.length ++ s).length ≤ M
    · rw [if_pos h]
      rw [List.length_append] at h
      exact .no (by simp [h]) (.of (fun k => by rw [wire_Writer_Text_j1_eq, u64_id (n := s.length) (by omega)]) (.bind (put (by omega) (b := []) (by simp)) (.yes (decide_eq_true (by show (([] ++ enc s.length : List UInt8).length + s.length) * 1 ≤ 140737488355328; simp only [List.nil_append]; omega)) .const)))
    · rw [if_neg h]
      rw [List.length_append] at h
      exact .yes (by simp; omega) .const
  · rw [if_neg (by rw [List.length_append]; omega)]
    exact .no (by simp; omega) .const
theorem text3 {M : Nat} (hM : M ≤ 65536) {b : List UInt8} (hb : b.length ≤ M) (s : List UInt8) (hs : s.length ≤ 140737488355328) : Ans (fun k => wire_Writer_Text_2 k s true (M : Int) b) (wres3 M b (enc s.length ++ s)) := by
  have h10 := enc_ten (n := s.length) (by omega)
  refine .succ (fun k => wire_Writer_Text_2_eq k s true M b) (.bind (none3 M b) (.of (fun k => wire_Writer_Text_2_j0_eq k s true M b _) (.no rfl ?_)))
  unfold wres3
  by_cases h1 : s.length ≤ M
  · refine .yes (by simp; omega) (.of (fun k => by rw [u64_id (n := s.length) (by omega)]) (.bind (size_ (by omega)) ?_))
    have e : IntKind.i64.wrap (((enc s.length).length : Int) + ((List.length s : Nat) : Int)) = (((enc s.length).length + s.length : Nat) : Int) := by rw [wrap_id (by omega) (by omega)]; omega
    refine .of (fun k => by rw [show IntKind.i64.wrap (((((enc s.length).length : Nat) : Int), ()).1 + ((List.length s : Nat) : Int)) = (((enc s.length).length + s.length : Nat) : Int) from e]) (.bind (room3 hM hb _) ?_)
    by_cases h : (enc s.length ++ s).length + b.length ≤ M
    · rw [if_pos h]
      rw [List.length_append] at h
      rw [← List.append_assoc]
      exact .no (by simp [h]) (.of (fun k => by rw [wire_Writer_Text_2_j1_eq, u64_id (n := s.length) (by omega)]) (.bind (put (by omega) (b := b) (by omega)) (.yes (decide_eq_true (by show ((b ++ enc s.length : List UInt8).length + s.length) * 1 ≤ 140737488355328; simp only [List.length_append]; omega)) .const)))
    · rw [if_neg h]
      rw [List.length_append] at h
      exact .yes (by simp; omega) .const
  · rw [if_neg (by rw [List.length_append]; omega)]
    exact .no (by simp; omega) .const
theorem byte2 {M : Nat} (hM : M ≤ 65536) (c : Int) : Ans (fun k => wire_Writer_Byte k c true (M : Int)) (wres M [UInt8.ofNat (Int.toNat c)]) := by
  refine .succ (fun k => wire_Writer_Byte_eq k c true M) (.bind (none2 M) (.of (fun k => wire_Writer_Byte_j0_eq k c true M _) (.no rfl (.bind (room2 hM 1) ?_))))
  unfold wres
  by_cases h : [UInt8.ofNat (Int.toNat c)].length ≤ M
  · rw [if_pos h]
    exact .no (by simp at h; simp; omega) (.of (fun k => wire_Writer_Byte_j1_eq k c true M _) (.yes rfl .const))
  · rw [if_neg h]
    exact .yes (by simp at h; simp; omega) .const
theorem byte3 {M : Nat} (hM : M ≤ 65536) {b : List UInt8} (hb : b.length ≤ M) (c : Int) : Ans (fun k => wire_Writer_Byte_2 k c true (M : Int) b) (wres3 M b [UInt8.ofNat (Int.toNat c)]) := by
  refine .succ (fun k => wire_Writer_Byte_2_eq k c true M b) (.bind (none3 M b) (.of (fun k => wire_Writer_Byte_2_j0_eq k c true M b _) (.no rfl (.bind (room3 hM hb 1) ?_))))
  unfold wres3
  by_cases h : [UInt8.ofNat (Int.toNat c)].length + b.length ≤ M
  · rw [if_pos h]
    have h' : 1 + b.length ≤ M := by simpa using h
    have e : List.drop 0 (List.take b.length b) = b := by simp
    refine .no (by simp; omega) (.of (fun k => wire_Writer_Byte_2_j1_eq k c true M b _) (.bind (a := b.length) (.of (fun k => bnd_len b.length) .const) (.bind (a := b.length) (.of (fun k => bnd_len b.length) .const) (.yes (by simp) ?_))))
    rw [e]
    exact .yes (by simp; omega) .const
  · rw [if_neg h]
    exact .yes (by simp at h; simp; omega) .const
/-! ### The document's -/
theorem rputb {M : Nat} (hM : M ≤ 65536) (x : List UInt8) (hx : x.length ≤ 200000000000000) : Ans (fun k => ref02_Writer_put k x (M : Int)) (rres M x) := by
  refine .succ (fun k => ref02_Writer_put_eq k x M) ?_
  unfold rres
  by_cases h : x.length ≤ M
  · rw [if_pos h]
    refine .yes (by simp; omega) (.no (decide_eq_false ?_) (.of (fun k => ref02_Writer_put_j0_eq k x M) (.yes rfl (.yes (decide_eq_true ?_) .const))))
    · rw [wrap_id (by omega) (by omega)]; omega
    · simp; omega
  · rw [if_neg h]; exact .no (by simp; omega) .const
theorem rputb2 {M : Nat} (hM : M ≤ 65536) {b : List UInt8} (hb : b.length ≤ M) (x : List UInt8) (hx : x.length ≤ 200000000000000) : Ans (fun k => ref02_Writer_put_2 k x (M : Int) b) (rres2 M b x) := by
  refine .succ (fun k => ref02_Writer_put_2_eq k x M b) ?_
  unfold rres2
  by_cases h1 : x.length ≤ M
  · refine .yes (by simp; omega) ?_
    by_cases h : x.length + b.length ≤ M
    · rw [if_pos h]
      refine .no (decide_eq_false ?_) (.of (fun k => ref02_Writer_put_2_j0_eq k x M b) (.yes (decide_eq_true ?_) (.yes (decide_eq_true ?_) .const)))
      · rw [wrap_id (by omega) (by omega)]; omega
      · simp; omega
      · simp; omega
    · rw [if_neg h]
      refine .yes (decide_eq_true ?_) .const
      rw [wrap_id (by omega) (by omega)]; omega
  · rw [if_neg (by omega)]; exact .no (by simp; omega) .const
theorem rfin {M : Nat} {x : List UInt8} {f : Nat → Option ((Int × Int × Unit) ⊕ (Int × List UInt8 × Int × Unit))} (h : Ans f (rres M x)) :
    Ans (fun k => (f k).bind fun r1 => Sum.elim (fun r1 => some (Sum.inl (r1.1, r1.2.1, ()))) (fun r1 => some (Sum.inr (r1.1, r1.2.1, r1.2.2.1, ()))) r1) (rres M x) := by
  refine .bind h ?_
  unfold rres
  by_cases h : x.length ≤ M
  · rw [if_pos h]; exact .const
  · rw [if_neg h]; exact .const
theorem rfin2 {M : Nat} {b x : List UInt8} {f : Nat → Option ((Int × List UInt8 × Int × Unit) ⊕ (Int × List UInt8 × List UInt8 × Int × Unit))} (h : Ans f (rres2 M b x)) :
    Ans (fun k => (f k).bind fun r1 => Sum.elim (fun r1 => some (Sum.inl (r1.1, r1.2.1, r1.2.2.1, ()))) (fun r1 => some (Sum.inr (r1.1, r1.2.1, r1.2.2.1, r1.2.2.2.1, ()))) r1) (rres2 M b x) := by
  refine .bind h ?_
  unfold rres2
  by_cases h : x.length + b.length ≤ M
  · rw [if_pos h]; exact .const
  · rw [if_neg h]; exact .const
theorem rputint {m : Int} (h : -9223372036854775808 ≤ m ∧ m < 9223372036854775808) : Ans (fun k => ref01_PutInt k ([] : List UInt8) m) (enc (turn m), ()) :=
  .succ (fun k => ref01_PutInt_eq k [] m) (.bind (rturn h) (.bind (rput (turn_lt h)) .const))
theorem rint {M : Nat} {m : Int} (hM : M ≤ 65536) (h : -9223372036854775808 ≤ m ∧ m < 9223372036854775808) : Ans (fun k => ref02_Writer_Int k m (M : Int)) (rres M (enc (turn m))) :=
  .succ (fun k => ref02_Writer_Int_eq k m M) (.bind (rputint h) (rfin (rputb hM (enc (turn m)) (by have := enc_ten (turn_lt h); omega))))
theorem rint2 {M : Nat} {m : Int} (hM : M ≤ 65536) (h : -9223372036854775808 ≤ m ∧ m < 9223372036854775808) {b : List UInt8} (hb : b.length ≤ M) : Ans (fun k => ref02_Writer_Int_2 k m (M : Int) b) (rres2 M b (enc (turn m))) :=
  .succ (fun k => ref02_Writer_Int_2_eq k m M b) (.bind (rputint h) (rfin2 (rputb2 hM hb (enc (turn m)) (by have := enc_ten (turn_lt h); omega))))
theorem rtext {M : Nat} (hM : M ≤ 65536) (s : List UInt8) (hs : s.length ≤ 140737488351232) : Ans (fun k => ref02_Writer_Text k s (M : Int)) (rres M (enc s.length ++ s)) := by
  have h10 := enc_ten (n := s.length) (by omega)
  exact .succ (fun k => by rw [ref02_Writer_Text_eq, u64_id (n := s.length) (by omega)]) (.bind (rput (by omega)) (.yes (decide_eq_true (by show ((enc s.length).length + s.length) * 1 ≤ 140737488355328; omega)) (rfin (rputb hM (enc s.length ++ s) (by rw [List.length_append]; omega)))))
theorem rtext2 {M : Nat} (hM : M ≤ 65536) {b : List UInt8} (hb : b.length ≤ M) (s : List UInt8) (hs : s.length ≤ 140737488351232) : Ans (fun k => ref02_Writer_Text_2 k s (M : Int) b) (rres2 M b (enc s.length ++ s)) := by
  have h10 := enc_ten (n := s.length) (by omega)
  exact .succ (fun k => by rw [ref02_Writer_Text_2_eq, u64_id (n := s.length) (by omega)]) (.bind (rput (by omega)) (.yes (decide_eq_true (by show ((enc s.length).length + s.length) * 1 ≤ 140737488355328; omega)) (rfin2 (rputb2 hM hb (enc s.length ++ s) (by rw [List.length_append]; omega)))))
theorem rbyte {M : Nat} (hM : M ≤ 65536) (c : Int) : Ans (fun k => ref02_Writer_Byte k c (M : Int)) (rres M [UInt8.ofNat (Int.toNat c)]) :=
  .succ (fun k => ref02_Writer_Byte_eq k c M) (rfin (rputb hM [UInt8.ofNat (Int.toNat c)] (by simp)))
theorem rbyte2 {M : Nat} (hM : M ≤ 65536) {b : List UInt8} (hb : b.length ≤ M) (c : Int) : Ans (fun k => ref02_Writer_Byte_2 k c (M : Int) b) (rres2 M b [UInt8.ofNat (Int.toNat c)]) :=
  .succ (fun k => ref02_Writer_Byte_2_eq k c M b) (rfin2 (rputb2 hM hb [UInt8.ofNat (Int.toNat c)] (by simp)))
theorem done2 (M : Int) : Ans (fun k => wire_Writer_Done k true M) (true, M, ([] : List UInt8), ()) :=
  .succ (fun k => wire_Writer_Done_eq k true M) (.bind (none2 M) (.no rfl (.of (fun k => wire_Writer_Done_j0_eq k true M _) (.yes rfl .const))))
theorem done3 (M : Int) {b : List UInt8} (hb : b.length ≤ 65536) : Ans (fun k => wire_Writer_Done_2 k true M b) (true, M, b, b, ()) :=
  .succ (fun k => wire_Writer_Done_2_eq k true M b) (.bind (none3 M b) (.no rfl (.of (fun k => wire_Writer_Done_2_j0_eq k true M b _) (.yes (decide_eq_true (by show b.length * 1 ≤ 140737488355328; omega)) .const))))
/-! ### What is read -/
theorem may_ok {c t : Nat} (h0 : 0 < t → c ≠ 0) (h9 : t = 9 → c ≤ 1) : Ans (fun k => vint_may k (c : Int) (t : Int)) (true, ()) := by
  have J : Ans (fun k => vint_may_j0 k (c : Int) (t : Int) false) (true, ()) := by
    refine .of (fun k => vint_may_j0_eq k c t false) (.no rfl ?_)
    by_cases h : t = 9
    · exact .yes (by subst h; rfl) (.no (decide_eq_false (by have := h9 h; omega)) .const)
    · exact .no (by simp; omega) .const
  refine .succ (fun k => vint_may_eq k c t) ?_
  by_cases ht : 0 < t
  · have e : (((c : Nat) : Int) == 0) = false := by have := h0 ht; simp; omega
    rw [e]
    exact .yes (by simp; omega) J
  · exact .no (by simp; omega) J
theorem rnone2 (P : Int) (b : List UInt8) : Ans (fun k => wire_row_none_2 k true P b) (true, P, b, false, ()) := .succ (fun k => wire_row_none_2_eq k true P b) .const
theorem rnone3 (P : Int) (b : List UInt8) : Ans (fun k => wire_row_none_3 k true P b) (true, P, b, false, ()) := .succ (fun k => wire_row_none_3_eq k true P b) .const
theorem rlen1 (P : Int) (b : List UInt8) : Ans (fun k => wire_row_len k true P b) (true, P, b, ((List.length b : Nat) : Int), ()) := .succ (fun k => wire_row_len_eq k true P b) .const
theorem rlen2 (P : Int) (b : List UInt8) : Ans (fun k => wire_row_len_2 k true P b) (true, P, b, ((List.length b : Nat) : Int), ()) := .succ (fun k => wire_row_len_2_eq k true P b) .const
theorem take1 {b : List UInt8} {P most m e : Int} (hG : Ans (fun k => vint_Get k b P) (m, e, 0, ())) (hm : m ≤ most) : Ans (fun k => wire_Reader_take k most true P b) (Sum.inr (true, P, b, m, e, 0, ())) :=
  .succ (fun k => wire_Reader_take_eq k most true P b) (.bind (rnone2 P b) (.of (fun k => wire_Reader_take_j0_eq k most true P b _) (.no rfl (.of (fun k => wire_Reader_take_j1_eq k most true P b _) (.bind hG (.no rfl (.no (decide_eq_false (by show ¬ m > most; omega)) .const)))))))
theorem take2 {b : List UInt8} {P most m e : Int} (hG : Ans (fun k => vint_Get k b P) (m, e, 0, ())) (hm : m ≤ most) : Ans (fun k => wire_Reader_take_2 k most true P b) (true, P, b, m, e, 0, ()) :=
  .succ (fun k => wire_Reader_take_2_eq k most true P b) (.bind (rnone3 P b) (.of (fun k => wire_Reader_take_2_j0_eq k most true P b _) (.no rfl (.of (fun k => wire_Reader_take_2_j1_eq k most true P b _) (.bind hG (.no rfl (.no (decide_eq_false (by show ¬ m > most; omega)) .const)))))))
theorem back_ {m : Int} (h : -9223372036854775808 ≤ m ∧ m < 9223372036854775808) : Ans (fun k => vint_Back k (turn m : Int)) (m, ()) := .succ (fun k => by rw [vint_Back_eq, backP h]) .const
end Go.Ev.HpVY
