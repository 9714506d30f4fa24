/-
  DictPlays, the plain law.
-/
import Derived.Test.YtmfbfofcaphbmaaHpDP
import Derived.Test.YtmfbfofcaphbmaaHpVget
import Derived.Test.YtmfbfofcaphbmaaHpDict
set_option linter.unusedVariables false
set_option linter.unusedSectionVars false
namespace Go.Ev.HpDP
theorem idxA {α : Type} {xs : List α} {i : Nat} (h : i < xs.length) : Ans (fun _ => idx xs ((i : Nat) : Int)) xs[i] := .of (fun _ => idx_nat h) .const
def glen (m : Nat) : Nat := if m = 0 then 0 else (enc m).length
theorem enc_glen (n : Nat) : (enc n).length = 1 + glen (n / 128) := by
  by_cases h : n < 128
  · rw [enc_lt h, glen, if_pos (by omega)]; rfl
  · rw [enc_ge (by omega), glen, if_neg (by omega), List.length_cons]; omega
theorem groups_loop (N : Int) : ∀ (d m c : Nat), m < 128 ^ d → c + d ≤ 100 → Ans2 (fun k n => vint_groups_uint64_l0 k n N (m : Int) (c : Int)) (((c + glen m : Nat) : Int), ()) := by
  intro d
  induction d with
  | zero =>
    intro m c hm hc
    have h0 : m = 0 := by simpa using hm
    subst h0
    refine .succ (fun k n => ?_) .const
    rw [vint_groups_uint64_l0_eq]; rfl
  | succ d ih =>
    intro m c hm hc
    by_cases h0 : m = 0
    · subst h0
      refine .succ (fun k n => ?_) .const
      rw [vint_groups_uint64_l0_eq]; rfl
    · have hb : (((m : Nat) : Int) != 0) = true := by simp; omega
      have hd : m / 128 < 128 ^ d := by rw [Nat.div_lt_iff_lt_mul (by omega)]; rw [Nat.pow_succ] at hm; exact hm
      have L := ih (m / 128) (c + 1) hd (by omega)
      have e : c + glen m = c + 1 + glen (m / 128) := by
        have := enc_glen m
        rw [glen, if_neg h0, this]; omega
      rw [e]
      refine .succ (fun k n => ?_) L
      rw [vint_groups_uint64_l0_eq, hb, cond_true, fdiv7, wrap_succ (m := c + 1) (by omega) (by omega)]
theorem groups {n : Nat} (hn : n < 18446744073709551616) : Ans (fun k => vint_groups_uint64 k (n : Int)) (((enc n).length : Int), ()) := by
  have L := (groups_loop (n : Int) 10 (n / 128) 1 (Nat.lt_of_le_of_lt (Nat.div_le_self _ _) (Nat.lt_of_lt_of_le hn (by decide))) (by omega)).diag
  rw [enc_glen n]
  refine .succ (fun k => ?_) L
  rw [vint_groups_uint64_eq, fdiv7]; rfl
theorem byteP {m : Nat} (hm : m < 18446744073709551616) : UInt8.ofNat (Int.toNat (IntKind.u8.wrap (((BitVec.ofInt (IntKind.u8).bits (IntKind.u8.wrap (IntKind.u64.wrap (((BitVec.ofInt (IntKind.u64).bits (m : Int) &&& BitVec.ofInt (IntKind.u64).bits 127).toNat : Int)))) ||| BitVec.ofInt (IntKind.u8).bits 128).toNat : Int)))) = UInt8.ofNat (m % 128 + 128) := by
  rw [and127 hm, u64_id (n := m % 128) (by omega), u8_id (n := m % 128) (by omega), or128 (n := m % 128) (by omega), u8_id (n := m % 128 + 128) (by omega), Int.toNat_natCast]
theorem byteR {m : Nat} : UInt8.ofNat (Int.toNat (IntKind.u8.wrap (IntKind.u64.wrap ((Int.tmod (m : Int) 128) + 128)))) = UInt8.ofNat (m % 128 + 128) := by
  have e : (Int.tmod (m : Int) 128) + 128 = ((m % 128 + 128 : Nat) : Int) := by rw [tmod7]; omega
  rw [e, u64_id (by omega), u8_id (by omega), Int.toNat_natCast]
theorem byteL {m : Nat} (hm : m < 128) : UInt8.ofNat (Int.toNat (IntKind.u8.wrap (m : Int))) = UInt8.ofNat m := by
  rw [u8_id (by omega), Int.toNat_natCast]
theorem put_loop (b : List UInt8) (N : Int) : ∀ (d m : Nat) (out : List UInt8), m < 128 ^ d → m < 18446744073709551616 → out.length + d ≤ 1000000 → Ans2 (fun k n => vint_Put_l0 k n b N (m : Int) out) (out ++ enc m, ()) := by
  intro d
  have last : ∀ (m : Nat) (out : List UInt8), m < 128 → out.length ≤ 1000000 → Ans2 (fun k n => vint_Put_l0 k n b N (m : Int) out) (out ++ enc m, ()) := by
    intro m out h hl
    rw [enc_lt h]
    refine .succ (fun k n => ?_) .const
    rw [vint_Put_l0_eq, decide_eq_false (by omega), cond_false, byteL h, decide_eq_true (by simp; omega), cond_true]
  induction d with
  | zero =>
    intro m out hm _ hl
    have : m < 128 := by simp at hm; omega
    exact last m out this (by omega)
  | succ d ih =>
    intro m out hm h64 hl
    by_cases h : m < 128
    · exact last m out h (by omega)
    · have hd : m / 128 < 128 ^ d := by rw [Nat.div_lt_iff_lt_mul (by omega)]; rw [Nat.pow_succ] at hm; exact hm
      have L := ih (m / 128) (out ++ [UInt8.ofNat (m % 128 + 128)]) hd (by omega) (by simp; omega)
      have e : out ++ enc m = out ++ [UInt8.ofNat (m % 128 + 128)] ++ enc (m / 128) := by rw [enc_ge (by omega)]; simp
      rw [e]
      refine .succ (fun k n => ?_) L
      rw [vint_Put_l0_eq, decide_eq_true (by omega), cond_true, byteP h64, decide_eq_true (by simp; omega), cond_true, fdiv7]
theorem put {n : Nat} (hn : n < 18446744073709551616) {b : List UInt8} (hb : b.length ≤ 100000) : Ans (fun k => vint_Put k b (n : Int)) (b ++ enc n, ()) := by
  have h10 := enc_ten hn
  have h1 := enc_pos n
  have e : IntKind.i64.wrap (((List.length b : Nat) : Int) + ((enc n).length : Int)) = ((List.length b + (enc n).length : Nat) : Int) := by rw [wrap_id (by omega) (by omega)]; omega
  refine .succ (fun k => vint_Put_eq k b n) (.bind (groups hn) (.yes ?_ (.yes ?_ (put_loop b n 10 n b (Nat.lt_of_lt_of_le hn (by decide)) hn (by omega)).diag)))
  · rw [e]
    simp only [Bool.and_eq_true, decide_eq_true_eq]
    omega
  · simp
theorem rput_loop (b : List UInt8) (N : Int) : ∀ (d m : Nat) (out : List UInt8), m < 128 ^ d → m < 18446744073709551616 → out.length + d ≤ 1000000 → Ans2 (fun k n => ref01_Put_l0 k n b N (m : Int) out) (out ++ enc m, ()) := by
  intro d
  have last : ∀ (m : Nat) (out : List UInt8), m < 128 → out.length ≤ 1000000 → Ans2 (fun k n => ref01_Put_l0 k n b N (m : Int) out) (out ++ enc m, ()) := by
    intro m out h hl
    rw [enc_lt h]
    refine .succ (fun k n => ?_) .const
    rw [ref01_Put_l0_eq, decide_eq_false (by omega), cond_false, byteL h, decide_eq_true (by simp; omega), cond_true]
  induction d with
  | zero =>
    intro m out hm _ hl
    have : m < 128 := by simp at hm; omega
    exact last m out this (by omega)
  | succ d ih =>
    intro m out hm h64 hl
    by_cases h : m < 128
    · exact last m out h (by omega)
    · have hd : m / 128 < 128 ^ d := by rw [Nat.div_lt_iff_lt_mul (by omega)]; rw [Nat.pow_succ] at hm; exact hm
      have L := ih (m / 128) (out ++ [UInt8.ofNat (m % 128 + 128)]) hd (by omega) (by simp; omega)
      have e : out ++ enc m = out ++ [UInt8.ofNat (m % 128 + 128)] ++ enc (m / 128) := by rw [enc_ge (by omega)]; simp
      rw [e]
      refine .succ (fun k n => ?_) L
      rw [ref01_Put_l0_eq, decide_eq_true (by omega), cond_true, byteR, decide_eq_true (by simp; omega), cond_true, tdiv7, u64_id (by omega)]
theorem rput {n : Nat} (hn : n < 18446744073709551616) : Ans (fun k => ref01_Put k ([] : List UInt8) (n : Int)) (enc n, ()) :=
  .succ (fun k => ref01_Put_eq k [] n) (.yes rfl (rput_loop [] n 10 n [] (Nat.lt_of_lt_of_le hn (by decide)) hn (by simp)).diag)
/-! ### What is written -/
def wres (M : Nat) (x : List UInt8) : (Bool × Int × Int × Unit) ⊕ (Bool × Int × List UInt8 × Int × Unit) := if x.length ≤ M then Sum.inr (true, (M : Int), x, 0, ()) else Sum.inl (true, (M : Int), 2, ())
def wres3 (M : Nat) (b x : List UInt8) : (Bool × Int × List UInt8 × Int × Unit) ⊕ (Bool × Int × List UInt8 × List UInt8 × Int × Unit) := if x.length + b.length ≤ M then Sum.inr (true, (M : Int), b, b ++ x, 0, ()) else Sum.inl (true, (M : Int), b, 2, ())
def rres (M : Nat) (x : List UInt8) : (Int × Int × Unit) ⊕ (Int × List UInt8 × Int × Unit) := if x.length ≤ M then Sum.inr ((M : Int), x, 0, ()) else Sum.inl ((M : Int), 2, ())
def rres2 (M : Nat) (b x : List UInt8) : (Int × List UInt8 × Int × Unit) ⊕ (Int × List UInt8 × List UInt8 × Int × Unit) := if x.length + b.length ≤ M then Sum.inr ((M : Int), b, b ++ x, 0, ()) else Sum.inl ((M : Int), b, 2, ())
theorem none2 (M : Int) : Ans (fun k => wire_row_none k true M) (true, M, false, ()) := .succ (fun k => wire_row_none_eq k true M) .const
theorem none3 (M : Int) (b : List UInt8) : Ans (fun k => wire_row_none_2 k true M b) (true, M, b, false, ()) := .succ (fun k => wire_row_none_2_eq k true M b) .const
theorem room2 {M : Nat} (hM : M ≤ 65536) (x : Nat) : Ans (fun k => wire_Writer_room k (x : Int) true (M : Int)) (true, (M : Int), decide (x ≤ M), ()) := by
  refine .succ (fun k => wire_Writer_room_eq k x true M) (.bind (.succ (fun k => wire_row_len_eq k true M) .const) ?_)
  have e : decide ((x : Int) ≤ IntKind.i64.wrap ((M : Int) - 0)) = decide (x ≤ M) := by
    rw [wrap_id (by omega) (by omega)]; exact decide_eq_decide.2 (by omega)
  show Ans (fun k => some (true, (M : Int), decide ((x : Int) ≤ IntKind.i64.wrap ((M : Int) - 0)), ())) _
  rw [e]; exact .const
theorem room3 {M : Nat} (hM : M ≤ 65536) {b : List UInt8} (hb : b.length ≤ M) (x : Nat) : Ans (fun k => wire_Writer_room_2 k (x : Int) true (M : Int) b) (true, (M : Int), b, decide (x + b.length ≤ M), ()) := by
  refine .succ (fun k => wire_Writer_room_2_eq k x true M b) (.bind (.succ (fun k => wire_row_len_2_eq k true M b) .const) ?_)
  have e : decide ((x : Int) ≤ IntKind.i64.wrap ((M : Int) - ((List.length b : Nat) : Int))) = decide (x + b.length ≤ M) := by
    rw [wrap_id (by omega) (by omega)]; exact decide_eq_decide.2 (by omega)
  show Ans (fun k => some (true, (M : Int), b, decide ((x : Int) ≤ IntKind.i64.wrap ((M : Int) - ((List.length b : Nat) : Int))), ())) _
  rw [e]; exact .const
theorem size_ {n : Nat} (hn : n < 18446744073709551616) : Ans (fun k => vint_Size k (n : Int)) (((enc n).length : Int), ()) := .succ (fun k => vint_Size_eq k n) (.bind (groups hn) .const)
theorem num2 {M n : Nat} (hM : M ≤ 65536) (hn : n < 18446744073709551616) : Ans (fun k => wire_Writer_Num k (n : Int) true (M : Int)) (wres M (enc n)) := by
  refine .succ (fun k => wire_Writer_Num_eq k n true M) (.bind (none2 M) (.of (fun k => wire_Writer_Num_j0_eq k n true M _) (.no rfl (.bind (size_ hn) (.bind (room2 hM _) ?_)))))
  unfold wres
  by_cases h : (enc n).length ≤ M
  · rw [if_pos h]
    refine .no (by simp [h]) (.of (fun k => wire_Writer_Num_j1_eq k n true M _) (.bind (put hn (b := []) (by simp)) ?_))
    exact .const
  · rw [if_neg h]; exact .yes (by simp; omega) .const
theorem text2 {M : Nat} (hM : M ≤ 65536) (s : List UInt8) (hs : s.length ≤ 140737488355328) : Ans (fun k => wire_Writer_Text k s true (M : Int)) (wres M (enc s.length ++ s)) := by
  have h10 := enc_ten (n := s.length) (by omega)
  refine .succ (fun k => wire_Writer_Text_eq k s true M) (.bind (none2 M) (.of (fun k => wire_Writer_Text_j0_eq k s true M _) (.no rfl ?_)))
  unfold wres
  by_cases h1 : s.length ≤ M
  · refine .yes (by simp; omega) (.of (fun k => by rw [u64_id (n := s.length) (by omega)]) (.bind (size_ (by omega)) ?_))
    have e : IntKind.i64.wrap (((enc s.length).length : Int) + ((List.length s : Nat) : Int)) = (((enc s.length).length + s.length : Nat) : Int) := by rw [wrap_id (by omega) (by omega)]; omega
    refine .of (fun k => by rw [show IntKind.i64.wrap (((((enc s.length).length : Nat) : Int), ()).1 + ((List.length s : Nat) : Int)) = (((enc s.length).length + s.length : Nat) : Int) from e]) (.bind (room2 hM _) ?_)
    by_cases h : (enc s.length ++ s).length ≤ M
    · rw [if_pos h]
      rw [List.length_append] at h
      exact .no (by simp [h]) (.of (fun k => by rw [wire_Writer_Text_j1_eq, u64_id (n := s.length) (by omega)]) (.bind (put (by omega) (b := []) (by simp)) (.yes (decide_eq_true (by show (([] ++ enc s.length : List UInt8).length + s.length) * 1 ≤ 140737488355328; simp only [List.nil_append]; omega)) .const)))
    · rw [if_neg h]
      rw [List.length_append] at h
      exact .yes (by simp; omega) .const
  · rw [if_neg (by rw [List.length_append]; omega)]
    exact .no (by simp; omega) .const
theorem text3 {M : Nat} (hM : M ≤ 65536) {b : List UInt8} (hb : b.length ≤ M) (s : List UInt8) (hs : s.length ≤ 140737488355328) : Ans (fun k => wire_Writer_Text_2 k s true (M : Int) b) (wres3 M b (enc s.length ++ s)) := by
  have h10 := enc_ten (n := s.length) (by omega)
  refine .succ (fun k => wire_Writer_Text_2_eq k s true M b) (.bind (none3 M b) (.of (fun k => wire_Writer_Text_2_j0_eq k s true M b _) (.no rfl ?_)))
  unfold wres3
  by_cases h1 : s.length ≤ M
  · refine .yes (by simp; omega) (.of (fun k => by rw [u64_id (n := s.length) (by omega)]) (.bind (size_ (by omega)) ?_))
    have e : IntKind.i64.wrap (((enc s.length).length : Int) + ((List.length s : Nat) : Int)) = (((enc s.length).length + s.length : Nat) : Int) := by rw [wrap_id (by omega) (by omega)]; omega
    refine .of (fun k => by rw [show IntKind.i64.wrap (((((enc s.length).length : Nat) : Int), ()).1 + ((List.length s : Nat) : Int)) = (((enc s.length).length + s.length : Nat) : Int) from e]) (.bind (room3 hM hb _) ?_)
    by_cases h : (enc s.length ++ s).length + b.length ≤ M
    · rw [if_pos h]
      rw [List.length_append] at h
      rw [← List.append_assoc]
      exact .no (by simp [h]) (.of (fun k => by rw [wire_Writer_Text_2_j1_eq, u64_id (n := s.length) (by omega)]) (.bind (put (by omega) (b := b) (by omega)) (.yes (decide_eq_true (by show ((b ++ enc s.length : List UInt8).length + s.length) * 1 ≤ 140737488355328; simp only [List.length_append]; omega)) .const)))
    · rw [if_neg h]
      rw [List.length_append] at h
      exact .yes (by simp; omega) .const
  · rw [if_neg (by rw [List.length_append]; omega)]
    exact .no (by simp; omega) .const
/-! ### The document's -/
theorem rputb {M : Nat} (hM : M ≤ 65536) (x : List UInt8) (hx : x.length ≤ 200000000000000) : Ans (fun k => ref02_Writer_put k x (M : Int)) (rres M x) := by
  refine .succ (fun k => ref02_Writer_put_eq k x M) ?_
  unfold rres
  by_cases h : x.length ≤ M
  · rw [if_pos h]
    refine .yes (by simp; omega) (.no (decide_eq_false ?_) (.of (fun k => ref02_Writer_put_j0_eq k x M) (.yes rfl (.yes (decide_eq_true ?_) .const))))
    · rw [wrap_id (by omega) (by omega)]; omega
    · simp; omega
  · rw [if_neg h]; exact .no (by simp; omega) .const
theorem rputb2 {M : Nat} (hM : M ≤ 65536) {b : List UInt8} (hb : b.length ≤ M) (x : List UInt8) (hx : x.length ≤ 200000000000000) : Ans (fun k => ref02_Writer_put_2 k x (M : Int) b) (rres2 M b x) := by
  refine .succ (fun k => ref02_Writer_put_2_eq k x M b) ?_
  unfold rres2
  by_cases h1 : x.length ≤ M
  · refine .yes (by simp; omega) ?_
    by_cases h : x.length + b.length ≤ M
    · rw [if_pos h]
      refine .no (decide_eq_false ?_) (.of (fun k => ref02_Writer_put_2_j0_eq k x M b) (.yes (decide_eq_true ?_) (.yes (decide_eq_true ?_) .const)))
      · rw [wrap_id (by omega) (by omega)]; omega
      · simp; omega
      · simp; omega
    · rw [if_neg h]
      refine .yes (decide_eq_true ?_) .const
      rw [wrap_id (by omega) (by omega)]; omega
  · rw [if_neg (by omega)]; exact .no (by simp; omega) .const
theorem rfin {M : Nat} {x : List UInt8} {f : Nat → Option ((Int × Int × Unit) ⊕ (Int × List UInt8 × Int × Unit))} (h : Ans f (rres M x)) :
    Ans (fun k => (f k).bind fun r1 => Sum.elim (fun r1 => some (Sum.inl (r1.1, r1.2.1, ()))) (fun r1 => some (Sum.inr (r1.1, r1.2.1, r1.2.2.1, ()))) r1) (rres M x) := by
  refine .bind h ?_
  unfold rres
  by_cases h : x.length ≤ M
  · rw [if_pos h]; exact .const
  · rw [if_neg h]; exact .const
theorem rfin2 {M : Nat} {b x : List UInt8} {f : Nat → Option ((Int × List UInt8 × Int × Unit) ⊕ (Int × List UInt8 × List UInt8 × Int × Unit))} (h : Ans f (rres2 M b x)) :
    Ans (fun k => (f k).bind fun r1 => Sum.elim (fun r1 => some (Sum.inl (r1.1, r1.2.1, r1.2.2.1, ()))) (fun r1 => some (Sum.inr (r1.1, r1.2.1, r1.2.2.1, r1.2.2.2.1, ()))) r1) (rres2 M b x) := by
  refine .bind h ?_
  unfold rres2
  by_cases h : x.length + b.length ≤ M
  · rw [if_pos h]; exact .const
  · rw [if_neg h]; exact .const
theorem rtext {M : Nat} (hM : M ≤ 65536) (s : List UInt8) (hs : s.length ≤ 140737488351232) : Ans (fun k => ref02_Writer_Text k s (M : Int)) (rres M (enc s.length ++ s)) := by
  have h10 := enc_ten (n := s.length) (by omega)
  exact .succ (fun k => by rw [ref02_Writer_Text_eq, u64_id (n := s.length) (by omega)]) (.bind (rput (by omega)) (.yes (decide_eq_true (by show ((enc s.length).length + s.length) * 1 ≤ 140737488355328; omega)) (rfin (rputb hM (enc s.length ++ s) (by rw [List.length_append]; omega)))))
theorem rtext2 {M : Nat} (hM : M ≤ 65536) {b : List UInt8} (hb : b.length ≤ M) (s : List UInt8) (hs : s.length ≤ 140737488351232) : Ans (fun k => ref02_Writer_Text_2 k s (M : Int) b) (rres2 M b (enc s.length ++ s)) := by
  have h10 := enc_ten (n := s.length) (by omega)
  exact .succ (fun k => by rw [ref02_Writer_Text_2_eq, u64_id (n := s.length) (by omega)]) (.bind (rput (by omega)) (.yes (decide_eq_true (by show ((enc s.length).length + s.length) * 1 ≤ 140737488355328; omega)) (rfin2 (rputb2 hM hb (enc s.length ++ s) (by rw [List.length_append]; omega)))))
theorem done2 (M : Int) : Ans (fun k => wire_Writer_Done k true M) (true, M, ([] : List UInt8), ()) :=
  .succ (fun k => wire_Writer_Done_eq k true M) (.bind (none2 M) (.no rfl (.of (fun k => wire_Writer_Done_j0_eq k true M _) (.yes rfl .const))))
theorem done3 (M : Int) {b : List UInt8} (hb : b.length ≤ 65536) : Ans (fun k => wire_Writer_Done_2 k true M b) (true, M, b, b, ()) :=
  .succ (fun k => wire_Writer_Done_2_eq k true M b) (.bind (none3 M b) (.no rfl (.of (fun k => wire_Writer_Done_2_j0_eq k true M b _) (.yes (decide_eq_true (by show b.length * 1 ≤ 140737488355328; omega)) .const))))
theorem rnum {M n : Nat} (hM : M ≤ 65536) (hn : n < 18446744073709551616) : Ans (fun k => ref02_Writer_Num k (n : Int) (M : Int)) (rres M (enc n)) :=
  .succ (fun k => ref02_Writer_Num_eq k n M) (.bind (rput hn) (rfin (rputb hM (enc n) (by have := enc_ten hn; omega))))
end Go.Ev.HpDP
set_option linter.unusedVariables false
set_option linter.unusedSectionVars false
namespace Go.Ev.HpDP
theorem none1 (M : Int) (ks : List Bytes) (vs : List Int) : Ans (fun k => dict_Dict_none_2 k M ks vs) (M, ks, vs, false, ()) := .succ (fun k => dict_Dict_none_2_eq k M ks vs) .const
theorem dnone2 (M : Int) (l ks : List Bytes) (vs : List Int) : Ans (fun k => dict_Dict_none_3 k M l ks vs) (M, l, ks, vs, false, ()) := .succ (fun k => dict_Dict_none_3_eq k M l ks vs) .const
theorem bndl {n : Nat} : Ans (fun _ => bnd (.int .i64 ((n : Nat) : Int)) n) n := .of (fun _ => bnd_len n) .const
theorem len1 (M : Int) (ks : List Bytes) (vs : List Int) : Ans (fun k => dict_Dict_Len_2 k M ks vs) (M, ks, vs, 0, ()) := .succ (fun k => dict_Dict_Len_2_eq k M ks vs) (.bind (none1 M ks vs) (.no rfl .const))
theorem len2 (M : Int) (l ks : List Bytes) (vs : List Int) : Ans (fun k => dict_Dict_Len_3 k M l ks vs) (M, l, ks, vs, ((List.length l : Nat) : Int), ()) := .succ (fun k => dict_Dict_Len_3_eq k M l ks vs) (.bind (dnone2 M l ks vs) (.no rfl .const))
/-! ### Find -/
def findI (l : List Bytes) (s : Bytes) : Int := if s ∈ l then ((l.idxOf s : Nat) : Int) else 0
theorem rfind_loop (M : Int) (l : List Bytes) (s : Bytes) (hl : l.length ≤ 4096) (hd : l.Nodup) : ∀ (d i : Nat), i + d = l.length → (∀ j (h : j < l.length), j < i → l[j] ≠ s) →
    Ans2 (fun k n => ref23_Dict_Find_2_l0 k n s M l (i : Int)) (M, l, findI l s, decide (s ∈ l), ()) := by
  intro d
  induction d with
  | zero =>
    intro i hi hno
    have hm : s ∉ l := fun hm => by
      obtain ⟨j, hj, e⟩ := List.mem_iff_getElem.1 hm
      exact hno j hj (by omega) e
    rw [findI, if_neg hm, decide_eq_false hm]
    exact .succ (fun k n => ref23_Dict_Find_2_l0_eq k n s M l i) (.no (nlt_nat (by omega)) .const)
  | succ d ih =>
    intro i hi hno
    have hlt : i < l.length := by omega
    by_cases he : l[i] = s
    · have hm : s ∈ l := by rw [← he]; exact List.getElem_mem hlt
      have hx : l.idxOf s = i := by
        have h1 := List.idxOf_lt_length_of_mem hm
        have h2 := idxOf_get hm
        rcases Nat.lt_trichotomy (l.idxOf s) i with h | h | h
        · exact absurd h2 (hno _ h1 h)
        · exact h
        · exact absurd (he.trans h2.symm) (List.pairwise_iff_getElem.1 hd i _ hlt h1 h)
      rw [findI, if_pos hm, decide_eq_true hm, hx]
      exact .succ (fun k n => ref23_Dict_Find_2_l0_eq k n s M l i) (.yes (lt_nat hlt) (.bind (idxA0 hlt) (.bind (getA0 hlt) (.yes (show (l[i] == s) = true from beq_iff_eq.2 he) .const))))
    · exact .succ (fun k n => by rw [ref23_Dict_Find_2_l0_eq, wrap_succ (m := 5000) (i := i) (by omega) (by omega)]) (.yes (lt_nat hlt) (.bind (idxA0 hlt) (.bind (getA0 hlt) (.no (show (l[i] == s) = false from beq_eq_false_iff_ne.2 he) (ih (i + 1) (by omega) fun j h hj => by
        by_cases e : j = i
        · subst e; exact he
        · exact hno j h (by omega))))))
theorem rfind2 (M : Int) (l : List Bytes) (s : Bytes) (hl : l.length ≤ 4096) (hd : l.Nodup) : Ans (fun k => ref23_Dict_Find_2 k s M l) (M, l, findI l s, decide (s ∈ l), ()) :=
  .succ (fun k => ref23_Dict_Find_2_eq k s M l) (rfind_loop M l s hl hd l.length 0 (by omega) fun j h hj => by omega).diag
theorem rfind1 (M : Int) (s : Bytes) : Ans (fun k => ref23_Dict_Find k s M) (M, 0, false, ()) := .succ (fun k => ref23_Dict_Find_eq k s M) (Ans2.diag (f := fun k n => ref23_Dict_Find_l0 k n s M) (.succ (fun k n => ref23_Dict_Find_l0_eq k n s M) .const))
theorem find1 (M : Int) (s : Bytes) : Ans (fun k => dict_Dict_Find_2 k s M [] []) (M, [], [], 0, false, ()) := .succ (fun k => dict_Dict_Find_2_eq k s M [] []) (.bind (none1 M [] []) (.no rfl .const))
theorem find2 (M : Int) (l : List Bytes) (s : Bytes) : Ans (fun k => dict_Dict_Find_3 k s M l l (nums l.length)) (M, l, l, nums l.length, findI l s, decide (s ∈ l), ()) := by
  refine .succ (fun k => dict_Dict_Find_3_eq k s M l l _) (.bind (dnone2 M l l _) (.no rfl ?_))
  show Ans (fun k => some (M, l, l, nums l.length, lookM l (nums l.length) s 0, hasK l s, ())) _
  have e : lookM l (nums l.length) s 0 = findI l s := by
    unfold findI
    by_cases h : s ∈ l
    · rw [if_pos h, lookNums h]
    · rw [if_neg h]; exact lookNo l 0 s h
  rw [e, hasK_iff]
  exact .const
/-! ### Get -/
def getS (l : List Bytes) (x : Int) : Bytes := if 0 ≤ x ∧ x < (l.length : Int) then (l[x.toNat]?).getD [] else []
def getE (l : List Bytes) (x : Int) : Int := if 0 ≤ x ∧ x < (l.length : Int) then 0 else 6
theorem get1 (M x : Int) : Ans (fun k => dict_Dict_Get_2 k x M [] []) (M, [], [], [], 6, ()) := by
  refine .succ (fun k => dict_Dict_Get_2_eq k x M [] []) (.bind (none1 M [] []) (.no rfl ?_))
  by_cases h : x < 0
  · exact .yes (decide_eq_true h) .const
  · exact .no (decide_eq_false h) (.yes (decide_eq_true (by omega)) .const)
theorem rget1 (M x : Int) : Ans (fun k => ref23_Dict_Get k x M) (M, [], 6, ()) := by
  refine .succ (fun k => ref23_Dict_Get_eq k x M) ?_
  by_cases h : x < 0
  · exact .no (by simp [h]) .const
  · exact .yes (by simp [h]) (.yes (decide_eq_true (by omega)) .const)
theorem get2 (M x : Int) (l ks : List Bytes) (vs : List Int) : Ans (fun k => dict_Dict_Get_3 k x M l ks vs) (M, l, ks, vs, getS l x, getE l x, ()) := by
  refine .succ (fun k => dict_Dict_Get_3_eq k x M l ks vs) (.bind (dnone2 M l ks vs) (.no rfl ?_))
  unfold getS getE
  by_cases h : x < 0
  · rw [if_neg (by omega), if_neg (by omega)]
    exact .yes (decide_eq_true h) .const
  · refine .no (decide_eq_false h) ?_
    by_cases h2 : x < (l.length : Int)
    · obtain ⟨i, rfl⟩ : ∃ i : Nat, x = (i : Int) := ⟨x.toNat, by omega⟩
      have hi : i < l.length := by omega
      rw [if_pos (by omega), if_pos (by omega), Int.toNat_natCast, List.getElem?_eq_getElem hi, Option.getD_some]
      exact .no (decide_eq_false (by show ¬ (i : Int) ≥ ((List.length l : Nat) : Int); omega)) (.of (fun k => dict_Dict_Get_3_j0_eq k i M l ks vs _) (.bind (idxA0 hi) (.bind (getA0 hi) .const)))
    · rw [if_neg (by omega), if_neg (by omega)]
      exact .yes (decide_eq_true (by show x ≥ ((List.length l : Nat) : Int); omega)) .const
theorem rget2 (M x : Int) (l : List Bytes) : Ans (fun k => ref23_Dict_Get_2 k x M l) (M, l, getS l x, getE l x, ()) := by
  refine .succ (fun k => ref23_Dict_Get_2_eq k x M l) ?_
  unfold getS getE
  by_cases h : x < 0
  · rw [if_neg (by omega), if_neg (by omega)]
    exact .no (by simp [h]) .const
  · refine .yes (by simp [h]) ?_
    by_cases h2 : x < (l.length : Int)
    · obtain ⟨i, rfl⟩ : ∃ i : Nat, x = (i : Int) := ⟨x.toNat, by omega⟩
      have hi : i < l.length := by omega
      rw [if_pos (by omega), if_pos (by omega), Int.toNat_natCast, List.getElem?_eq_getElem hi, Option.getD_some]
      exact .no (decide_eq_false (by show ¬ (i : Int) ≥ ((List.length l : Nat) : Int); omega)) (.of (fun k => ref23_Dict_Get_2_j0_eq k i M l) (.bind (idxA0 hi) (.bind (getA0 hi) .const)))
    · rw [if_neg (by omega), if_neg (by omega)]
      exact .yes (decide_eq_true (by show x ≥ ((List.length l : Nat) : Int); omega)) .const
/-! ### Add -/
theorem add1 (M : Nat) (s : Bytes) :
    (Ans (fun k => dict_Dict_Add_2 k s M [] []) (Sum.inl ((M : Int), [], [], 0, 2, ())) ∧ Ans (fun k => ref23_Dict_Add k s M) (Sum.inl ((M : Int), 0, 2, ()))) ∨
    (List.length s ≤ 256 ∧ Ans (fun k => dict_Dict_Add_2 k s M [] []) (Sum.inr ((M : Int), [s], nums 1, [s], 0, 0, ())) ∧ Ans (fun k => ref23_Dict_Add k s M) (Sum.inr ((M : Int), [s], 0, 0, ()))) := by
  have F := rfind1 (M : Int) s
  by_cases h : List.length s ≤ 256
  · have c : (decide (((List.length s : Nat) : Int) > 256) == false) = true := by simp; omega
    by_cases hM : M = 0
    · subst hM
      exact .inl ⟨.succ (fun k => dict_Dict_Add_2_eq k s _ [] []) (.bind (none1 _ [] []) (.no rfl (.no rfl (.yes c (.yes rfl .const))))), .succ (fun k => ref23_Dict_Add_eq k s _) (.bind F (.no rfl (.yes c (.yes rfl .const))))⟩
    · exact .inr ⟨h, .succ (fun k => dict_Dict_Add_2_eq k s M [] []) (.bind (none1 M [] []) (.no rfl (.no rfl (.yes c (.no (decide_eq_false (by show ¬ (0 : Int) ≥ (M : Int); omega)) (.of (fun k => dict_Dict_Add_2_j0_eq k s M [] [] _) (.yes rfl .const))))))),
        .succ (fun k => ref23_Dict_Add_eq k s M) (.bind F (.no rfl (.yes c (.no (decide_eq_false (by show ¬ (0 : Int) ≥ (M : Int); omega)) (.of (fun k => ref23_Dict_Add_j0_eq k s M _) (.yes rfl (.yes rfl .const)))))))⟩
  · have c : (decide (((List.length s : Nat) : Int) > 256) == false) = false := by simp; omega
    exact .inl ⟨.succ (fun k => dict_Dict_Add_2_eq k s M [] []) (.bind (none1 M [] []) (.no rfl (.no rfl (.no c .const)))), .succ (fun k => ref23_Dict_Add_eq k s M) (.bind F (.no rfl (.no c .const)))⟩
theorem add2 (M : Nat) (hM : M ≤ 4096) (l : List Bytes) (hl : l.length ≤ 60) (hd : l.Nodup) (s : Bytes) :
    (∃ a e : Int, Ans (fun k => dict_Dict_Add_3 k s M l l (nums l.length)) (Sum.inl ((M : Int), l, l, nums l.length, a, e, ())) ∧ Ans (fun k => ref23_Dict_Add_2 k s M l) (Sum.inl ((M : Int), l, a, e, ()))) ∨
    (List.length s ≤ 256 ∧ s ∉ l ∧ Ans (fun k => dict_Dict_Add_3 k s M l l (nums l.length)) (Sum.inr ((M : Int), l, l ++ [s], nums (l ++ [s]).length, l ++ [s], ((l.length : Nat) : Int), 0, ())) ∧ Ans (fun k => ref23_Dict_Add_2 k s M l) (Sum.inr ((M : Int), l, l ++ [s], ((l.length : Nat) : Int), 0, ()))) := by
  have F := rfind2 (M : Int) l s (by omega) hd
  by_cases hm : s ∈ l
  · have hk : hasK l s = true := by rw [hasK_iff]; exact decide_eq_true hm
    rw [findI, if_pos hm, decide_eq_true hm] at F
    refine .inl ⟨((l.idxOf s : Nat) : Int), 0, .succ (fun k => dict_Dict_Add_3_eq k s M l l _) (.bind (dnone2 M l l _) (.no rfl (.yes hk ?_))), .succ (fun k => ref23_Dict_Add_2_eq k s M l) (.bind F (.yes rfl .const))⟩
    show Ans (fun k => some (Sum.inl ((M : Int), l, l, nums l.length, lookM l (nums l.length) s 0, 0, ()))) _
    rw [lookNums hm]; exact .const
  · have hk : hasK l s = false := by rw [hasK_iff]; exact decide_eq_false hm
    rw [findI, if_neg hm, decide_eq_false hm] at F
    by_cases h : List.length s ≤ 256
    · have c : (decide (((List.length s : Nat) : Int) > 256) == false) = true := by simp; omega
      by_cases hlM : l.length < M
      · refine .inr ⟨h, hm, .succ (fun k => dict_Dict_Add_3_eq k s M l l _) (.bind (dnone2 M l l _) (.no rfl (.no hk (.yes c (.no (decide_eq_false (by show ¬ ((List.length l : Nat) : Int) ≥ (M : Int); omega)) (.of (fun k => dict_Dict_Add_3_j0_eq k s M l l _ _) (.bind (a := l.length) bndl (.bind (a := l.length) bndl (.yes (by simp) ?_))))))))),
          .succ (fun k => ref23_Dict_Add_2_eq k s M l) (.bind F (.no rfl (.yes c (.no (decide_eq_false (by show ¬ ((List.length l : Nat) : Int) ≥ (M : Int); omega)) (.of (fun k => ref23_Dict_Add_2_j0_eq k s M l _) (.yes (decide_eq_true ?_) (.yes (decide_eq_true ?_) ?_)))))))⟩
        · show Ans (fun k => (bif (decide ((List.length (List.drop 0 (List.take l.length l)) + List.length ([s] : List Bytes)) * 16 ≤ 140737488355328) && decide (0 < List.length ([s] : List Bytes))) then some (Sum.inr ((M : Int), l, (putK l s), (putV l (nums l.length) s ((List.length l : Nat) : Int)), ((List.drop 0 (List.take l.length l)) ++ ([s] : List Bytes)), ((List.length l : Nat) : Int), 0, ())) else none)) _
          rw [putK_new l s hm, putNums hm, List.take_length, List.drop_zero]
          exact .yes (by simp; omega) .const
        · show (0 + l.length) * 16 ≤ 140737488355328
          omega
        · show (([] ++ l).length + 1) * 16 ≤ 140737488355328
          rw [List.nil_append]; omega
        · show Ans (fun k => some (Sum.inr ((M : Int), l, ([] ++ l) ++ [s], IntKind.i64.wrap (((List.length (([] ++ l) ++ [s]) : Nat) : Int) - 1), 0, ()))) _
          have hL : (l ++ [s]).length = l.length + 1 := by simp
          rw [List.nil_append, hL, wrap_id (by omega) (by omega), show ((l.length + 1 : Nat) : Int) - 1 = ((l.length : Nat) : Int) by omega]
          exact .const
      · exact .inl ⟨0, 2, .succ (fun k => dict_Dict_Add_3_eq k s M l l _) (.bind (dnone2 M l l _) (.no rfl (.no hk (.yes c (.yes (decide_eq_true (by show ((List.length l : Nat) : Int) ≥ (M : Int); omega)) .const))))), .succ (fun k => ref23_Dict_Add_2_eq k s M l) (.bind F (.no rfl (.yes c (.yes (decide_eq_true (by show ((List.length l : Nat) : Int) ≥ (M : Int); omega)) .const))))⟩
    · have c : (decide (((List.length s : Nat) : Int) > 256) == false) = false := by simp; omega
      exact .inl ⟨0, 2, .succ (fun k => dict_Dict_Add_3_eq k s M l l _) (.bind (dnone2 M l l _) (.no rfl (.no hk (.no c .const)))), .succ (fun k => ref23_Dict_Add_2_eq k s M l) (.bind F (.no rfl (.no c .const)))⟩
/-! ### Put -/
theorem put1 (M : Int) (R : Nat) (hR : R ≤ 65536) :
    (∃ e : Int, Ans (fun k => dict_Dict_Put_2 k M true R [] []) (Sum.inl (M, true, (R : Int), [], [], e, ())) ∧ Ans (fun k => ref23_Dict_Put k M R) (Sum.inl (M, (R : Int), e, ()))) ∨
    ∃ (e : Int) (b : List UInt8), b.length ≤ R ∧ Ans (fun k => dict_Dict_Put_2 k M true R [] []) (Sum.inr (M, true, (R : Int), [], [], b, e, ())) ∧ Ans (fun k => ref23_Dict_Put k M R) (Sum.inr (M, (R : Int), b, e, ())) := by
  have A := num2 (M := R) (n := 0) hR (by omega)
  have B := rnum (M := R) (n := 0) hR (by omega)
  unfold wres at A
  unfold rres at B
  by_cases h : (enc 0).length ≤ R
  · rw [if_pos h] at A B
    exact .inr ⟨0, enc 0, h, .succ (fun k => dict_Dict_Put_2_eq k M true R [] []) (.bind (none1 M [] []) (.no rfl (.elimR A (.no rfl (Ans2.diag (f := fun k n => dict_Dict_Put_2_l1 k n M true R [] [] _ _) (.succ (fun k n => dict_Dict_Put_2_l1_eq k n M true R [] [] _ _) .const)))))),
      .succ (fun k => ref23_Dict_Put_eq k M R) (.elimR B (Ans2.diag (f := fun k n => ref23_Dict_Put_l1 k n M R _) (.succ (fun k n => ref23_Dict_Put_l1_eq k n M R _) .const)))⟩
  · rw [if_neg h] at A B
    exact .inl ⟨2, .succ (fun k => dict_Dict_Put_2_eq k M true R [] []) (.bind (none1 M [] []) (.no rfl (.elimL A (.yes rfl .const)))),
      .succ (fun k => ref23_Dict_Put_eq k M R) (.elimL B (Ans2.diag (f := fun k n => ref23_Dict_Put_l0 k n M R _) (.succ (fun k n => ref23_Dict_Put_l0_eq k n M R _) .const)))⟩
theorem put_loop2 (M : Int) (R : Nat) (hR : R ≤ 65536) (l : List Bytes) (hl : l.length ≤ 60) (ht : ∀ t ∈ l, List.length t ≤ 256) (ks : List Bytes) (vs : List Int) : ∀ (d i : Nat) (b : List UInt8), i + d = l.length → b.length ≤ R →
    ∃ (e : Int) (c : List UInt8), c.length ≤ R ∧ Ans2 (fun k n => dict_Dict_Put_3_l1 k n M true R l ks vs (M, l, ks, vs, false, ()) (i : Int) true (R : Int) b) (Sum.inr (M, true, (R : Int), l, ks, vs, c, e, ())) ∧
      Ans2 (fun k n => ref23_Dict_Put_2_l1 k n M R l 0 (i : Int) (R : Int) b) (Sum.inr (M, (R : Int), l, c, e, ())) := by
  intro d
  induction d with
  | zero =>
    intro i b hi hb
    exact ⟨0, b, hb, .succ (fun k n => dict_Dict_Put_3_l1_eq k n M true R l ks vs _ i true R b) (.no (nlt_nat (xs := l) (by omega)) .const), .succ (fun k n => ref23_Dict_Put_2_l1_eq k n M R l 0 i R b) (.no (by rw [nlt_nat (xs := l) (by omega)]; rfl) .const)⟩
  | succ d ih =>
    intro i b hi hb
    have hlt : i < l.length := by omega
    have hti := ht _ (List.getElem_mem hlt)
    have A := text3 hR hb l[i] (by omega)
    have B := rtext2 hR hb l[i] (by omega)
    unfold wres3 at A
    unfold rres2 at B
    by_cases h : (enc (List.length l[i]) ++ l[i]).length + b.length ≤ R
    · rw [if_pos h] at A B
      obtain ⟨e, c, hc, X, Y⟩ := ih (i + 1) (b ++ (enc (List.length l[i]) ++ l[i])) (by omega) (by rw [List.length_append]; omega)
      exact ⟨e, c, hc, .succ (fun k n => by rw [dict_Dict_Put_3_l1_eq, wrap_succ (m := 100) (i := i) (by omega) (by omega)]) (.yes (lt_nat hlt) (.bind (idxA0 hlt) (.bind (getA0 hlt) (Ans2.elimR A (.no rfl X))))),
        .succ (fun k n => ref23_Dict_Put_2_l1_eq k n M R l 0 i R b) (.yes (by rw [lt_nat hlt]; rfl) (.yes rfl (.of (fun k n => by rw [ref23_Dict_Put_2_j1_eq, wrap_succ (m := 100) (i := i) (by omega) (by omega)]) (.bind (idxA0 hlt) (.bind (getA0 hlt) (Ans2.elimR B Y))))))⟩
    · rw [if_neg h] at A B
      refine ⟨2, b, hb, .succ (fun k n => dict_Dict_Put_3_l1_eq k n M true R l ks vs _ i true R b) (.yes (lt_nat hlt) (.bind (idxA0 hlt) (.bind (getA0 hlt) (Ans2.elimL A (.yes rfl .const))))),
        .succ (fun k n => ref23_Dict_Put_2_l1_eq k n M R l 0 i R b) (.yes (by rw [lt_nat hlt]; rfl) (.yes rfl (.of (fun k n => by rw [ref23_Dict_Put_2_j1_eq, wrap_succ (m := 100) (i := i) (by omega) (by omega)]) (.bind (idxA0 hlt) (.bind (getA0 hlt) (Ans2.elimL B (.succ (fun k n => ref23_Dict_Put_2_l1_eq k n M R l 2 _ R b) ?_)))))))⟩
      by_cases h2 : i + 1 < l.length
      · exact .yes (by rw [lt_nat h2]; rfl) (.no rfl .const)
      · exact .no (by rw [nlt_nat (by omega)]; rfl) .const
theorem put2 (M : Int) (R : Nat) (hR : R ≤ 65536) (l : List Bytes) (hl0 : 0 < l.length) (hl : l.length ≤ 60) (ht : ∀ t ∈ l, List.length t ≤ 256) (ks : List Bytes) (vs : List Int) :
    (∃ e : Int, Ans (fun k => dict_Dict_Put_3 k M true R l ks vs) (Sum.inl (M, true, (R : Int), l, ks, vs, e, ())) ∧ Ans (fun k => ref23_Dict_Put_2 k M R l) (Sum.inl (M, (R : Int), l, e, ()))) ∨
    ∃ (e : Int) (b : List UInt8), b.length ≤ R ∧ Ans (fun k => dict_Dict_Put_3 k M true R l ks vs) (Sum.inr (M, true, (R : Int), l, ks, vs, b, e, ())) ∧ Ans (fun k => ref23_Dict_Put_2 k M R l) (Sum.inr (M, (R : Int), l, b, e, ())) := by
  have eu : IntKind.u64.wrap ((List.length l : Nat) : Int) = ((l.length : Nat) : Int) := u64_id (n := List.length l) (by omega)
  have A := num2 (M := R) (n := l.length) hR (by omega)
  have B := rnum (M := R) (n := l.length) hR (by omega)
  unfold wres at A
  unfold rres at B
  rw [← eu] at A B
  by_cases h : (enc l.length).length ≤ R
  · rw [if_pos h] at A B
    obtain ⟨e, c, hc, X, Y⟩ := put_loop2 M R hR l hl ht ks vs l.length 0 (enc l.length) (by omega) h
    exact .inr ⟨e, c, hc, .succ (fun k => dict_Dict_Put_3_eq k M true R l ks vs) (.bind (dnone2 M l ks vs) (.no rfl (.elimR A (.no rfl X.diag)))), .succ (fun k => ref23_Dict_Put_2_eq k M R l) (.elimR B Y.diag)⟩
  · rw [if_neg h] at A B
    exact .inl ⟨2, .succ (fun k => dict_Dict_Put_3_eq k M true R l ks vs) (.bind (dnone2 M l ks vs) (.no rfl (.elimL A (.yes rfl .const)))),
      .succ (fun k => ref23_Dict_Put_2_eq k M R l) (.elimL B (Ans2.diag (f := fun k n => ref23_Dict_Put_2_l0 k n M R l 2 0 R) (.succ (fun k n => ref23_Dict_Put_2_l0_eq k n M R l 2 0 R) (.yes (by simp; omega) (.no rfl .const)))))⟩
end Go.Ev.HpDP
set_option linter.unusedVariables false
set_option linter.unusedSectionVars false
namespace Go.Ev.HpDP
theorem awake_run (k : Nat) : law23_awake (k + 30) = some (true, ()) := by kernel_rfl
theorem awake : Ans (fun k => law23_awake k) (true, ()) := .plus 30 awake_run
theorem awakes : Ans (fun k => (law23_awake k).bind fun r => some (r.1, ())) (true, ()) := .bind awake .const
theorem sI (e : Int) : ((e != e) == false) = true := by simp
theorem sN (e : Int) : (e != e) = false := by simp
theorem sE (e : Int) : ((e == e) == true) = true := by simp
theorem sB (x : Bytes) : ((!(x == x)) == false) = true := by simp
theorem sR (x : List UInt8) : ((x == x) == true) = true := by simp
theorem sT (x : Bool) : ((!(x == x)) == false) = true := by simp
theorem bad {R : Int} (h : ¬ (0 ≤ R ∧ R ≤ 65536)) : Ans (fun k => wire_NewWriter k R) (Sum.inl (1, ())) ∧ Ans (fun k => ref02_NewWriter k R) (Sum.inl (1, ())) := by
  by_cases h0 : R < 0
  · exact ⟨.succ (fun k => wire_NewWriter_eq k R) (.no (by simp [h0]) .const), .succ (fun k => ref02_NewWriter_eq k R) (.no (by simp [h0]) .const)⟩
  · exact ⟨.succ (fun k => wire_NewWriter_eq k R) (.yes (by simp [h0]) (.yes (decide_eq_true (by omega)) .const)), .succ (fun k => ref02_NewWriter_eq k R) (.yes (by simp [h0]) (.yes (decide_eq_true (by omega)) .const))⟩
theorem fair (R : Nat) (h : R ≤ 65536) : Ans (fun k => wire_NewWriter k R) (Sum.inr (true, (R : Int), 0, ())) ∧ Ans (fun k => ref02_NewWriter k R) (Sum.inr ((R : Int), 0, ())) :=
  ⟨.succ (fun k => wire_NewWriter_eq k R) (.yes (by simp) (.no (decide_eq_false (by omega)) (.of (fun k => wire_NewWriter_j0_eq k R) .const))), .succ (fun k => ref02_NewWriter_eq k R) (.yes (by simp) (.no (decide_eq_false (by omega)) (.of (fun k => ref02_NewWriter_j0_eq k R) .const)))⟩
section
variable (most : Int) (s : List Bytes) (ns : List Int) (room : Int) (M : Nat) (hM : M ≤ 4096)
include hM
theorem end1 : Ans (fun k => law23_DictPlays_j7 k most s ns room M M [] []) (true, ()) := by
  refine .of (fun k => law23_DictPlays_j7_eq k most s ns room M M [] []) ?_
  by_cases h : 0 ≤ room ∧ room ≤ 65536
  · obtain ⟨R, rfl⟩ : ∃ R : Nat, room = (R : Int) := ⟨room.toNat, by omega⟩
    obtain ⟨W, V⟩ := fair R (by omega)
    refine .elimR W (.elimR V (.yes rfl (.of (fun k => law23_DictPlays_j15_eq k most s ns R 0 0 false M M true R R [] []) (.no rfl (.of (fun k => law23_DictPlays_j25_eq k most s ns R M M true R R [] []) ?_)))))
    rcases put1 (M : Int) R (by omega) with ⟨e, A, B⟩ | ⟨e, b, hb, A, B⟩
    · exact .elimL A (.elimL B (.yes (sE e) (.bind (done2 R) (.yes rfl awakes))))
    · exact .elimR A (.elimR B (.yes (sE e) (.bind (done3 R (b := b) (by omega)) (.yes (sR b) awakes))))
  · obtain ⟨W, V⟩ := bad h
    exact .elimL W (.elimL V (.yes rfl (.of (fun k => law23_DictPlays_j12_eq k most s ns room 1 1 M M [] []) (.yes rfl (.yes rfl awakes)))))
theorem end2 (l : List Bytes) (hl0 : 0 < l.length) (hl : l.length ≤ 60) (ht : ∀ t ∈ l, List.length t ≤ 256) : Ans (fun k => law23_DictPlays_j24 k most s ns room M M l l (nums l.length) l) (true, ()) := by
  refine .of (fun k => law23_DictPlays_j24_eq k most s ns room M M l l _ l) ?_
  by_cases h : 0 ≤ room ∧ room ≤ 65536
  · obtain ⟨R, rfl⟩ : ∃ R : Nat, room = (R : Int) := ⟨room.toNat, by omega⟩
    obtain ⟨W, V⟩ := fair R (by omega)
    refine .elimR W (.elimR V (.yes rfl (.of (fun k => law23_DictPlays_j41_eq k most s ns R _ _ M M l l _ l false) (.no rfl (.of (fun k => law23_DictPlays_j45_eq k most s ns R M M _ _ l l _ l) ?_)))))
    rcases put2 (M : Int) R (by omega) l hl0 hl ht l (nums l.length) with ⟨e, A, B⟩ | ⟨e, b, hb, A, B⟩
    · exact .elimL A (.elimL B (.yes (sE e) (.bind (done2 R) (.yes rfl awakes))))
    · exact .elimR A (.elimR B (.yes (sE e) (.bind (done3 R (b := b) (by omega)) (.yes (sR b) awakes))))
  · obtain ⟨W, V⟩ := bad h
    exact .elimL W (.elimL V (.yes rfl (.of (fun k => law23_DictPlays_j38_eq k most s ns room _ _ M M l l _ l) (.yes rfl (.yes rfl awakes)))))
theorem acts5 : ∀ (d i : Nat) (l : List Bytes), i + d = 60 → 0 < l.length → l.length ≤ i → l.Nodup → (∀ t ∈ l, List.length t ≤ 256) →
    Ans2 (fun k n => law23_DictPlays_l5 k n most s ns room (i : Int) M M l l (nums l.length) l) (true, ()) := by
  intro d
  induction d with
  | zero =>
    intro i l hi hl0 hl hd ht
    have E := (end2 most s ns room M hM l hl0 (by omega) ht).two
    refine .succ (fun k n => law23_DictPlays_l5_eq k n most s ns room i M M l l _ l) ?_
    by_cases h1 : i < s.length
    · by_cases h2 : i < ns.length
      · exact .yes (by rw [lt_nat h1]; rfl) (.yes (by rw [lt_nat h2]; rfl) (.no (decide_eq_false (by omega)) E))
      · exact .yes (by rw [lt_nat h1]; rfl) (.no (by rw [nlt_nat (by omega)]; rfl) E)
    · exact .no (by rw [nlt_nat (by omega)]; rfl) E
  | succ d ih =>
    intro i l hi hl0 hl hd ht
    have E := (end2 most s ns room M hM l hl0 (by omega) ht).two
    refine .succ (fun k n => law23_DictPlays_l5_eq k n most s ns room i M M l l _ l) ?_
    by_cases h1 : i < s.length
    · by_cases h2 : i < ns.length
      · refine .yes (by rw [lt_nat h1]; rfl) (.yes (by rw [lt_nat h2]; rfl) (.yes (decide_eq_true (by omega)) (.of (fun k n => by rw [law23_DictPlays_j23_eq, wrap_succ (m := 100) (i := i) (by omega) (by omega)]) (.bind (idxA0 h1) ?_))))
        rcases add2 M hM l (by omega) hd s[i] with ⟨a, e, A, B⟩ | ⟨hs, hm, A, B⟩
        · exact Ans2.elimL A (.bind (idxA0 h1) (Ans2.elimL B (.bind (idxA0 h2) (.bind (get2 M ns[i] l l (nums l.length)) (.bind (idxA0 h2) (.bind (rget2 M ns[i] l) (.bind (idxA0 h1) (.bind (find2 M l s[i]) (.bind (idxA0 h1) (.bind (rfind2 M l s[i] (by omega) hd) (.yes (sI a) (.yes (sI e) (.yes (sB _) (.yes (sI _) (.yes (sI _) (.yes (sT _) (.bind (len2 M l l (nums l.length)) (.no (sN _) (ih (i + 1) l (by omega) hl0 (by omega) hd ht)))))))))))))))))))
        · have hd' : (l ++ [s[i]]).Nodup := by
            rw [List.nodup_append]
            refine ⟨hd, by simp, fun x hx y hy => ?_⟩
            simp at hy; subst hy
            intro e; subst e; exact hm hx
          have ht' : ∀ t ∈ l ++ [s[i]], List.length t ≤ 256 := by
            intro t h
            rcases List.mem_append.1 h with h | h
            · exact ht t h
            · simp at h; subst h; exact hs
          have hL : (l ++ [s[i]]).length = l.length + 1 := by simp
          have L := ih (i + 1) (l ++ [s[i]]) (by omega) (by omega) (by omega) hd' ht'
          exact Ans2.elimR A (.bind (idxA0 h1) (Ans2.elimR B (.bind (idxA0 h2) (.bind (get2 M ns[i] (l ++ [s[i]]) (l ++ [s[i]]) (nums (l ++ [s[i]]).length)) (.bind (idxA0 h2) (.bind (rget2 M ns[i] (l ++ [s[i]])) (.bind (idxA0 h1) (.bind (find2 M (l ++ [s[i]]) s[i]) (.bind (idxA0 h1) (.bind (rfind2 M (l ++ [s[i]]) s[i] (by omega) hd') (.yes (sI _) (.yes (sI _) (.yes (sB _) (.yes (sI _) (.yes (sI _) (.yes (sT _) (.bind (len2 M (l ++ [s[i]]) (l ++ [s[i]]) (nums (l ++ [s[i]]).length)) (.no (sN _) L))))))))))))))))))
      · exact .yes (by rw [lt_nat h1]; rfl) (.no (by rw [nlt_nat (by omega)]; rfl) E)
    · exact .no (by rw [nlt_nat (by omega)]; rfl) E
theorem acts1 : ∀ (d i : Nat), i + d = 60 → Ans2 (fun k n => law23_DictPlays_l1 k n most s ns room (i : Int) M M [] []) (true, ()) := by
  intro d
  have E := (end1 most s ns room M hM).two
  induction d with
  | zero =>
    intro i hi
    refine .succ (fun k n => law23_DictPlays_l1_eq k n most s ns room i M M [] []) ?_
    by_cases h1 : i < s.length
    · by_cases h2 : i < ns.length
      · exact .yes (by rw [lt_nat h1]; rfl) (.yes (by rw [lt_nat h2]; rfl) (.no (decide_eq_false (by omega)) E))
      · exact .yes (by rw [lt_nat h1]; rfl) (.no (by rw [nlt_nat (by omega)]; rfl) E)
    · exact .no (by rw [nlt_nat (by omega)]; rfl) E
  | succ d ih =>
    intro i hi
    refine .succ (fun k n => law23_DictPlays_l1_eq k n most s ns room i M M [] []) ?_
    by_cases h1 : i < s.length
    · by_cases h2 : i < ns.length
      · refine .yes (by rw [lt_nat h1]; rfl) (.yes (by rw [lt_nat h2]; rfl) (.yes (decide_eq_true (by omega)) (.of (fun k n => by rw [law23_DictPlays_j6_eq, wrap_succ (m := 100) (i := i) (by omega) (by omega)]) (.bind (idxA0 h1) ?_))))
        rcases add1 M s[i] with ⟨A, B⟩ | ⟨hs, A, B⟩
        · exact Ans2.elimL A (.bind (idxA0 h1) (Ans2.elimL B (.bind (idxA0 h2) (.bind (get1 M ns[i]) (.bind (idxA0 h2) (.bind (rget1 M ns[i]) (.bind (idxA0 h1) (.bind (find1 M s[i]) (.bind (idxA0 h1) (.bind (rfind1 M s[i]) (.yes rfl (.yes rfl (.yes rfl (.yes rfl (.yes rfl (.yes rfl (.bind (len1 M [] []) (.no rfl (ih (i + 1) (by omega)))))))))))))))))))) 
        · have L := acts5 most s ns room M hM d (i + 1) [s[i]] (by omega) (by simp) (by simp) (by simp) (by simp; exact hs)
          exact Ans2.elimR A (.bind (idxA0 h1) (Ans2.elimR B (.bind (idxA0 h2) (.bind (get2 M ns[i] [s[i]] [s[i]] (nums 1)) (.bind (idxA0 h2) (.bind (rget2 M ns[i] [s[i]]) (.bind (idxA0 h1) (.bind (find2 M [s[i]] s[i]) (.bind (idxA0 h1) (.bind (rfind2 M [s[i]] s[i] (by simp) (by simp)) (.yes (sI _) (.yes (sI _) (.yes (sB _) (.yes (sI _) (.yes (sI _) (.yes (sT _) (.bind (len2 M [s[i]] [s[i]] (nums 1)) (.no (sN _) L))))))))))))))))))
      · exact .yes (by rw [lt_nat h1]; rfl) (.no (by rw [nlt_nat (by omega)]; rfl) E)
    · exact .no (by rw [nlt_nat (by omega)]; rfl) E
end
theorem law (most : Int) (s : List Bytes) (ns : List Int) (room : Int) : ∃ k, law23_DictPlays k most s ns room = some (true, ()) := by
  suffices h : Ans (fun k => law23_DictPlays k most s ns room) (true, ()) from h.ex
  refine .succ (fun k => law23_DictPlays_eq k most s ns room) ?_
  by_cases hm : 0 ≤ most ∧ most ≤ 4096
  · obtain ⟨M, rfl⟩ : ∃ M : Nat, most = (M : Int) := ⟨most.toNat, by omega⟩
    have N1 : Ans (fun k => dict_New k (M : Int)) (Sum.inr ((M : Int), [], [], 0, ())) := .succ (fun k => dict_New_eq k M) (.yes (by simp) (.no (decide_eq_false (by omega)) (.of (fun k => dict_New_j0_eq k M) .const)))
    have N2 : Ans (fun k => ref23_New k (M : Int)) (Sum.inr ((M : Int), 0, ())) := .succ (fun k => ref23_New_eq k M) (.yes (by simp) (.no (decide_eq_false (by omega)) (.of (fun k => ref23_New_j0_eq k M) .const)))
    exact .elimR N1 (.elimR N2 (.yes rfl (.no rfl (.of (fun k => law23_DictPlays_j3_eq k M s ns room _ _) (acts1 M s ns room M (by omega) 60 0 rfl).diag))))
  · have N1 : Ans (fun k => dict_New k most) (Sum.inl (1, ())) := by
      refine .succ (fun k => dict_New_eq k most) ?_
      by_cases h : most < 0
      · exact .no (by simp [h]) .const
      · exact .yes (by simp [h]) (.yes (decide_eq_true (by omega)) .const)
    have N2 : Ans (fun k => ref23_New k most) (Sum.inl (1, ())) := by
      refine .succ (fun k => ref23_New_eq k most) ?_
      by_cases h : most < 0
      · exact .no (by simp [h]) .const
      · exact .yes (by simp [h]) (.yes (decide_eq_true (by omega)) .const)
    exact .elimL N1 (.elimL N2 (.yes rfl (.no rfl (.of (fun k => law23_DictPlays_j0_eq k most s ns room) awakes))))
end Go.Ev.HpDP
