/-
  WireBack, the plain law: what is read.
-/
import Derived.Test.YtkgacdekkdeilaaHpWBP
set_option linter.unusedVariables false
namespace Go.Ev.HpWB
theorem rnone2 (P : Int) (b : List UInt8) : Ans (fun k => wire_row_none_2 k true P b) (true, P, b, false, ()) := .succ (fun k => wire_row_none_2_eq k true P b) .const
theorem rnone3 (P : Int) (b : List UInt8) : Ans (fun k => wire_row_none_3 k true P b) (true, P, b, false, ()) := .succ (fun k => wire_row_none_3_eq k true P b) .const
theorem rlen1 (P : Int) (b : List UInt8) : Ans (fun k => wire_row_len k true P b) (true, P, b, ((List.length b : Nat) : Int), ()) := .succ (fun k => wire_row_len_eq k true P b) .const
theorem rlen2 (P : Int) (b : List UInt8) : Ans (fun k => wire_row_len_2 k true P b) (true, P, b, ((List.length b : Nat) : Int), ()) := .succ (fun k => wire_row_len_2_eq k true P b) .const
theorem take1 {b : List UInt8} {P most m e : Int} (hG : Ans (fun k => vint_Get k b P) (m, e, 0, ())) (hm : m ≤ most) : Ans (fun k => wire_Reader_take k most true P b) (Sum.inr (true, P, b, m, e, 0, ())) :=
  .succ (fun k => wire_Reader_take_eq k most true P b) (.bind (rnone2 P b) (.of (fun k => wire_Reader_take_j0_eq k most true P b _) (.no rfl (.of (fun k => wire_Reader_take_j1_eq k most true P b _) (.bind hG (.no rfl (.no (decide_eq_false (by show ¬ m > most; omega)) .const)))))))
theorem take2 {b : List UInt8} {P most m e : Int} (hG : Ans (fun k => vint_Get k b P) (m, e, 0, ())) (hm : m ≤ most) : Ans (fun k => wire_Reader_take_2 k most true P b) (true, P, b, m, e, 0, ()) :=
  .succ (fun k => wire_Reader_take_2_eq k most true P b) (.bind (rnone3 P b) (.of (fun k => wire_Reader_take_2_j0_eq k most true P b _) (.no rfl (.of (fun k => wire_Reader_take_2_j1_eq k most true P b _) (.bind hG (.no rfl (.no (decide_eq_false (by show ¬ m > most; omega)) .const)))))))
theorem rnum1 {b : List UInt8} {P most m e : Int} (hG : Ans (fun k => vint_Get k b P) (m, e, 0, ())) (hm : m ≤ most) : Ans (fun k => wire_Reader_Num k most true P b) (Sum.inr (true, e, b, m, 0, ())) :=
  .succ (fun k => wire_Reader_Num_eq k most true P b) (.elimR (take1 hG hm) (.yes rfl (.of (fun k => wire_Reader_Num_j1_eq k most true P b _ _) .const)))
theorem rnum2 {b : List UInt8} {P most m e : Int} (hG : Ans (fun k => vint_Get k b P) (m, e, 0, ())) (hm : m ≤ most) : Ans (fun k => wire_Reader_Num_2 k most true P b) (true, e, b, m, 0, ()) :=
  .succ (fun k => wire_Reader_Num_2_eq k most true P b) (.bind (take2 hG hm) (.yes rfl (.of (fun k => wire_Reader_Num_2_j0_eq k most true P b _ _) .const)))
theorem back_ {m : Int} (h : -9223372036854775808 ≤ m ∧ m < 9223372036854775808) : Ans (fun k => vint_Back k (turn m : Int)) (m, ()) := .succ (fun k => by rw [vint_Back_eq, backP h]) .const
theorem rint2 {b : List UInt8} {P e y : Int} (h : -9223372036854775808 ≤ y ∧ y < 9223372036854775808) (hG : Ans (fun k => vint_Get k b P) ((turn y : Int), e, 0, ())) : Ans (fun k => wire_Reader_Int_2 k true P b) (true, e, b, y, 0, ()) :=
  .succ (fun k => wire_Reader_Int_2_eq k true P b) (.bind (take2 hG (by have := turn_lt h; omega)) (.no rfl (.bind (back_ h) .const)))
theorem rtext2 {b pre t post : List UInt8} {P : Nat} (hb : b = pre ++ t ++ post) (hl : b.length ≤ 1000000) (hG : Ans (fun k => vint_Get k b (P : Int)) ((t.length : Int), (pre.length : Int), 0, ())) : Ans (fun k => wire_Reader_Text_2 k (t.length : Int) true (P : Int) b) (true, ((pre.length + t.length : Nat) : Int), b, t, 0, ()) := by
  have hbl : b.length = pre.length + t.length + post.length := by rw [hb, List.length_append, List.length_append]
  have e0 : IntKind.u64.wrap (if 0 > ((List.length t : Nat) : Int) then 0 else ((List.length t : Nat) : Int)) = ((List.length t : Nat) : Int) := by
    rw [if_neg (by omega), u64_id (by omega)]
  have e1 : IntKind.i64.wrap (((pre.length : Nat) : Int) + (IntKind.i64.wrap ((List.length t : Nat) : Int))) = ((pre.length + t.length : Nat) : Int) := by
    rw [wrap_id (n := ((List.length t : Nat) : Int)) (by omega) (by omega), wrap_id (by omega) (by omega)]; omega
  have e2 : IntKind.u64.wrap (IntKind.i64.wrap (((List.length b : Nat) : Int) - ((pre.length : Nat) : Int))) = ((t.length + post.length : Nat) : Int) := by
    rw [wrap_id (by omega) (by omega), show ((List.length b : Nat) : Int) - ((pre.length : Nat) : Int) = ((t.length + post.length : Nat) : Int) by omega, u64_id (by omega)]
  have e3 : List.drop pre.length (List.take (pre.length + t.length) b) = t := by
    have : pre.length + t.length = (pre ++ t).length := by simp
    rw [hb, this, List.take_left, List.drop_left]
  refine .succ (fun k => by rw [wire_Reader_Text_2_eq, e0]) (.bind (take2 hG (Int.le_refl _)) (.no rfl (.no (decide_eq_false (show ¬ ((List.length t : Nat) : Int) < 0 by omega)) (.bind (rlen2 _ b) (.no (decide_eq_false ?_) ?_)))))
  · show ¬ ((List.length t : Nat) : Int) > IntKind.u64.wrap (IntKind.i64.wrap (((List.length b : Nat) : Int) - ((pre.length : Nat) : Int)))
    rw [e2]; omega
  · refine .bind (a := pre.length + t.length) (.of (fun k => by
      show bnd (.int .i64 (IntKind.i64.wrap (((pre.length : Nat) : Int) + (IntKind.i64.wrap ((List.length t : Nat) : Int))))) b.length = some (pre.length + t.length)
      rw [e1]; exact bnd_le (by omega)) .const) (.bind (a := pre.length) (.of (fun k => by
      show bnd (.int .i64 ((pre.length : Nat) : Int)) (pre.length + t.length) = some pre.length
      exact bnd_le (by omega)) .const) (.bind (a := pre.length + t.length) (.of (fun k => by
      show bnd (.int .i64 (IntKind.i64.wrap (((pre.length : Nat) : Int) + (IntKind.i64.wrap ((List.length t : Nat) : Int))))) b.length = some (pre.length + t.length)
      rw [e1]; exact bnd_le (by omega)) .const) (.yes (by simp) ?_)))
    show Ans (fun k => some (true, IntKind.i64.wrap (((pre.length : Nat) : Int) + (IntKind.i64.wrap ((List.length t : Nat) : Int))), b, List.drop pre.length (List.take (pre.length + t.length) b), 0, ())) _
    rw [e1, e3]
    exact .const
theorem rbyte2 {b pre post : List UInt8} {c : UInt8} (hb : b = pre ++ c :: post) (hl : b.length ≤ 1000000) : Ans (fun k => wire_Reader_Byte_2 k true (pre.length : Int) b) (true, ((pre.length + 1 : Nat) : Int), b, (c.toNat : Int), 0, ()) := by
  have hbl : b.length = pre.length + (post.length + 1) := by rw [hb, List.length_append, List.length_cons]
  have e1 : IntKind.i64.wrap (((pre.length : Nat) : Int) + 1) = ((pre.length + 1 : Nat) : Int) := wrap_succ (m := 1000001) (by omega) (by omega)
  have e2 : IntKind.i64.wrap (((pre.length + 1 : Nat) : Int) - 1) = ((pre.length : Nat) : Int) := by rw [wrap_id (by omega) (by omega)]; omega
  have hx : b[pre.length]? = some c := by rw [hb]; simp
  refine .succ (fun k => wire_Reader_Byte_2_eq k true pre.length b) (.bind (rnone3 _ b) (.of (fun k => wire_Reader_Byte_2_j0_eq k true pre.length b _) (.no rfl (.bind (rlen2 _ b) (.no ?_ (.of (fun k => wire_Reader_Byte_2_j1_eq k true pre.length b _) ?_))))))
  · show (((pre.length : Nat) : Int) == ((List.length b : Nat) : Int)) = false
    simp; omega
  · show Ans (fun k => (idx b (IntKind.i64.wrap ((IntKind.i64.wrap (((pre.length : Nat) : Int) + 1)) - 1))).bind fun d => (b[(Int.toNat (IntKind.i64.wrap ((IntKind.i64.wrap (((pre.length : Nat) : Int) + 1)) - 1)))]?).bind fun d1 => some (true, (IntKind.i64.wrap (((pre.length : Nat) : Int) + 1)), b, ((d1).toNat : Int), (0 : Int), ())) _
    rw [e1, e2, Int.toNat_natCast, hx]
    have hi : idx b ((pre.length : Nat) : Int) = some c := by
      unfold idx
      rw [decide_eq_true (by omega), cond_true, Int.toNat_natCast, hx]
    rw [hi]
    exact .const
theorem end1 (b : List UInt8) : Ans (fun k => wire_Reader_End k true (b.length : Int) b) (true, (b.length : Int), b, 0, ()) :=
  .succ (fun k => wire_Reader_End_eq k true b.length b) (.bind (rnone2 _ b) (.of (fun k => wire_Reader_End_j0_eq k true b.length b _) (.no rfl (.bind (rlen1 _ b) (.no (by show (((List.length b : Nat) : Int) != ((List.length b : Nat) : Int)) = false; simp) .const)))))
theorem end2 (b : List UInt8) : Ans (fun k => wire_Reader_End_2 k true (b.length : Int) b) (true, (b.length : Int), b, 0, ()) :=
  .succ (fun k => wire_Reader_End_2_eq k true b.length b) (.bind (rnone3 _ b) (.of (fun k => wire_Reader_End_2_j0_eq k true b.length b _) (.no rfl (.bind (rlen2 _ b) (.no (by show (((List.length b : Nat) : Int) != ((List.length b : Nat) : Int)) = false; simp) .const)))))
end Go.Ev.HpWB
