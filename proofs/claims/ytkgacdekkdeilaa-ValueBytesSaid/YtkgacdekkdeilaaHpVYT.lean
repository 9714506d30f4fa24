/-
  ValueBytes, the plain law: a value read, whatever the bytes.
-/
import Derived.Test.YtkgacdekkdeilaaHpVYS
set_option linter.unusedVariables false
namespace Go.Ev.HpVY
theorem take1f {b : List UInt8} {P most n e err : Int} (hG : Ans (fun k => vint_Get k b P) (n, e, err, ())) (he : err ≠ 0) : Ans (fun k => wire_Reader_take k most true P b) (Sum.inr (true, P, b, 0, 0, err, ())) :=
  .succ (fun k => wire_Reader_take_eq k most true P b) (.bind (rnone2 P b) (.of (fun k => wire_Reader_take_j0_eq k most true P b _) (.no rfl (.of (fun k => wire_Reader_take_j1_eq k most true P b _) (.bind hG (.yes (by show (err != 0) = true; simp [he]) .const))))))
theorem take1g {b : List UInt8} {P most m e : Int} (hG : Ans (fun k => vint_Get k b P) (m, e, 0, ())) (hm : most < m) : Ans (fun k => wire_Reader_take k most true P b) (Sum.inr (true, P, b, 0, 0, 4, ())) :=
  .succ (fun k => wire_Reader_take_eq k most true P b) (.bind (rnone2 P b) (.of (fun k => wire_Reader_take_j0_eq k most true P b _) (.no rfl (.of (fun k => wire_Reader_take_j1_eq k most true P b _) (.bind hG (.no rfl (.yes (decide_eq_true (by show m > most; omega)) .const)))))))
theorem take2f {b : List UInt8} {P most n e err : Int} (hG : Ans (fun k => vint_Get k b P) (n, e, err, ())) (he : err ≠ 0) : Ans (fun k => wire_Reader_take_2 k most true P b) (true, P, b, 0, 0, err, ()) :=
  .succ (fun k => wire_Reader_take_2_eq k most true P b) (.bind (rnone3 P b) (.of (fun k => wire_Reader_take_2_j0_eq k most true P b _) (.no rfl (.of (fun k => wire_Reader_take_2_j1_eq k most true P b _) (.bind hG (.yes (by show (err != 0) = true; simp [he]) .const))))))
theorem take2g {b : List UInt8} {P most m e : Int} (hG : Ans (fun k => vint_Get k b P) (m, e, 0, ())) (hm : most < m) : Ans (fun k => wire_Reader_take_2 k most true P b) (true, P, b, 0, 0, 4, ()) :=
  .succ (fun k => wire_Reader_take_2_eq k most true P b) (.bind (rnone3 P b) (.of (fun k => wire_Reader_take_2_j0_eq k most true P b _) (.no rfl (.of (fun k => wire_Reader_take_2_j1_eq k most true P b _) (.bind hG (.no rfl (.yes (decide_eq_true (by show m > most; omega)) .const)))))))
theorem turn_back {m : Nat} (hm : m < 18446744073709551616) : ∃ y : Int, (-9223372036854775808 ≤ y ∧ y < 9223372036854775808) ∧ turn y = m := by
  by_cases h : m % 2 = 0
  · refine ⟨((m / 2 : Nat) : Int), by omega, ?_⟩
    unfold turn; rw [if_neg (by omega)]; omega
  · refine ⟨-((m / 2 : Nat) : Int) - 1, by omega, ?_⟩
    unfold turn; rw [if_pos (by omega)]; omega
theorem rback {y : Int} (h : -9223372036854775808 ≤ y ∧ y < 9223372036854775808) : Ans (fun k => ref01_Back k (turn y : Int)) (y, ()) := by
  have hT := turn_lt h
  have e1 : Int.tmod (turn y : Int) 2 = ((turn y % 2 : Nat) : Int) := rfl
  have e2 : Int.tdiv (turn y : Int) 2 = ((turn y / 2 : Nat) : Int) := rfl
  by_cases hy : y < 0
  · have t1 : turn y % 2 = 1 := by unfold turn; rw [if_pos hy]; omega
    have t2 : turn y / 2 = (-(y + 1)).toNat := by unfold turn; rw [if_pos hy]; omega
    refine .succ (fun k => ref01_Back_eq k _) (.yes (by rw [e1, t1]; rfl) ?_)
    have e : IntKind.i64.wrap ((IntKind.i64.wrap (0 - (IntKind.i64.wrap (IntKind.u64.wrap (Int.tdiv (turn y : Int) 2))))) - 1) = y := by
      rw [e2, u64_id (by omega), wrap_id (n := ((turn y / 2 : Nat) : Int)) (by omega) (by omega), wrap_id (n := 0 - ((turn y / 2 : Nat) : Int)) (by omega) (by omega), wrap_id (by omega) (by omega), t2]
      omega
    rw [e]; exact .const
  · have t1 : turn y % 2 = 0 := by unfold turn; rw [if_neg hy]; omega
    have t2 : turn y / 2 = y.toNat := by unfold turn; rw [if_neg hy]; omega
    refine .succ (fun k => ref01_Back_eq k _) (.no (by rw [e1, t1]; rfl) ?_)
    have e : IntKind.i64.wrap (IntKind.u64.wrap (Int.tdiv (turn y : Int) 2)) = y := by
      rw [e2, u64_id (by omega), wrap_id (by omega) (by omega), t2]; omega
    rw [e]; exact .const
/-! ### A byte -/
theorem both_byte (b : List UInt8) (P : Nat) (hl : b.length ≤ 140737488355328) (hP : P ≤ b.length) :
    (Ans (fun k => wire_Reader_Byte k true (P : Int) b) (true, (P : Int), b, 0, 3, ()) ∧ Ans (fun k => wire_Reader_Byte_2 k true (P : Int) b) (true, (P : Int), b, 0, 3, ()) ∧ Ans (fun k => ref02_Reader_Byte k b (P : Int)) (b, (P : Int), 0, 3, ())) ∨
    ∃ c : UInt8, P + 1 ≤ b.length ∧ Ans (fun k => wire_Reader_Byte k true (P : Int) b) (true, ((P + 1 : Nat) : Int), b, (c.toNat : Int), 0, ()) ∧ Ans (fun k => wire_Reader_Byte_2 k true (P : Int) b) (true, ((P + 1 : Nat) : Int), b, (c.toNat : Int), 0, ()) ∧ Ans (fun k => ref02_Reader_Byte k b (P : Int)) (b, ((P + 1 : Nat) : Int), (c.toNat : Int), 0, ()) := by
  by_cases hlt : P < b.length
  · obtain ⟨x, hx⟩ : ∃ x, b[P]? = some x := ⟨b[P], by simp [hlt]⟩
    have hne : (((P : Nat) : Int) == ((List.length b : Nat) : Int)) = false := by simp; omega
    have e1 : IntKind.i64.wrap (((P : Nat) : Int) + 1) = ((P + 1 : Nat) : Int) := wrap_succ (m := 140737488355330) (by omega) (by omega)
    have e2 : IntKind.i64.wrap (((P + 1 : Nat) : Int) - 1) = ((P : Nat) : Int) := by rw [wrap_id (by omega) (by omega)]; omega
    have hi : idx b ((P : Nat) : Int) = some x := by
      unfold idx
      rw [decide_eq_true (by omega), cond_true, Int.toNat_natCast, hx]
    refine .inr ⟨x, hlt, .succ (fun k => wire_Reader_Byte_eq k true P b) (.bind (rnone2 _ b) (.of (fun k => wire_Reader_Byte_j0_eq k true P b _) (.no rfl (.bind (rlen1 _ b) (.no hne (.of (fun k => wire_Reader_Byte_j1_eq k true P b _) ?_)))))), .succ (fun k => wire_Reader_Byte_2_eq k true P b) (.bind (rnone3 _ b) (.of (fun k => wire_Reader_Byte_2_j0_eq k true P b _) (.no rfl (.bind (rlen2 _ b) (.no hne (.of (fun k => wire_Reader_Byte_2_j1_eq k true P b _) ?_)))))), ?_⟩
    · show Ans (fun k => (idx b (IntKind.i64.wrap ((IntKind.i64.wrap (((P : Nat) : Int) + 1)) - 1))).bind fun d => (b[(Int.toNat (IntKind.i64.wrap ((IntKind.i64.wrap (((P : Nat) : Int) + 1)) - 1)))]?).bind fun d1 => some (true, (IntKind.i64.wrap (((P : Nat) : Int) + 1)), b, ((d1).toNat : Int), (0 : Int), ())) _
      rw [e1, e2, Int.toNat_natCast, hx, hi]
      exact .const
    · show Ans (fun k => (idx b (IntKind.i64.wrap ((IntKind.i64.wrap (((P : Nat) : Int) + 1)) - 1))).bind fun d => (b[(Int.toNat (IntKind.i64.wrap ((IntKind.i64.wrap (((P : Nat) : Int) + 1)) - 1)))]?).bind fun d1 => some (true, (IntKind.i64.wrap (((P : Nat) : Int) + 1)), b, ((d1).toNat : Int), (0 : Int), ())) _
      rw [e1, e2, Int.toNat_natCast, hx, hi]
      exact .const
    · have hge : decide ((P : Int) ≥ ((List.length b : Nat) : Int)) = false := decide_eq_false (by omega)
      exact .succ (fun k => by rw [ref02_Reader_Byte_eq, hge, cond_false, hi, Option.bind_some, e1]) .const
  · have e : P = b.length := by omega
    subst e
    refine .inl ⟨.succ (fun k => wire_Reader_Byte_eq k true b.length b) (.bind (rnone2 _ b) (.of (fun k => wire_Reader_Byte_j0_eq k true b.length b _) (.no rfl (.bind (rlen1 _ b) (.yes (by show (((List.length b : Nat) : Int) == ((List.length b : Nat) : Int)) = true; simp) .const))))), .succ (fun k => wire_Reader_Byte_2_eq k true b.length b) (.bind (rnone3 _ b) (.of (fun k => wire_Reader_Byte_2_j0_eq k true b.length b _) (.no rfl (.bind (rlen2 _ b) (.yes (by show (((List.length b : Nat) : Int) == ((List.length b : Nat) : Int)) = true; simp) .const))))), .succ (fun k => ref02_Reader_Byte_eq k b _) (.yes (decide_eq_true (by omega)) .const)⟩
theorem null_ : Ans (fun k => value_Null k) ((⟨0, 0, ([] : Bytes)⟩ : Val), ()) := .succ (fun k => value_Null_eq k) .const
theorem bool_ (b : Bool) : Ans (fun k => value_Bool k b) ((⟨1, if b = true then 1 else 0, []⟩ : Val), ()) := .succ (fun k => value_Bool_eq k b) (by cases b <;> exact .const)
theorem rbool (b : Bool) : Ans (fun k => ref06_Bool k b) ((⟨1, if b = true then 1 else 0, []⟩ : Val), ()) := .succ (fun k => ref06_Bool_eq k b) (by cases b <;> exact .const)
theorem val_int (n : Int) : Ans (fun k => value_Int k n) ((⟨2, n, []⟩ : Val), ()) := .succ (fun k => value_Int_eq k n) .const
theorem rval_int (n : Int) : Ans (fun k => ref06_Int k n) ((⟨2, n, []⟩ : Val), ()) := .succ (fun k => ref06_Int_eq k n) .const
theorem val_text {s : Bytes} (h : List.length s ≤ 256) : Ans (fun k => value_Text k s) ((⟨3, 0, s⟩ : Val), ()) := .succ (fun k => value_Text_eq k s) (.no (decide_eq_false (by omega)) .const)
theorem rval_text {s : Bytes} (h : List.length s ≤ 256) : Ans (fun k => ref06_Text k s) ((⟨3, 0, s⟩ : Val), ()) := .succ (fun k => ref06_Text_eq k s) (.no (decide_eq_false (by omega)) .const)
theorem ne_ {e : Int} (h : e ≠ 0) : (e != 0) = true := by simpa using h
/-! ### An int64, a text -/
theorem both_int (b : List UInt8) (P : Nat) (hl : b.length ≤ 140737488355328) (hP : P ≤ b.length) :
    ∃ (p : Nat) (y e : Int), p ≤ b.length ∧ Ans (fun k => wire_Reader_Int k true (P : Int) b) (Sum.inr (true, (p : Int), b, y, e, ())) ∧ Ans (fun k => wire_Reader_Int_2 k true (P : Int) b) (true, (p : Int), b, y, e, ()) ∧ Ans (fun k => ref02_Reader_Int k b (P : Int)) (b, (p : Int), y, e, ()) := by
  obtain ⟨n, E, err, hN, hV, hW⟩ := get_both b P hl hP
  rcases hN with he | ⟨he, m, F, hn, hE, hm, hF⟩
  · exact ⟨P, 0, err, hP, .succ (fun k => wire_Reader_Int_eq k true _ _) (.elimR (take1f hV he) (.yes (ne_ he) .const)), .succ (fun k => wire_Reader_Int_2_eq k true _ _) (.bind (take2f hV he) (.yes (ne_ he) .const)), .succ (fun k => ref02_Reader_Int_eq k _ _) (.bind (.succ (fun k => ref01_GetInt_eq k _ _) (.bind hW (.yes (ne_ he) .const))) (.yes (ne_ he) .const))⟩
  · obtain ⟨y, hy, hyt⟩ := turn_back hm
    subst he hn hE
    rw [← hyt] at hV hW
    refine ⟨F, y, 0, hF, .succ (fun k => wire_Reader_Int_eq k true P b) (.elimR (take1 hV (by have := turn_lt hy; omega)) (.no rfl (.bind (back_ hy) .const))), .succ (fun k => wire_Reader_Int_2_eq k true P b) (.bind (take2 hV (by have := turn_lt hy; omega)) (.no rfl (.bind (back_ hy) .const))), .succ (fun k => ref02_Reader_Int_eq k _ _) (.bind (.succ (fun k => ref01_GetInt_eq k _ _) (.bind hW (.no rfl (.bind (rback hy) .const)))) (.no rfl .const))⟩
theorem u256 : IntKind.u64.wrap (if 0 > (256 : Int) then 0 else 256) = 256 := rfl
theorem both_text (b : List UInt8) (P : Nat) (hl : b.length ≤ 140737488355328) (hP : P ≤ b.length) :
    ∃ (p : Nat) (s : Bytes) (e : Int), p ≤ b.length ∧ List.length s ≤ 256 ∧ Ans (fun k => wire_Reader_Text k 256 true (P : Int) b) (Sum.inr (true, (p : Int), b, s, e, ())) ∧ Ans (fun k => wire_Reader_Text_2 k 256 true (P : Int) b) (true, (p : Int), b, s, e, ()) ∧ Ans (fun k => ref02_Reader_Text k 256 b (P : Int)) (b, (p : Int), s, e, ()) := by
  obtain ⟨n, E, err, hN, hV, hW⟩ := get_both b P hl hP
  have h0 : (decide ((256 : Int) < 0) == false) = true := rfl
  rcases hN with he | ⟨he, m, F, hn, hE, hm, hF⟩
  · exact ⟨P, [], err, hP, by simp, .succ (fun k => wire_Reader_Text_eq k 256 true _ _) (.elimR (take1f hV he) (.yes (ne_ he) .const)), .succ (fun k => wire_Reader_Text_2_eq k 256 true _ _) (.bind (take2f hV he) (.yes (ne_ he) .const)), .succ (fun k => ref02_Reader_Text_eq k 256 _ _) (.bind hW (.yes (ne_ he) .const))⟩
  · subst he hn hE
    by_cases h256 : m ≤ 256
    · have hi : ((m : Nat) : Int) ≤ IntKind.u64.wrap (if 0 > (256 : Int) then 0 else 256) := by rw [u256]; omega
      have hr : decide (((m : Nat) : Int) > IntKind.u64.wrap 256) = false := decide_eq_false (by rw [show IntKind.u64.wrap 256 = 256 from rfl]; omega)
      have e2 : IntKind.u64.wrap (IntKind.i64.wrap (((List.length b : Nat) : Int) - ((F : Nat) : Int))) = ((b.length - F : Nat) : Int) := by
        rw [wrap_id (by omega) (by omega), show ((List.length b : Nat) : Int) - ((F : Nat) : Int) = ((b.length - F : Nat) : Int) by omega, u64_id (by omega)]
      by_cases hfit : m ≤ b.length - F
      · have hd : decide (((m : Nat) : Int) > IntKind.u64.wrap (IntKind.i64.wrap (((List.length b : Nat) : Int) - ((F : Nat) : Int)))) = false := decide_eq_false (by rw [e2]; omega)
        have e1 : IntKind.i64.wrap (((F : Nat) : Int) + (IntKind.i64.wrap ((m : Nat) : Int))) = ((F + m : Nat) : Int) := by
          rw [wrap_id (n := ((m : Nat) : Int)) (by omega) (by omega), wrap_id (by omega) (by omega)]; omega
        have b1 : bnd (.int .i64 (IntKind.i64.wrap (((F : Nat) : Int) + (IntKind.i64.wrap ((m : Nat) : Int))))) b.length = some (F + m) := by rw [e1]; exact bnd_le (by omega)
        have b2 : bnd (.int .i64 ((F : Nat) : Int)) (F + m) = some F := bnd_le (by omega)
        refine ⟨F + m, List.drop F (List.take (F + m) b), 0, by omega, by simp; omega, .succ (fun k => wire_Reader_Text_eq k 256 true P b) (.elimR (take1 hV hi) (.no rfl (.no rfl (.bind (rlen2 _ b) (.no hd ?_))))), .succ (fun k => wire_Reader_Text_2_eq k 256 true P b) (.bind (take2 hV hi) (.no rfl (.no rfl (.bind (rlen2 _ b) (.no hd ?_))))), .succ (fun k => ref02_Reader_Text_eq k 256 b P) (.bind hW (.no rfl (.yes h0 (.no hr (.of (fun k => ref02_Reader_Text_j0_eq k 256 b P _) (.no hd ?_))))))⟩
        · refine .bind (a := F + m) (.of (fun k => b1) .const) (.bind (a := F) (.of (fun k => b2) .const) (.bind (a := F + m) (.of (fun k => b1) .const) (.yes (by simp) ?_)))
          show Ans (fun k => some (Sum.inr (true, IntKind.i64.wrap (((F : Nat) : Int) + (IntKind.i64.wrap ((m : Nat) : Int))), b, List.drop F (List.take (F + m) b), 0, ()))) _
          rw [e1]; exact .const
        · refine .bind (a := F + m) (.of (fun k => b1) .const) (.bind (a := F) (.of (fun k => b2) .const) (.bind (a := F + m) (.of (fun k => b1) .const) (.yes (by simp) ?_)))
          show Ans (fun k => some (true, IntKind.i64.wrap (((F : Nat) : Int) + (IntKind.i64.wrap ((m : Nat) : Int))), b, List.drop F (List.take (F + m) b), 0, ())) _
          rw [e1]; exact .const
        · refine .bind (a := F + m) (.of (fun k => b1) .const) (.bind (a := F) (.of (fun k => b2) .const) ?_)
          show Ans (fun k => some (b, IntKind.i64.wrap (((F : Nat) : Int) + (IntKind.i64.wrap ((m : Nat) : Int))), List.drop F (List.take (F + m) b), 0, ())) _
          rw [e1]; exact .const
      · have hd : decide (((m : Nat) : Int) > IntKind.u64.wrap (IntKind.i64.wrap (((List.length b : Nat) : Int) - ((F : Nat) : Int)))) = true := decide_eq_true (by rw [e2]; omega)
        exact ⟨P, [], 3, hP, by simp, .succ (fun k => wire_Reader_Text_eq k 256 true P b) (.elimR (take1 hV hi) (.no rfl (.no rfl (.bind (rlen2 _ b) (.yes hd .const))))), .succ (fun k => wire_Reader_Text_2_eq k 256 true P b) (.bind (take2 hV hi) (.no rfl (.no rfl (.bind (rlen2 _ b) (.yes hd .const))))), .succ (fun k => ref02_Reader_Text_eq k 256 b P) (.bind hW (.no rfl (.yes h0 (.no hr (.of (fun k => ref02_Reader_Text_j0_eq k 256 b P _) (.yes hd .const))))))⟩
    · have hi : IntKind.u64.wrap (if 0 > (256 : Int) then 0 else 256) < ((m : Nat) : Int) := by rw [u256]; omega
      have hr : decide (((m : Nat) : Int) > IntKind.u64.wrap 256) = true := decide_eq_true (by rw [show IntKind.u64.wrap 256 = 256 from rfl]; omega)
      exact ⟨P, [], 4, hP, by simp, .succ (fun k => wire_Reader_Text_eq k 256 true P b) (.elimR (take1g hV hi) (.yes rfl .const)), .succ (fun k => wire_Reader_Text_2_eq k 256 true P b) (.bind (take2g hV hi) (.yes rfl .const)), .succ (fun k => ref02_Reader_Text_eq k 256 b P) (.bind hW (.no rfl (.yes h0 (.yes hr .const))))⟩
/-! ### A value -/
theorem both_get (b : List UInt8) (P : Nat) (hl : b.length ≤ 140737488355328) (hP : P ≤ b.length) :
    ∃ (p : Nat) (v : Val) (e : Int), p ≤ b.length ∧ (Ans (fun k => value_Get k true (P : Int) b) (Sum.inl (true, (p : Int), b, v, e, ())) ∨ Ans (fun k => value_Get k true (P : Int) b) (Sum.inr (true, (p : Int), b, v, e, ()))) ∧
      Ans (fun k => value_Get_2 k true (P : Int) b) (true, (p : Int), b, v, e, ()) ∧ Ans (fun k => ref06_Get k b (P : Int)) (b, (p : Int), v, e, ()) := by
  rcases both_byte b P hl hP with ⟨A, B, C⟩ | ⟨c, hP1, A, B, C⟩
  · exact ⟨P, ⟨0, 0, []⟩, 3, hP, .inl (.succ (fun k => value_Get_eq k true P b) (.bind A (.yes rfl (.bind null_ .const)))), .succ (fun k => value_Get_2_eq k true P b) (.bind B (.yes rfl (.bind null_ .const))), .succ (fun k => ref06_Get_eq k b P) (.bind C (.yes rfl .const))⟩
  · have hc8 := UInt8.toNat_lt c
    have ec : IntKind.i64.wrap ((c.toNat : Nat) : Int) = ((c.toNat : Nat) : Int) := wrap_id (by omega) (by omega)
    have R : ∀ {r : List UInt8 × Int × Val × Int × Unit}, Ans (fun k => bif (((c.toNat : Nat) : Int) == 0) then some (b, ((P + 1 : Nat) : Int), (⟨0, 0, ([] : Bytes)⟩ : Val), 0, ()) else (bif (((c.toNat : Nat) : Int) == 1) then ((ref02_Reader_Byte k b ((P + 1 : Nat) : Int)).bind fun r1 => (bif (r1.2.2.2.1 != 0) then some (r1.1, r1.2.1, (⟨0, 0, ([] : Bytes)⟩ : Val), r1.2.2.2.1, ()) else (bif decide (r1.2.2.1 > 1) then some (r1.1, r1.2.1, (⟨0, 0, ([] : Bytes)⟩ : Val), 4, ()) else ((ref06_Bool k (r1.2.2.1 == 1)).bind fun r2 => some (r1.1, r1.2.1, r2.1, 0, ()))))) else (bif (((c.toNat : Nat) : Int) == 2) then ((ref02_Reader_Int k b ((P + 1 : Nat) : Int)).bind fun r1 => (bif (r1.2.2.2.1 != 0) then some (r1.1, r1.2.1, (⟨0, 0, ([] : Bytes)⟩ : Val), r1.2.2.2.1, ()) else ((ref06_Int k r1.2.2.1).bind fun r2 => some (r1.1, r1.2.1, r2.1, 0, ())))) else (bif (((c.toNat : Nat) : Int) == 3) then ((ref02_Reader_Text k 256 b ((P + 1 : Nat) : Int)).bind fun r1 => (bif (r1.2.2.2.1 != 0) then some (r1.1, r1.2.1, (⟨0, 0, ([] : Bytes)⟩ : Val), r1.2.2.2.1, ()) else ((ref06_Text k r1.2.2.1).bind fun r2 => some (r1.1, r1.2.1, r2.1, 0, ())))) else some (b, ((P + 1 : Nat) : Int), (⟨0, 0, ([] : Bytes)⟩ : Val), 4, ()))))) r → Ans (fun k => ref06_Get k b (P : Int)) r := by
      intro r L
      refine .succ (fun k => ref06_Get_eq k b P) (.bind C (.no rfl ?_))
      rw [← ec] at L
      rw [ec] at L
      simp only [ec]
      exact L
    by_cases h0 : c.toNat = 0
    · have t0 : (((c.toNat : Nat) : Int) == 0) = true := by rw [h0]; rfl
      exact ⟨P + 1, ⟨0, 0, []⟩, 0, hP1, .inl (.succ (fun k => value_Get_eq k true P b) (.bind A (.no rfl (.yes t0 (.bind null_ .const))))), .succ (fun k => value_Get_2_eq k true P b) (.bind B (.no rfl (.yes t0 (.bind null_ .const)))), R (.yes t0 .const)⟩
    · have n0 : (((c.toNat : Nat) : Int) == 0) = false := by simp; omega
      by_cases h1 : c.toNat = 1
      · have t1 : (((c.toNat : Nat) : Int) == 1) = true := by rw [h1]; rfl
        rcases both_byte b (P + 1) hl hP1 with ⟨A2, B2, C2⟩ | ⟨d, hP2, A2, B2, C2⟩
        · exact ⟨P + 1, ⟨0, 0, []⟩, 3, hP1, .inl (.succ (fun k => value_Get_eq k true P b) (.bind A (.no rfl (.no n0 (.yes t1 (.bind (.succ (fun k => value_readBool_eq k true _ b) (.bind A2 (.yes rfl (.bind null_ .const)))) .const)))))), .succ (fun k => value_Get_2_eq k true P b) (.bind B (.no rfl (.no n0 (.yes t1 (.bind (.succ (fun k => value_readBool_2_eq k true _ b) (.bind B2 (.yes rfl (.bind null_ .const)))) .const))))), R (.no n0 (.yes t1 (.bind C2 (.yes rfl .const))))⟩
        · by_cases hd : d.toNat ≤ 1
          · have hd1 : decide (((d.toNat : Nat) : Int) > 1) = false := decide_eq_false (by omega)
            exact ⟨P + 1 + 1, ⟨1, if (((d.toNat : Nat) : Int) == 1) = true then 1 else 0, []⟩, 0, hP2, .inl (.succ (fun k => value_Get_eq k true P b) (.bind A (.no rfl (.no n0 (.yes t1 (.bind (.succ (fun k => value_readBool_eq k true _ b) (.bind A2 (.no rfl (.no hd1 (.bind (bool_ _) .const))))) .const)))))), .succ (fun k => value_Get_2_eq k true P b) (.bind B (.no rfl (.no n0 (.yes t1 (.bind (.succ (fun k => value_readBool_2_eq k true _ b) (.bind B2 (.no rfl (.no hd1 (.bind (bool_ _) .const))))) .const))))), R (.no n0 (.yes t1 (.bind C2 (.no rfl (.no hd1 (.bind (rbool _) .const))))))⟩
          · have hd1 : decide (((d.toNat : Nat) : Int) > 1) = true := decide_eq_true (by omega)
            exact ⟨P + 1 + 1, ⟨0, 0, []⟩, 4, hP2, .inl (.succ (fun k => value_Get_eq k true P b) (.bind A (.no rfl (.no n0 (.yes t1 (.bind (.succ (fun k => value_readBool_eq k true _ b) (.bind A2 (.no rfl (.yes hd1 (.bind null_ .const))))) .const)))))), .succ (fun k => value_Get_2_eq k true P b) (.bind B (.no rfl (.no n0 (.yes t1 (.bind (.succ (fun k => value_readBool_2_eq k true _ b) (.bind B2 (.no rfl (.yes hd1 (.bind null_ .const))))) .const))))), R (.no n0 (.yes t1 (.bind C2 (.no rfl (.yes hd1 .const)))))⟩
      · have n1 : (((c.toNat : Nat) : Int) == 1) = false := by simp; omega
        by_cases h2 : c.toNat = 2
        · have t2 : (((c.toNat : Nat) : Int) == 2) = true := by rw [h2]; rfl
          obtain ⟨p, y, e, hp, A2, B2, C2⟩ := both_int b (P + 1) hl hP1
          by_cases he : e = 0
          · subst he
            exact ⟨p, ⟨2, y, []⟩, 0, hp, .inr (.succ (fun k => value_Get_eq k true P b) (.bind A (.no rfl (.no n0 (.no n1 (.yes t2 (.elimR A2 (.no rfl (.bind (val_int y) .const))))))))), .succ (fun k => value_Get_2_eq k true P b) (.bind B (.no rfl (.no n0 (.no n1 (.yes t2 (.bind B2 (.no rfl (.bind (val_int y) .const)))))))), R (.no n0 (.no n1 (.yes t2 (.bind C2 (.no rfl (.bind (rval_int y) .const))))))⟩
          · exact ⟨p, ⟨0, 0, []⟩, e, hp, .inr (.succ (fun k => value_Get_eq k true P b) (.bind A (.no rfl (.no n0 (.no n1 (.yes t2 (.elimR A2 (.yes (ne_ he) (.bind null_ .const))))))))), .succ (fun k => value_Get_2_eq k true P b) (.bind B (.no rfl (.no n0 (.no n1 (.yes t2 (.bind B2 (.yes (ne_ he) (.bind null_ .const)))))))), R (.no n0 (.no n1 (.yes t2 (.bind C2 (.yes (ne_ he) .const)))))⟩
        · have n2 : (((c.toNat : Nat) : Int) == 2) = false := by simp; omega
          by_cases h3 : c.toNat = 3
          · have t3 : (((c.toNat : Nat) : Int) == 3) = true := by rw [h3]; rfl
            obtain ⟨p, s, e, hp, hs, A2, B2, C2⟩ := both_text b (P + 1) hl hP1
            by_cases he : e = 0
            · subst he
              exact ⟨p, ⟨3, 0, s⟩, 0, hp, .inr (.succ (fun k => value_Get_eq k true P b) (.bind A (.no rfl (.no n0 (.no n1 (.no n2 (.yes t3 (.elimR A2 (.no rfl (.bind (val_text hs) .const)))))))))), .succ (fun k => value_Get_2_eq k true P b) (.bind B (.no rfl (.no n0 (.no n1 (.no n2 (.yes t3 (.bind B2 (.no rfl (.bind (val_text hs) .const))))))))), R (.no n0 (.no n1 (.no n2 (.yes t3 (.bind C2 (.no rfl (.bind (rval_text hs) .const)))))))⟩
            · exact ⟨p, ⟨0, 0, []⟩, e, hp, .inr (.succ (fun k => value_Get_eq k true P b) (.bind A (.no rfl (.no n0 (.no n1 (.no n2 (.yes t3 (.elimR A2 (.yes (ne_ he) (.bind null_ .const)))))))))), .succ (fun k => value_Get_2_eq k true P b) (.bind B (.no rfl (.no n0 (.no n1 (.no n2 (.yes t3 (.bind B2 (.yes (ne_ he) (.bind null_ .const))))))))), R (.no n0 (.no n1 (.no n2 (.yes t3 (.bind C2 (.yes (ne_ he) .const))))))⟩
          · have n3 : (((c.toNat : Nat) : Int) == 3) = false := by simp; omega
            exact ⟨P + 1, ⟨0, 0, []⟩, 4, hP1, .inl (.succ (fun k => value_Get_eq k true P b) (.bind A (.no rfl (.no n0 (.no n1 (.no n2 (.no n3 (.bind null_ .const)))))))), .succ (fun k => value_Get_2_eq k true P b) (.bind B (.no rfl (.no n0 (.no n1 (.no n2 (.no n3 (.bind null_ .const))))))), R (.no n0 (.no n1 (.no n2 (.no n3 .const))))⟩
end Go.Ev.HpVY
