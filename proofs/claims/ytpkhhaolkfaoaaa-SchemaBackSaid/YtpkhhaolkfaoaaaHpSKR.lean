/-
  SchemaBack, the plain law: what is read.
-/
import Derived.Test.YtpkhhaolkfaoaaaHpSKQ
set_option linter.unusedVariables false
set_option linter.unusedSectionVars false
namespace Go.Ev.HpSK
theorem split_at {b x post : List UInt8} {P : Nat} (hP : P ≤ b.length) (hb : b.drop P = x ++ post) : b = b.take P ++ x ++ post ∧ (b.take P).length = P ∧ P + x.length ≤ b.length := by
  refine ⟨?_, by rw [List.length_take]; omega, ?_⟩
  · rw [List.append_assoc, ← hb, List.take_append_drop]
  · have := congrArg List.length hb
    rw [List.length_drop, List.length_append] at this; omega
theorem drop_at {b x post : List UInt8} {P : Nat} (hb : b.drop P = x ++ post) : b.drop (P + x.length) = post := by
  rw [← List.drop_drop, hb, List.drop_left]
theorem get_at {b post : List UInt8} {P m : Nat} (hbl : b.length ≤ 140737488355328) (hP : P ≤ b.length) (hm : m < 18446744073709551616) (hb : b.drop P = enc m ++ post) : Ans (fun k => vint_Get k b (P : Int)) ((m : Int), ((P + (enc m).length : Nat) : Int), 0, ()) := by
  obtain ⟨h1, h2, _⟩ := split_at hP hb
  have G := get_ (b.take P) post hm (by rw [← h1]; exact hbl)
  rw [← h1, h2] at G
  exact G
/-! ### Numbers -/
theorem tkf1 {b : List UInt8} {P most : Int} {r : Int × Int × Int × Unit} (hG : Ans (fun k => vint_Get k b P) r) (he : r.2.2.1 ≠ 0) : Ans (fun k => wire_Reader_take k most true P b) (Sum.inr (true, P, b, 0, 0, r.2.2.1, ())) :=
  .succ (fun k => wire_Reader_take_eq k most true P b) (.bind (rnone2 P b) (.of (fun k => wire_Reader_take_j0_eq k most true P b _) (.no rfl (.of (fun k => wire_Reader_take_j1_eq k most true P b _) (.bind hG (.yes (by show (r.2.2.1 != 0) = true; simpa using he) .const))))))
theorem tkf2 {b : List UInt8} {P most : Int} {r : Int × Int × Int × Unit} (hG : Ans (fun k => vint_Get k b P) r) (he : r.2.2.1 ≠ 0) : Ans (fun k => wire_Reader_take_2 k most true P b) (true, P, b, 0, 0, r.2.2.1, ()) :=
  .succ (fun k => wire_Reader_take_2_eq k most true P b) (.bind (rnone3 P b) (.of (fun k => wire_Reader_take_2_j0_eq k most true P b _) (.no rfl (.of (fun k => wire_Reader_take_2_j1_eq k most true P b _) (.bind hG (.yes (by show (r.2.2.1 != 0) = true; simpa using he) .const))))))
theorem tkg1 {b : List UInt8} {P most m e : Int} (hG : Ans (fun k => vint_Get k b P) (m, e, 0, ())) (hm : ¬ m ≤ most) : Ans (fun k => wire_Reader_take k most true P b) (Sum.inr (true, P, b, 0, 0, 4, ())) :=
  .succ (fun k => wire_Reader_take_eq k most true P b) (.bind (rnone2 P b) (.of (fun k => wire_Reader_take_j0_eq k most true P b _) (.no rfl (.of (fun k => wire_Reader_take_j1_eq k most true P b _) (.bind hG (.no rfl (.yes (decide_eq_true (by show m > most; omega)) .const)))))))
theorem tkg2 {b : List UInt8} {P most m e : Int} (hG : Ans (fun k => vint_Get k b P) (m, e, 0, ())) (hm : ¬ m ≤ most) : Ans (fun k => wire_Reader_take_2 k most true P b) (true, P, b, 0, 0, 4, ()) :=
  .succ (fun k => wire_Reader_take_2_eq k most true P b) (.bind (rnone3 P b) (.of (fun k => wire_Reader_take_2_j0_eq k most true P b _) (.no rfl (.of (fun k => wire_Reader_take_2_j1_eq k most true P b _) (.bind hG (.no rfl (.yes (decide_eq_true (by show m > most; omega)) .const)))))))
theorem num_known {b post : List UInt8} {P m : Nat} (hbl : b.length ≤ 140737488355328) (hP : P ≤ b.length) (hm : m ≤ 16) (hb : b.drop P = enc m ++ post) : Ans (fun k => wire_Reader_Num_2 k 16 true (P : Int) b) (true, ((P + (enc m).length : Nat) : Int), b, (m : Int), 0, ()) :=
  .succ (fun k => wire_Reader_Num_2_eq k 16 true P b) (.bind (take2 (get_at hbl hP (by omega) hb) (by omega)) (.yes rfl (.of (fun k => wire_Reader_Num_2_j0_eq k 16 true P b _ _) .const)))
theorem num_fault {b : List UInt8} {P e : Int} (he : e ≠ 0) (h : Ans (fun k => wire_Reader_take_2 k 16 true P b) (true, P, b, 0, 0, e, ())) : Ans (fun k => wire_Reader_Num_2 k 16 true P b) (true, P, b, 0, e, ()) :=
  .succ (fun k => wire_Reader_Num_2_eq k 16 true P b) (.bind h (.no (by show (e == 0) = false; simpa using he) (.of (fun k => wire_Reader_Num_2_j0_eq k 16 true P b _ _) .const)))
theorem num_any (b : List UInt8) (P : Nat) (hbl : b.length ≤ 140737488355328) (hP : P ≤ b.length) : (∃ e, e ≠ 0 ∧ Ans (fun k => wire_Reader_Num_2 k 16 true (P : Int) b) (true, (P : Int), b, 0, e, ())) ∨
    ∃ (m : Nat) (post : List UInt8), m ≤ 16 ∧ b.drop P = enc m ++ post ∧ Ans (fun k => wire_Reader_Num_2 k 16 true (P : Int) b) (true, ((P + (enc m).length : Nat) : Int), b, (m : Int), 0, ()) := by
  obtain ⟨r, hr, hF⟩ := get_any b P hbl hP
  rcases hF with he | ⟨m, post, hm, hb, rfl⟩
  · exact .inl ⟨_, he, num_fault he (tkf2 hr he)⟩
  · by_cases h16 : m ≤ 16
    · exact .inr ⟨m, post, h16, hb, num_known hbl hP h16 hb⟩
    · exact .inl ⟨4, by decide, num_fault (by decide) (tkg2 hr (by omega))⟩
/-! ### Texts -/
theorem text_good2 {b t post : List UInt8} {P : Nat} (hbl : b.length ≤ 140737488355328) (hP : P ≤ b.length) (ht : t.length ≤ 32) (hb : b.drop P = encT t ++ post) : Ans (fun k => wire_Reader_Text_2 k 32 true (P : Int) b) ((true, ((P + (encT t).length : Nat) : Int), b, t, 0, ())) := by
  unfold encT at hb ⊢
  rw [List.append_assoc] at hb
  have hG := get_at hbl hP (by omega) hb
  obtain ⟨h1, h2, h3⟩ := split_at hP hb
  have hbl2 : b.length = P + (enc t.length).length + (t.length + post.length) := by
    have := congrArg List.length hb
    rw [List.length_drop, List.length_append, List.length_append] at this; omega
  have hd : b.drop (P + (enc t.length).length) = t ++ post := drop_at hb
  have e0 : IntKind.u64.wrap (if 0 > (32 : Int) then 0 else 32) = 32 := by decide
  generalize hE : P + (enc t.length).length = E at *
  have e1 : IntKind.i64.wrap ((E : Int) + (IntKind.i64.wrap ((List.length t : Nat) : Int))) = ((E + t.length : Nat) : Int) := by
    rw [wrap_id (n := ((List.length t : Nat) : Int)) (by omega) (by omega), wrap_id (by omega) (by omega)]; omega
  have e2 : IntKind.u64.wrap (IntKind.i64.wrap (((List.length b : Nat) : Int) - (E : Int))) = ((t.length + post.length : Nat) : Int) := by
    rw [wrap_id (by omega) (by omega), show ((List.length b : Nat) : Int) - (E : Int) = ((t.length + post.length : Nat) : Int) by omega, u64_id (by omega)]
  have e3 : List.drop E (List.take (E + t.length) b) = t := by
    rw [← List.take_drop, hd, List.take_left]
  have e4 : P + ((enc t.length).length + t.length) = E + t.length := by omega
  rw [show (enc t.length ++ t).length = (enc t.length).length + t.length from List.length_append, e4]
  refine .succ (fun k => by rw [wire_Reader_Text_2_eq, e0]) (.bind (take2 hG (by omega)) (.no rfl (.no rfl (.bind (rlen2 _ b) (.no (decide_eq_false ?_) ?_)))))
  · show ¬ ((List.length t : Nat) : Int) > IntKind.u64.wrap (IntKind.i64.wrap (((List.length b : Nat) : Int) - (E : Int)))
    rw [e2]; omega
  · refine .bind (a := E + t.length) (.of (fun k => by
      show bnd (.int .i64 (IntKind.i64.wrap ((E : Int) + (IntKind.i64.wrap ((List.length t : Nat) : Int))))) b.length = some (E + t.length)
      rw [e1]; exact bnd_le (by omega)) .const) (.bind (a := E) (.of (fun k => by
      show bnd (.int .i64 (E : Int)) (E + t.length) = some E
      exact bnd_le (by omega)) .const) (.bind (a := E + t.length) (.of (fun k => by
      show bnd (.int .i64 (IntKind.i64.wrap ((E : Int) + (IntKind.i64.wrap ((List.length t : Nat) : Int))))) b.length = some (E + t.length)
      rw [e1]; exact bnd_le (by omega)) .const) (.yes (by simp) ?_)))
    show Ans (fun k => some ((true, IntKind.i64.wrap ((E : Int) + (IntKind.i64.wrap ((List.length t : Nat) : Int))), b, List.drop E (List.take (E + t.length) b), 0, ()))) _
    rw [e1, e3]
    exact .const
theorem text_fault2 {b : List UInt8} {P e : Int} (he : e ≠ 0) (h : Ans (fun k => wire_Reader_take_2 k 32 true P b) ((true, P, b, 0, 0, e, ()))) : Ans (fun k => wire_Reader_Text_2 k 32 true P b) ((true, P, b, [], e, ())) := by
  have e0 : IntKind.u64.wrap (if 0 > (32 : Int) then 0 else 32) = 32 := by decide
  exact .succ (fun k => by rw [wire_Reader_Text_2_eq, e0]) (.bind h (.yes (by show (e != 0) = true; simpa using he) .const))
theorem text_any2 (b : List UInt8) (P : Nat) (hbl : b.length ≤ 140737488355328) (hP : P ≤ b.length) : (∃ e P', e ≠ 0 ∧ Ans (fun k => wire_Reader_Text_2 k 32 true (P : Int) b) ((true, P', b, [], e, ()))) ∨
    ∃ (t post : List UInt8), t.length ≤ 32 ∧ b.drop P = encT t ++ post ∧ Ans (fun k => wire_Reader_Text_2 k 32 true (P : Int) b) ((true, ((P + (encT t).length : Nat) : Int), b, t, 0, ())) := by
  obtain ⟨r, hr, hF⟩ := get_any b P hbl hP
  rcases hF with he | ⟨m, post, hm, hb, rfl⟩
  · exact .inl ⟨_, _, he, text_fault2 he (tkf2 hr he)⟩
  · by_cases h32 : m ≤ 32
    · by_cases hl : m ≤ post.length
      · have hb' : b.drop P = encT (post.take m) ++ post.drop m := by
          rw [hb]; unfold encT
          rw [List.length_take, Nat.min_eq_left hl, List.append_assoc, List.take_append_drop]
        have ht : (post.take m).length ≤ 32 := by rw [List.length_take]; omega
        exact .inr ⟨post.take m, post.drop m, ht, hb', text_good2 hbl hP ht hb'⟩
      · refine .inl ⟨3, (P : Int), by decide, ?_⟩
        have e0 : IntKind.u64.wrap (if 0 > (32 : Int) then 0 else 32) = 32 := by decide
        have hlen : b.length = P + (enc m).length + post.length := by
          have := congrArg List.length hb
          rw [List.length_drop, List.length_append] at this; omega
        refine .succ (fun k => by rw [wire_Reader_Text_2_eq, e0]) (.bind (take2 hr (by omega)) (.no rfl (.no rfl (.bind (rlen2 _ b) (.yes (decide_eq_true ?_) .const)))))
        show ((m : Nat) : Int) > IntKind.u64.wrap (IntKind.i64.wrap (((List.length b : Nat) : Int) - ((P + (enc m).length : Nat) : Int)))
        rw [wrap_id (by omega) (by omega), show ((List.length b : Nat) : Int) - ((P + (enc m).length : Nat) : Int) = (post.length : Int) by omega, u64_id (by omega)]
        omega
    · exact .inl ⟨4, _, by decide, text_fault2 (by decide) (tkg2 hr (by omega))⟩
/-! ### Texts -/
theorem text_good1 {b t post : List UInt8} {P : Nat} (hbl : b.length ≤ 140737488355328) (hP : P ≤ b.length) (ht : t.length ≤ 32) (hb : b.drop P = encT t ++ post) : Ans (fun k => wire_Reader_Text k 32 true (P : Int) b) (Sum.inr (true, ((P + (encT t).length : Nat) : Int), b, t, 0, ())) := by
  unfold encT at hb ⊢
  rw [List.append_assoc] at hb
  have hG := get_at hbl hP (by omega) hb
  obtain ⟨h1, h2, h3⟩ := split_at hP hb
  have hbl2 : b.length = P + (enc t.length).length + (t.length + post.length) := by
    have := congrArg List.length hb
    rw [List.length_drop, List.length_append, List.length_append] at this; omega
  have hd : b.drop (P + (enc t.length).length) = t ++ post := drop_at hb
  have e0 : IntKind.u64.wrap (if 0 > (32 : Int) then 0 else 32) = 32 := by decide
  generalize hE : P + (enc t.length).length = E at *
  have e1 : IntKind.i64.wrap ((E : Int) + (IntKind.i64.wrap ((List.length t : Nat) : Int))) = ((E + t.length : Nat) : Int) := by
    rw [wrap_id (n := ((List.length t : Nat) : Int)) (by omega) (by omega), wrap_id (by omega) (by omega)]; omega
  have e2 : IntKind.u64.wrap (IntKind.i64.wrap (((List.length b : Nat) : Int) - (E : Int))) = ((t.length + post.length : Nat) : Int) := by
    rw [wrap_id (by omega) (by omega), show ((List.length b : Nat) : Int) - (E : Int) = ((t.length + post.length : Nat) : Int) by omega, u64_id (by omega)]
  have e3 : List.drop E (List.take (E + t.length) b) = t := by
    rw [← List.take_drop, hd, List.take_left]
  have e4 : P + ((enc t.length).length + t.length) = E + t.length := by omega
  rw [show (enc t.length ++ t).length = (enc t.length).length + t.length from List.length_append, e4]
  refine .succ (fun k => by rw [wire_Reader_Text_eq, e0]) (.elimR (take1 hG (by omega)) (.no rfl (.no rfl (.bind (rlen2 _ b) (.no (decide_eq_false ?_) ?_)))))
  · show ¬ ((List.length t : Nat) : Int) > IntKind.u64.wrap (IntKind.i64.wrap (((List.length b : Nat) : Int) - (E : Int)))
    rw [e2]; omega
  · refine .bind (a := E + t.length) (.of (fun k => by
      show bnd (.int .i64 (IntKind.i64.wrap ((E : Int) + (IntKind.i64.wrap ((List.length t : Nat) : Int))))) b.length = some (E + t.length)
      rw [e1]; exact bnd_le (by omega)) .const) (.bind (a := E) (.of (fun k => by
      show bnd (.int .i64 (E : Int)) (E + t.length) = some E
      exact bnd_le (by omega)) .const) (.bind (a := E + t.length) (.of (fun k => by
      show bnd (.int .i64 (IntKind.i64.wrap ((E : Int) + (IntKind.i64.wrap ((List.length t : Nat) : Int))))) b.length = some (E + t.length)
      rw [e1]; exact bnd_le (by omega)) .const) (.yes (by simp) ?_)))
    show Ans (fun k => some (Sum.inr (true, IntKind.i64.wrap ((E : Int) + (IntKind.i64.wrap ((List.length t : Nat) : Int))), b, List.drop E (List.take (E + t.length) b), 0, ()))) _
    rw [e1, e3]
    exact .const
theorem text_fault1 {b : List UInt8} {P e : Int} (he : e ≠ 0) (h : Ans (fun k => wire_Reader_take k 32 true P b) (Sum.inr (true, P, b, 0, 0, e, ()))) : Ans (fun k => wire_Reader_Text k 32 true P b) (Sum.inr (true, P, b, [], e, ())) := by
  have e0 : IntKind.u64.wrap (if 0 > (32 : Int) then 0 else 32) = 32 := by decide
  exact .succ (fun k => by rw [wire_Reader_Text_eq, e0]) (.elimR h (.yes (by show (e != 0) = true; simpa using he) .const))
theorem text_any1 (b : List UInt8) (P : Nat) (hbl : b.length ≤ 140737488355328) (hP : P ≤ b.length) : (∃ e P', e ≠ 0 ∧ Ans (fun k => wire_Reader_Text k 32 true (P : Int) b) (Sum.inr (true, P', b, [], e, ()))) ∨
    ∃ (t post : List UInt8), t.length ≤ 32 ∧ b.drop P = encT t ++ post ∧ Ans (fun k => wire_Reader_Text k 32 true (P : Int) b) (Sum.inr (true, ((P + (encT t).length : Nat) : Int), b, t, 0, ())) := by
  obtain ⟨r, hr, hF⟩ := get_any b P hbl hP
  rcases hF with he | ⟨m, post, hm, hb, rfl⟩
  · exact .inl ⟨_, _, he, text_fault1 he (tkf1 hr he)⟩
  · by_cases h32 : m ≤ 32
    · by_cases hl : m ≤ post.length
      · have hb' : b.drop P = encT (post.take m) ++ post.drop m := by
          rw [hb]; unfold encT
          rw [List.length_take, Nat.min_eq_left hl, List.append_assoc, List.take_append_drop]
        have ht : (post.take m).length ≤ 32 := by rw [List.length_take]; omega
        exact .inr ⟨post.take m, post.drop m, ht, hb', text_good1 hbl hP ht hb'⟩
      · refine .inl ⟨3, (P : Int), by decide, ?_⟩
        have e0 : IntKind.u64.wrap (if 0 > (32 : Int) then 0 else 32) = 32 := by decide
        have hlen : b.length = P + (enc m).length + post.length := by
          have := congrArg List.length hb
          rw [List.length_drop, List.length_append] at this; omega
        refine .succ (fun k => by rw [wire_Reader_Text_eq, e0]) (.elimR (take1 hr (by omega)) (.no rfl (.no rfl (.bind (rlen2 _ b) (.yes (decide_eq_true ?_) .const)))))
        show ((m : Nat) : Int) > IntKind.u64.wrap (IntKind.i64.wrap (((List.length b : Nat) : Int) - ((P + (enc m).length : Nat) : Int)))
        rw [wrap_id (by omega) (by omega), show ((List.length b : Nat) : Int) - ((P + (enc m).length : Nat) : Int) = (post.length : Int) by omega, u64_id (by omega)]
        omega
    · exact .inl ⟨4, _, by decide, text_fault1 (by decide) (tkg1 hr (by omega))⟩
/-! ### Fields -/
theorem byte_known {b post : List UInt8} {c : UInt8} {P : Nat} (hbl : b.length ≤ 140737488355328) (hP : P ≤ b.length) (hb : b.drop P = [c] ++ post) : Ans (fun k => wire_Reader_Byte_2 k true (P : Int) b) (true, ((P + 1 : Nat) : Int), b, (c.toNat : Int), 0, ()) := by
  obtain ⟨h1, h2, _⟩ := split_at hP hb
  have h := rbyte2 (b := b) (pre := b.take P) (post := post) (c := c) (by simpa using h1) hbl
  rw [h2] at h
  exact h
theorem byte_any (b : List UInt8) (P : Nat) (hbl : b.length ≤ 140737488355328) (hP : P ≤ b.length) : Ans (fun k => wire_Reader_Byte_2 k true (P : Int) b) (true, (P : Int), b, 0, 3, ()) ∨ ∃ (c : UInt8) (post : List UInt8), b.drop P = [c] ++ post := by
  cases hd : b.drop P with
  | nil =>
    have hl : b.length = P := by
      have := congrArg List.length hd
      rw [List.length_drop] at this; simp at this; omega
    refine .inl (.succ (fun k => wire_Reader_Byte_2_eq k true P b) (.bind (rnone3 _ b) (.of (fun k => wire_Reader_Byte_2_j0_eq k true P b _) (.no rfl (.bind (rlen2 _ b) (.yes ?_ .const))))))
    show ((P : Int) == ((List.length b : Nat) : Int)) = true
    rw [hl]; simp
  | cons c post => exact .inr ⟨c, post, rfl⟩
theorem field_known {b post : List UInt8} {f : Fld} {P : Nat} (hbl : b.length ≤ 140737488355328) (hP : P ≤ b.length) (hf : OkF f) (hb : b.drop P = encF f ++ post) : Ans (fun k => schema_field_2 k true (P : Int) b) (true, ((P + (encF f).length : Nat) : Int), b, f, 0, ()) := by
  obtain ⟨name, kd⟩ := f
  obtain ⟨c, rfl⟩ : ∃ c : Nat, kd = (c : Int) := ⟨kd.toNat, by have := hf.2.1; simp only at this; omega⟩
  have hc : c ≤ 3 := by have := hf.2.2; simp only at this; omega
  unfold encF at hb ⊢
  rw [List.append_assoc] at hb
  have hT := text_good2 hbl hP hf.1 hb
  obtain ⟨_, _, h3⟩ := split_at hP hb
  have hB := byte_known (P := P + (encT name).length) hbl h3 (drop_at hb)
  have e : ((UInt8.ofNat (Int.toNat ((c : Nat) : Int))).toNat : Int) = (c : Int) := by
    rw [Int.toNat_natCast]
    simp only [UInt8.toNat_ofNat']
    omega
  rw [e] at hB
  have el : P + (encT name ++ [UInt8.ofNat (Int.toNat ((c : Nat) : Int))]).length = P + (encT name).length + 1 := by rw [List.length_append]; simp; omega
  rw [el]
  refine .succ (fun k => schema_field_2_eq k true P b) (.bind hT (.no rfl (.bind hB ?_)))
  show Ans (fun k => some (true, ((P + (encT name).length + 1 : Nat) : Int), b, (⟨name, IntKind.i64.wrap (c : Int)⟩ : Fld), 0, ())) _
  rw [wrap_id (by omega) (by omega)]
  exact .const
theorem field_any (b : List UInt8) (P : Nat) (hbl : b.length ≤ 140737488355328) (hP : P ≤ b.length) : (∃ e P' f, e ≠ 0 ∧ Ans (fun k => schema_field_2 k true (P : Int) b) (true, P', b, f, e, ())) ∨
    ∃ (f : Fld) (post : List UInt8), b.drop P = encF f ++ post ∧ Ans (fun k => schema_field_2 k true (P : Int) b) (true, ((P + (encF f).length : Nat) : Int), b, f, 0, ()) := by
  rcases text_any2 b P hbl hP with ⟨e, P', he, h⟩ | ⟨t, post, ht, hb, h⟩
  · exact .inl ⟨e, P', _, he, .succ (fun k => schema_field_2_eq k true P b) (.bind h (.yes (by show (e != 0) = true; simpa using he) .const))⟩
  · obtain ⟨_, _, h3⟩ := split_at hP hb
    have hd := drop_at hb
    rcases byte_any b (P + (encT t).length) hbl h3 with hB | ⟨c, post2, hB⟩
    · exact .inl ⟨3, _, _, by decide, .succ (fun k => schema_field_2_eq k true P b) (.bind h (.no rfl (.bind hB .const)))⟩
    · have hK := byte_known hbl h3 hB
      have hc8 := UInt8.toNat_lt c
      refine .inr ⟨⟨t, (c.toNat : Int)⟩, post2, ?_, ?_⟩
      · unfold encF
        rw [hb, List.append_assoc]
        rw [hd] at hB
        rw [hB]
        simp
      · have el : P + (encF ⟨t, (c.toNat : Int)⟩).length = P + (encT t).length + 1 := by unfold encF; rw [List.length_append]; simp; omega
        rw [el]
        refine .succ (fun k => schema_field_2_eq k true P b) (.bind h (.no rfl (.bind hK ?_)))
        show Ans (fun k => some (true, ((P + (encT t).length + 1 : Nat) : Int), b, (⟨t, IntKind.i64.wrap (c.toNat : Int)⟩ : Fld), 0, ())) _
        rw [wrap_id (by omega) (by omega)]
        exact .const
end Go.Ev.HpSK
