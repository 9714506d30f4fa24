/-
  DictBack, the plain law: what is read.
-/
import Derived.Test.YtmfbfofcaphbmaaHpDBP
import Derived.Test.YtmfbfofcaphbmaaHpDict
set_option linter.unusedVariables false
set_option linter.unusedSectionVars false
namespace Go.Ev.HpDB
def encT (t : List UInt8) : List UInt8 := enc t.length ++ t
/-! ### What is written -/
theorem n2r {n : Nat} (hn : n ≤ 5000) : Ans (fun k => wire_Writer_Num_2 k (n : Int) true 65536) (Sum.inr (true, 65536, enc n, 0, ())) := by
  have h := num2 (M := 65536) (n := n) (by omega) (by omega)
  have := enc_ten (n := n) (by omega)
  rw [wres, if_pos (by omega)] at h
  exact h
theorem t3r {s : List UInt8} (hs : s.length ≤ 1000) {b : List UInt8} (hb : b.length ≤ 60000) : Ans (fun k => wire_Writer_Text_3 k s true 65536 b) (Sum.inr (true, 65536, b, b ++ encT s, 0, ())) := by
  have h := text3 (M := 65536) (by omega) (b := b) (by omega) s (by omega)
  have := enc_ten (n := s.length) (by omega)
  rw [wres3, if_pos (by rw [List.length_append]; omega)] at h
  exact h
theorem encT_len {t : List UInt8} (h : t.length ≤ 256) : (encT t).length ≤ 266 := by
  have := enc_ten (n := t.length) (by omega)
  unfold encT; rw [List.length_append]; omega
def encTs (l : List Bytes) : List UInt8 := l.flatMap encT
def encL (l : List Bytes) : List UInt8 := enc l.length ++ encTs l
theorem encTs_len : ∀ (l : List Bytes), (∀ f ∈ l, List.length f ≤ 256) → (encTs l).length ≤ 266 * l.length
  | [], _ => by simp [encTs]
  | f :: l, h => by
    have h1 := encTs_len l fun w hw => h w (by simp [hw])
    have h2 := encT_len (h f (by simp))
    simp only [encTs, List.flatMap_cons, List.length_append, List.length_cons] at h1 ⊢
    omega
theorem encTs_add (l : List Bytes) (s : Bytes) : encTs (l ++ [s]) = encTs l ++ encT s := by simp [encTs]
theorem split_at {b x post : List UInt8} {P : Nat} (hP : P ≤ b.length) (hb : b.drop P = x ++ post) : b = b.take P ++ x ++ post ∧ (b.take P).length = P ∧ P + x.length ≤ b.length := by
  refine ⟨?_, by rw [List.length_take]; omega, ?_⟩
  · rw [List.append_assoc, ← hb, List.take_append_drop]
  · have := congrArg List.length hb
    rw [List.length_drop, List.length_append] at this; omega
theorem drop_at {b x post : List UInt8} {P : Nat} (hb : b.drop P = x ++ post) : b.drop (P + x.length) = post := by
  rw [← List.drop_drop, hb, List.drop_left]
theorem get_at {b post : List UInt8} {P m : Nat} (hbl : b.length ≤ 140737488355328) (hP : P ≤ b.length) (hm : m < 18446744073709551616) (hb : b.drop P = enc m ++ post) : Ans (fun k => vint_Get k b (P : Int)) ((m : Int), ((P + (enc m).length : Nat) : Int), 0, ()) := by
  obtain ⟨h1, h2, _⟩ := split_at hP hb
  have G := get_ (b.take P) post hm (by rw [← h1]; exact hbl)
  rw [← h1, h2] at G
  exact G
/-! ### Numbers -/
theorem tkf1 {b : List UInt8} {P most : Int} {r : Int × Int × Int × Unit} (hG : Ans (fun k => vint_Get k b P) r) (he : r.2.2.1 ≠ 0) : Ans (fun k => wire_Reader_take k most true P b) (Sum.inr (true, P, b, 0, 0, r.2.2.1, ())) :=
  .succ (fun k => wire_Reader_take_eq k most true P b) (.bind (rnone2 P b) (.of (fun k => wire_Reader_take_j0_eq k most true P b _) (.no rfl (.of (fun k => wire_Reader_take_j1_eq k most true P b _) (.bind hG (.yes (by show (r.2.2.1 != 0) = true; simpa using he) .const))))))
theorem tkf2 {b : List UInt8} {P most : Int} {r : Int × Int × Int × Unit} (hG : Ans (fun k => vint_Get k b P) r) (he : r.2.2.1 ≠ 0) : Ans (fun k => wire_Reader_take_2 k most true P b) (true, P, b, 0, 0, r.2.2.1, ()) :=
  .succ (fun k => wire_Reader_take_2_eq k most true P b) (.bind (rnone3 P b) (.of (fun k => wire_Reader_take_2_j0_eq k most true P b _) (.no rfl (.of (fun k => wire_Reader_take_2_j1_eq k most true P b _) (.bind hG (.yes (by show (r.2.2.1 != 0) = true; simpa using he) .const))))))
theorem tkg1 {b : List UInt8} {P most m e : Int} (hG : Ans (fun k => vint_Get k b P) (m, e, 0, ())) (hm : ¬ m ≤ most) : Ans (fun k => wire_Reader_take k most true P b) (Sum.inr (true, P, b, 0, 0, 4, ())) :=
  .succ (fun k => wire_Reader_take_eq k most true P b) (.bind (rnone2 P b) (.of (fun k => wire_Reader_take_j0_eq k most true P b _) (.no rfl (.of (fun k => wire_Reader_take_j1_eq k most true P b _) (.bind hG (.no rfl (.yes (decide_eq_true (by show m > most; omega)) .const)))))))
theorem tkg2 {b : List UInt8} {P most m e : Int} (hG : Ans (fun k => vint_Get k b P) (m, e, 0, ())) (hm : ¬ m ≤ most) : Ans (fun k => wire_Reader_take_2 k most true P b) (true, P, b, 0, 0, 4, ()) :=
  .succ (fun k => wire_Reader_take_2_eq k most true P b) (.bind (rnone3 P b) (.of (fun k => wire_Reader_take_2_j0_eq k most true P b _) (.no rfl (.of (fun k => wire_Reader_take_2_j1_eq k most true P b _) (.bind hG (.no rfl (.yes (decide_eq_true (by show m > most; omega)) .const)))))))
theorem num_known {b post : List UInt8} {P m most : Nat} (hbl : b.length ≤ 140737488355328) (hP : P ≤ b.length) (hm : m ≤ most) (h64 : m < 18446744073709551616) (hb : b.drop P = enc m ++ post) : Ans (fun k => wire_Reader_Num k (most : Int) true (P : Int) b) (Sum.inr (true, ((P + (enc m).length : Nat) : Int), b, (m : Int), 0, ())) :=
  .succ (fun k => wire_Reader_Num_eq k most true P b) (.elimR (take1 (get_at hbl hP h64 hb) (by omega)) (.yes rfl (.of (fun k => wire_Reader_Num_j1_eq k most true P b _ _) .const)))
theorem num_fault {b : List UInt8} {P e most : Int} (he : e ≠ 0) (h : Ans (fun k => wire_Reader_take k most true P b) (Sum.inr (true, P, b, 0, 0, e, ()))) : Ans (fun k => wire_Reader_Num k most true P b) (Sum.inr (true, P, b, 0, e, ())) :=
  .succ (fun k => wire_Reader_Num_eq k most true P b) (.elimR h (.no (by show (e == 0) = false; simpa using he) (.of (fun k => wire_Reader_Num_j1_eq k most true P b _ _) .const)))
/-! ### Texts -/
theorem text_good2 {b t post : List UInt8} {P : Nat} (hbl : b.length ≤ 140737488355328) (hP : P ≤ b.length) (ht : t.length ≤ 256) (hb : b.drop P = encT t ++ post) : Ans (fun k => wire_Reader_Text_2 k 256 true (P : Int) b) ((true, ((P + (encT t).length : Nat) : Int), b, t, 0, ())) := by
  unfold encT at hb ⊢
  rw [List.append_assoc] at hb
  have hG := get_at hbl hP (by omega) hb
  obtain ⟨h1, h2, h3⟩ := split_at hP hb
  have hbl2 : b.length = P + (enc t.length).length + (t.length + post.length) := by
    have := congrArg List.length hb
    rw [List.length_drop, List.length_append, List.length_append] at this; omega
  have hd : b.drop (P + (enc t.length).length) = t ++ post := drop_at hb
  have e0 : IntKind.u64.wrap (if 0 > (256 : Int) then 0 else 256) = 256 := by decide
  generalize hE : P + (enc t.length).length = E at *
  have e1 : IntKind.i64.wrap ((E : Int) + (IntKind.i64.wrap ((List.length t : Nat) : Int))) = ((E + t.length : Nat) : Int) := by
    rw [wrap_id (n := ((List.length t : Nat) : Int)) (by omega) (by omega), wrap_id (by omega) (by omega)]; omega
  have e2 : IntKind.u64.wrap (IntKind.i64.wrap (((List.length b : Nat) : Int) - (E : Int))) = ((t.length + post.length : Nat) : Int) := by
    rw [wrap_id (by omega) (by omega), show ((List.length b : Nat) : Int) - (E : Int) = ((t.length + post.length : Nat) : Int) by omega, u64_id (by omega)]
  have e3 : List.drop E (List.take (E + t.length) b) = t := by
    rw [← List.take_drop, hd, List.take_left]
  have e4 : P + ((enc t.length).length + t.length) = E + t.length := by omega
  rw [show (enc t.length ++ t).length = (enc t.length).length + t.length from List.length_append, e4]
  refine .succ (fun k => by rw [wire_Reader_Text_2_eq, e0]) (.bind (take2 hG (by omega)) (.no rfl (.no rfl (.bind (rlen2 _ b) (.no (decide_eq_false ?_) ?_)))))
  · show ¬ ((List.length t : Nat) : Int) > IntKind.u64.wrap (IntKind.i64.wrap (((List.length b : Nat) : Int) - (E : Int)))
    rw [e2]; omega
  · refine .bind (a := E + t.length) (.of (fun k => by
      show bnd (.int .i64 (IntKind.i64.wrap ((E : Int) + (IntKind.i64.wrap ((List.length t : Nat) : Int))))) b.length = some (E + t.length)
      rw [e1]; exact bnd_le (by omega)) .const) (.bind (a := E) (.of (fun k => by
      show bnd (.int .i64 (E : Int)) (E + t.length) = some E
      exact bnd_le (by omega)) .const) (.bind (a := E + t.length) (.of (fun k => by
      show bnd (.int .i64 (IntKind.i64.wrap ((E : Int) + (IntKind.i64.wrap ((List.length t : Nat) : Int))))) b.length = some (E + t.length)
      rw [e1]; exact bnd_le (by omega)) .const) (.yes (by simp) ?_)))
    show Ans (fun k => some ((true, IntKind.i64.wrap ((E : Int) + (IntKind.i64.wrap ((List.length t : Nat) : Int))), b, List.drop E (List.take (E + t.length) b), 0, ()))) _
    rw [e1, e3]
    exact .const
end Go.Ev.HpDB
