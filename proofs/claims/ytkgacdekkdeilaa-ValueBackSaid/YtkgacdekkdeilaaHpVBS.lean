/-
  ValueBack, the plain law: values read.
-/
import Derived.Test.YtkgacdekkdeilaaHpVBQ
set_option linter.unusedVariables false
namespace Go.Ev.HpVB
theorem rbyte1 {b pre post : List UInt8} {c : UInt8} (hb : b = pre ++ c :: post) (hl : b.length ≤ 140737488355328) : Ans (fun k => wire_Reader_Byte k true (pre.length : Int) b) (true, ((pre.length + 1 : Nat) : Int), b, (c.toNat : Int), 0, ()) := by
  have hbl : b.length = pre.length + (post.length + 1) := by rw [hb, List.length_append, List.length_cons]
  have e1 : IntKind.i64.wrap (((pre.length : Nat) : Int) + 1) = ((pre.length + 1 : Nat) : Int) := wrap_succ (m := 140737488355330) (by omega) (by omega)
  have e2 : IntKind.i64.wrap (((pre.length + 1 : Nat) : Int) - 1) = ((pre.length : Nat) : Int) := by rw [wrap_id (by omega) (by omega)]; omega
  have hx : b[pre.length]? = some c := by rw [hb]; simp
  refine .succ (fun k => wire_Reader_Byte_eq k true pre.length b) (.bind (rnone2 _ b) (.of (fun k => wire_Reader_Byte_j0_eq k true pre.length b _) (.no rfl (.bind (rlen1 _ b) (.no ?_ (.of (fun k => wire_Reader_Byte_j1_eq k true pre.length b _) ?_))))))
  · show (((pre.length : Nat) : Int) == ((List.length b : Nat) : Int)) = false
    simp; omega
  · show Ans (fun k => (idx b (IntKind.i64.wrap ((IntKind.i64.wrap (((pre.length : Nat) : Int) + 1)) - 1))).bind fun d => (b[(Int.toNat (IntKind.i64.wrap ((IntKind.i64.wrap (((pre.length : Nat) : Int) + 1)) - 1)))]?).bind fun d1 => some (true, (IntKind.i64.wrap (((pre.length : Nat) : Int) + 1)), b, ((d1).toNat : Int), (0 : Int), ())) _
    rw [e1, e2, Int.toNat_natCast, hx]
    have hi : idx b ((pre.length : Nat) : Int) = some c := by
      unfold idx
      rw [decide_eq_true (by omega), cond_true, Int.toNat_natCast, hx]
    rw [hi]
    exact .const
theorem rbyte1e (b : List UInt8) : Ans (fun k => wire_Reader_Byte k true (b.length : Int) b) (true, (b.length : Int), b, 0, 3, ()) :=
  .succ (fun k => wire_Reader_Byte_eq k true b.length b) (.bind (rnone2 _ b) (.of (fun k => wire_Reader_Byte_j0_eq k true b.length b _) (.no rfl (.bind (rlen1 _ b) (.yes (by show (((List.length b : Nat) : Int) == ((List.length b : Nat) : Int)) = true; simp) .const)))))
theorem null_ : Ans (fun k => value_Null k) ((⟨0, 0, ([] : Bytes)⟩ : Val), ()) := .succ (fun k => value_Null_eq k) .const
theorem bool_ (b : Bool) : Ans (fun k => value_Bool k b) ((⟨1, if b = true then 1 else 0, []⟩ : Val), ()) := .succ (fun k => value_Bool_eq k b) (by cases b <;> exact .const)
theorem val_int (n : Int) : Ans (fun k => value_Int k n) ((⟨2, n, []⟩ : Val), ()) := .succ (fun k => value_Int_eq k n) .const
theorem val_text {s : Bytes} (h : List.length s ≤ 256) : Ans (fun k => value_Text k s) ((⟨3, 0, s⟩ : Val), ()) := .succ (fun k => value_Text_eq k s) (.no (decide_eq_false (by omega)) .const)
theorem rint1 {b : List UInt8} {P e y : Int} (h : -9223372036854775808 ≤ y ∧ y < 9223372036854775808) (hG : Ans (fun k => vint_Get k b P) ((turn y : Int), e, 0, ())) : Ans (fun k => wire_Reader_Int k true P b) (Sum.inr (true, e, b, y, 0, ())) :=
  .succ (fun k => wire_Reader_Int_eq k true P b) (.elimR (take1 hG (by have := turn_lt h; omega)) (.no rfl (.bind (back_ h) .const)))
/-- A text read: at most 256 bytes are asked for. -/
theorem text_tail {b pre t post : List UInt8} (hb : b = pre ++ t ++ post) (hl : b.length ≤ 140737488355328) :
    IntKind.i64.wrap (((pre.length : Nat) : Int) + (IntKind.i64.wrap ((List.length t : Nat) : Int))) = ((pre.length + t.length : Nat) : Int) ∧ IntKind.u64.wrap (IntKind.i64.wrap (((List.length b : Nat) : Int) - ((pre.length : Nat) : Int))) = ((t.length + post.length : Nat) : Int) ∧
      List.drop pre.length (List.take (pre.length + t.length) b) = t ∧ b.length = pre.length + t.length + post.length := by
  have hbl : b.length = pre.length + t.length + post.length := by rw [hb, List.length_append, List.length_append]
  refine ⟨?_, ?_, ?_, hbl⟩
  · rw [wrap_id (n := ((List.length t : Nat) : Int)) (by omega) (by omega), wrap_id (by omega) (by omega)]; omega
  · rw [wrap_id (by omega) (by omega), show ((List.length b : Nat) : Int) - ((pre.length : Nat) : Int) = ((t.length + post.length : Nat) : Int) by omega, u64_id (by omega)]
  · have : pre.length + t.length = (pre ++ t).length := by simp
    rw [hb, this, List.take_left, List.drop_left]
theorem text1 {b pre t post : List UInt8} {P : Int} (hb : b = pre ++ t ++ post) (hl : b.length ≤ 140737488355328) (ht : t.length ≤ 256) (hG : Ans (fun k => vint_Get k b P) ((t.length : Int), (pre.length : Int), 0, ())) : Ans (fun k => wire_Reader_Text k 256 true P b) (Sum.inr (true, ((pre.length + t.length : Nat) : Int), b, t, 0, ())) := by
  obtain ⟨e1, e2, e3, hbl⟩ := text_tail hb hl
  refine .succ (fun k => wire_Reader_Text_eq k 256 true P b) (.elimR (take1 hG (by show ((t.length : Nat) : Int) ≤ 256; omega)) (.no rfl (.no rfl (.bind (rlen2 _ b) (.no (decide_eq_false ?_) ?_)))))
  · show ¬ ((List.length t : Nat) : Int) > IntKind.u64.wrap (IntKind.i64.wrap (((List.length b : Nat) : Int) - ((pre.length : Nat) : Int)))
    rw [e2]; omega
  · refine .bind (a := pre.length + t.length) (.of (fun k => by
      show bnd (.int .i64 (IntKind.i64.wrap (((pre.length : Nat) : Int) + (IntKind.i64.wrap ((List.length t : Nat) : Int))))) b.length = some (pre.length + t.length)
      rw [e1]; exact bnd_le (by omega)) .const) (.bind (a := pre.length) (.of (fun k => by
      show bnd (.int .i64 ((pre.length : Nat) : Int)) (pre.length + t.length) = some pre.length
      exact bnd_le (by omega)) .const) (.bind (a := pre.length + t.length) (.of (fun k => by
      show bnd (.int .i64 (IntKind.i64.wrap (((pre.length : Nat) : Int) + (IntKind.i64.wrap ((List.length t : Nat) : Int))))) b.length = some (pre.length + t.length)
      rw [e1]; exact bnd_le (by omega)) .const) (.yes (by simp) ?_)))
    show Ans (fun k => some (Sum.inr (true, IntKind.i64.wrap (((pre.length : Nat) : Int) + (IntKind.i64.wrap ((List.length t : Nat) : Int))), b, List.drop pre.length (List.take (pre.length + t.length) b), 0, ()))) _
    rw [e1, e3]
    exact .const
theorem text2r {b pre t post : List UInt8} {P : Int} (hb : b = pre ++ t ++ post) (hl : b.length ≤ 140737488355328) (ht : t.length ≤ 256) (hG : Ans (fun k => vint_Get k b P) ((t.length : Int), (pre.length : Int), 0, ())) : Ans (fun k => wire_Reader_Text_2 k 256 true P b) (true, ((pre.length + t.length : Nat) : Int), b, t, 0, ()) := by
  obtain ⟨e1, e2, e3, hbl⟩ := text_tail hb hl
  refine .succ (fun k => wire_Reader_Text_2_eq k 256 true P b) (.bind (take2 hG (by show ((t.length : Nat) : Int) ≤ 256; omega)) (.no rfl (.no rfl (.bind (rlen2 _ b) (.no (decide_eq_false ?_) ?_)))))
  · show ¬ ((List.length t : Nat) : Int) > IntKind.u64.wrap (IntKind.i64.wrap (((List.length b : Nat) : Int) - ((pre.length : Nat) : Int)))
    rw [e2]; omega
  · refine .bind (a := pre.length + t.length) (.of (fun k => by
      show bnd (.int .i64 (IntKind.i64.wrap (((pre.length : Nat) : Int) + (IntKind.i64.wrap ((List.length t : Nat) : Int))))) b.length = some (pre.length + t.length)
      rw [e1]; exact bnd_le (by omega)) .const) (.bind (a := pre.length) (.of (fun k => by
      show bnd (.int .i64 ((pre.length : Nat) : Int)) (pre.length + t.length) = some pre.length
      exact bnd_le (by omega)) .const) (.bind (a := pre.length + t.length) (.of (fun k => by
      show bnd (.int .i64 (IntKind.i64.wrap (((pre.length : Nat) : Int) + (IntKind.i64.wrap ((List.length t : Nat) : Int))))) b.length = some (pre.length + t.length)
      rw [e1]; exact bnd_le (by omega)) .const) (.yes (by simp) ?_)))
    show Ans (fun k => some (true, IntKind.i64.wrap (((pre.length : Nat) : Int) + (IntKind.i64.wrap ((List.length t : Nat) : Int))), b, List.drop pre.length (List.take (pre.length + t.length) b), 0, ())) _
    rw [e1, e3]
    exact .const
theorem val_eta (v : Val) {k n : Int} {s : Bytes} (h1 : v.k = k) (h2 : v.n = n) (h3 : v.s = s) : (⟨k, n, s⟩ : Val) = v := by
  cases v; simp only at h1 h2 h3; rw [h1, h2, h3]
/-- A value's bytes, read by whoever has its row for himself; the row may be shared behind. -/
theorem vget1 {b pre post : List UInt8} {v : Val} (hv : InV v) (hR : RightP v) (hb : b = pre ++ encV v ++ post) (hl : b.length ≤ 140737488355328) :
    Ans (fun k => value_Get k true (pre.length : Int) b) (Sum.inl (true, ((pre ++ encV v).length : Int), b, v, 0, ())) ∨ Ans (fun k => value_Get k true (pre.length : Int) b) (Sum.inr (true, ((pre ++ encV v).length : Int), b, v, 0, ())) := by
  rcases hR with ⟨h0, hn, hs⟩ | ⟨h1, hs, hn⟩ | ⟨h2, hs⟩ | ⟨h3, hn, hs⟩
  · left
    have he : encV v = [0] := by simp [encV, h0]
    have B := rbyte1 (b := b) (pre := pre) (c := 0) (post := post) (by rw [hb, he]; simp) hl
    rw [he, show (pre ++ [(0 : UInt8)]).length = pre.length + 1 by simp]
    refine .succ (fun k => value_Get_eq k true pre.length b) (.bind B (.no rfl (.yes rfl (.bind null_ ?_))))
    rw [← val_eta v h0 hn hs]
    exact .const
  · left
    have he : encV v = [1] ++ [UInt8.ofNat (Int.toNat (IntKind.u8.wrap v.n))] := by simp [encV, h1]
    have B := rbyte1 (b := b) (pre := pre) (c := 1) (post := [UInt8.ofNat (Int.toNat (IntKind.u8.wrap v.n))] ++ post) (by rw [hb, he]; simp) hl
    have B2 := rbyte1 (b := b) (pre := pre ++ [1]) (c := UInt8.ofNat (Int.toNat (IntKind.u8.wrap v.n))) (post := post) (by rw [hb, he]; simp) hl
    rw [show (pre ++ [(1 : UInt8)]).length = pre.length + 1 by simp] at B2
    rw [he, show (pre ++ ([(1 : UInt8)] ++ [UInt8.ofNat (Int.toNat (IntKind.u8.wrap v.n))])).length = pre.length + 1 + 1 by simp]
    have hc : ((UInt8.ofNat (Int.toNat (IntKind.u8.wrap v.n))).toNat : Int) = v.n := by rcases hn with h | h <;> rw [h] <;> rfl
    rw [hc] at B2
    have RB : Ans (fun k => value_readBool k true ((pre.length + 1 : Nat) : Int) b) (true, ((pre.length + 1 + 1 : Nat) : Int), b, v, 0, ()) := by
      refine .succ (fun k => value_readBool_eq k true _ b) (.bind B2 (.no rfl (.no (decide_eq_false (by show ¬ v.n > 1; omega)) (.bind (bool_ _) ?_))))
      have hv1 : (⟨1, if (v.n == 1) = true then 1 else 0, []⟩ : Val) = v := val_eta v h1 (by rcases hn with h | h <;> rw [h] <;> rfl) hs
      rw [hv1]
      exact .const
    exact .succ (fun k => value_Get_eq k true pre.length b) (.bind B (.no rfl (.no rfl (.yes rfl (.bind RB .const)))))
  · right
    have he : encV v = [2] ++ enc (turn v.n) := by simp [encV, h2]
    have B := rbyte1 (b := b) (pre := pre) (c := 2) (post := enc (turn v.n) ++ post) (by rw [hb, he]; simp) hl
    have hb2 : b = (pre ++ [2]) ++ enc (turn v.n) ++ post := by rw [hb, he]; simp
    have G := get_ (pre ++ [2]) post (turn_lt hv) (by rw [← hb2]; exact hl)
    rw [← hb2, show (pre ++ [(2 : UInt8)]).length = pre.length + 1 by simp] at G
    rw [he, show (pre ++ (([2] : List UInt8) ++ enc (turn v.n))).length = pre.length + 1 + (enc (turn v.n)).length by simp; omega]
    refine .succ (fun k => value_Get_eq k true pre.length b) (.bind B (.no rfl (.no rfl (.no rfl (.yes rfl (.elimR (rint1 hv G) (.no rfl (.bind (val_int _) ?_))))))))
    rw [val_eta v h2 rfl hs]
    exact .const
  · right
    have he : encV v = [3] ++ (enc (List.length v.s) ++ v.s) := by simp [encV, h3]
    have B := rbyte1 (b := b) (pre := pre) (c := 3) (post := enc (List.length v.s) ++ v.s ++ post) (by rw [hb, he]; simp) hl
    have hb2 : b = (pre ++ [3]) ++ enc (List.length v.s) ++ (v.s ++ post) := by rw [hb, he]; simp
    have hb3 : b = (pre ++ [3] ++ enc (List.length v.s)) ++ v.s ++ post := by rw [hb, he]; simp
    have G := get_ (pre ++ [3]) (v.s ++ post) (m := List.length v.s) (by omega) (by rw [← hb2]; exact hl)
    rw [← hb2, show ((pre ++ [(3 : UInt8)]).length + (enc (List.length v.s)).length : Nat) = (pre ++ [3] ++ enc (List.length v.s)).length by rw [List.length_append (bs := enc _)], show (pre ++ [(3 : UInt8)]).length = pre.length + 1 by simp] at G
    have T := text1 hb3 hl hs G
    rw [show (pre ++ ([3] : List UInt8) ++ enc (List.length v.s)).length + List.length v.s = (pre ++ encV v).length by rw [he]; simp; omega] at T
    refine .succ (fun k => value_Get_eq k true pre.length b) (.bind B (.no rfl (.no rfl (.no rfl (.no rfl (.yes rfl (.elimR T (.no rfl (.bind (val_text hs) ?_)))))))))
    rw [val_eta v h3 hn rfl]
    exact .const
theorem vget2 {b pre post : List UInt8} {v : Val} (hv : InV v) (hR : RightP v) (hb : b = pre ++ encV v ++ post) (hl : b.length ≤ 140737488355328) :
    Ans (fun k => value_Get_2 k true (pre.length : Int) b) (true, ((pre ++ encV v).length : Int), b, v, 0, ()) := by
  rcases hR with ⟨h0, hn, hs⟩ | ⟨h1, hs, hn⟩ | ⟨h2, hs⟩ | ⟨h3, hn, hs⟩
  · have he : encV v = [0] := by simp [encV, h0]
    have B := rbyte2 (b := b) (pre := pre) (c := 0) (post := post) (by rw [hb, he]; simp) hl
    rw [he, show (pre ++ [(0 : UInt8)]).length = pre.length + 1 by simp]
    refine .succ (fun k => value_Get_2_eq k true pre.length b) (.bind B (.no rfl (.yes rfl (.bind null_ ?_))))
    rw [← val_eta v h0 hn hs]
    exact .const
  · have he : encV v = [1] ++ [UInt8.ofNat (Int.toNat (IntKind.u8.wrap v.n))] := by simp [encV, h1]
    have B := rbyte2 (b := b) (pre := pre) (c := 1) (post := [UInt8.ofNat (Int.toNat (IntKind.u8.wrap v.n))] ++ post) (by rw [hb, he]; simp) hl
    have B2 := rbyte2 (b := b) (pre := pre ++ [1]) (c := UInt8.ofNat (Int.toNat (IntKind.u8.wrap v.n))) (post := post) (by rw [hb, he]; simp) hl
    rw [show (pre ++ [(1 : UInt8)]).length = pre.length + 1 by simp] at B2
    rw [he, show (pre ++ ([(1 : UInt8)] ++ [UInt8.ofNat (Int.toNat (IntKind.u8.wrap v.n))])).length = pre.length + 1 + 1 by simp]
    have hc : ((UInt8.ofNat (Int.toNat (IntKind.u8.wrap v.n))).toNat : Int) = v.n := by rcases hn with h | h <;> rw [h] <;> rfl
    rw [hc] at B2
    have RB : Ans (fun k => value_readBool_2 k true ((pre.length + 1 : Nat) : Int) b) (true, ((pre.length + 1 + 1 : Nat) : Int), b, v, 0, ()) := by
      refine .succ (fun k => value_readBool_2_eq k true _ b) (.bind B2 (.no rfl (.no (decide_eq_false (by show ¬ v.n > 1; omega)) (.bind (bool_ _) ?_))))
      have hv1 : (⟨1, if (v.n == 1) = true then 1 else 0, []⟩ : Val) = v := val_eta v h1 (by rcases hn with h | h <;> rw [h] <;> rfl) hs
      rw [hv1]
      exact .const
    exact .succ (fun k => value_Get_2_eq k true pre.length b) (.bind B (.no rfl (.no rfl (.yes rfl (.bind RB .const)))))
  · have he : encV v = [2] ++ enc (turn v.n) := by simp [encV, h2]
    have B := rbyte2 (b := b) (pre := pre) (c := 2) (post := enc (turn v.n) ++ post) (by rw [hb, he]; simp) hl
    have hb2 : b = (pre ++ [2]) ++ enc (turn v.n) ++ post := by rw [hb, he]; simp
    have G := get_ (pre ++ [2]) post (turn_lt hv) (by rw [← hb2]; exact hl)
    rw [← hb2, show (pre ++ [(2 : UInt8)]).length = pre.length + 1 by simp] at G
    rw [he, show (pre ++ (([2] : List UInt8) ++ enc (turn v.n))).length = pre.length + 1 + (enc (turn v.n)).length by simp; omega]
    refine .succ (fun k => value_Get_2_eq k true pre.length b) (.bind B (.no rfl (.no rfl (.no rfl (.yes rfl (.bind (rint2 hv G) (.no rfl (.bind (val_int _) ?_))))))))
    rw [val_eta v h2 rfl hs]
    exact .const
  · have he : encV v = [3] ++ (enc (List.length v.s) ++ v.s) := by simp [encV, h3]
    have B := rbyte2 (b := b) (pre := pre) (c := 3) (post := enc (List.length v.s) ++ v.s ++ post) (by rw [hb, he]; simp) hl
    have hb2 : b = (pre ++ [3]) ++ enc (List.length v.s) ++ (v.s ++ post) := by rw [hb, he]; simp
    have hb3 : b = (pre ++ [3] ++ enc (List.length v.s)) ++ v.s ++ post := by rw [hb, he]; simp
    have G := get_ (pre ++ [3]) (v.s ++ post) (m := List.length v.s) (by omega) (by rw [← hb2]; exact hl)
    rw [← hb2, show ((pre ++ [(3 : UInt8)]).length + (enc (List.length v.s)).length : Nat) = (pre ++ [3] ++ enc (List.length v.s)).length by rw [List.length_append (bs := enc _)], show (pre ++ [(3 : UInt8)]).length = pre.length + 1 by simp] at G
    have T := text2r hb3 hl hs G
    rw [show (pre ++ ([3] : List UInt8) ++ enc (List.length v.s)).length + List.length v.s = (pre ++ encV v).length by rw [he]; simp; omega] at T
    refine .succ (fun k => value_Get_2_eq k true pre.length b) (.bind B (.no rfl (.no rfl (.no rfl (.no rfl (.yes rfl (.bind T (.no rfl (.bind (val_text hs) ?_)))))))))
    rw [val_eta v h3 hn rfl]
    exact .const
end Go.Ev.HpVB
