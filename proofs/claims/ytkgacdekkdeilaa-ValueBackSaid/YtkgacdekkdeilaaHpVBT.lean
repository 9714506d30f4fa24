/-
  ValueBack, the plain law: whatever the bytes.
-/
import Derived.Test.YtkgacdekkdeilaaHpVBS
set_option linter.unusedVariables false
namespace Go.Ev.HpVB
theorem take1f {b : List UInt8} {P most n e err : Int} (hG : Ans (fun k => vint_Get k b P) (n, e, err, ())) (he : err ≠ 0) : Ans (fun k => wire_Reader_take k most true P b) (Sum.inr (true, P, b, 0, 0, err, ())) :=
  .succ (fun k => wire_Reader_take_eq k most true P b) (.bind (rnone2 P b) (.of (fun k => wire_Reader_take_j0_eq k most true P b _) (.no rfl (.of (fun k => wire_Reader_take_j1_eq k most true P b _) (.bind hG (.yes (by show (err != 0) = true; simp [he]) .const))))))
theorem take1g {b : List UInt8} {P most m e : Int} (hG : Ans (fun k => vint_Get k b P) (m, e, 0, ())) (hm : most < m) : Ans (fun k => wire_Reader_take k most true P b) (Sum.inr (true, P, b, 0, 0, 4, ())) :=
  .succ (fun k => wire_Reader_take_eq k most true P b) (.bind (rnone2 P b) (.of (fun k => wire_Reader_take_j0_eq k most true P b _) (.no rfl (.of (fun k => wire_Reader_take_j1_eq k most true P b _) (.bind hG (.no rfl (.yes (decide_eq_true (by show m > most; omega)) .const)))))))
theorem turn_back {m : Nat} (hm : m < 18446744073709551616) : ∃ y : Int, (-9223372036854775808 ≤ y ∧ y < 9223372036854775808) ∧ turn y = m := by
  by_cases h : m % 2 = 0
  · refine ⟨((m / 2 : Nat) : Int), by omega, ?_⟩
    unfold turn; rw [if_neg (by omega)]; omega
  · refine ⟨-((m / 2 : Nat) : Int) - 1, by omega, ?_⟩
    unfold turn; rw [if_pos (by omega)]; omega
/-- How any bytes' value is told. -/
def Told (b : List UInt8) (p : Int) (v : Val) (e : Int) : Prop := (e ≠ 0 ∧ v = ⟨0, 0, []⟩) ∨ (e = 0 ∧ RightP v ∧ InV v ∧ ∃ post, b = encV v ++ post ∧ p = ((encV v).length : Int))
theorem vany (b : List UInt8) (hl : b.length ≤ 140737488355328) : ∃ (p : Int) (v : Val) (e : Int), (Ans (fun k => value_Get k true 0 b) (Sum.inl (true, p, b, v, e, ())) ∨ Ans (fun k => value_Get k true 0 b) (Sum.inr (true, p, b, v, e, ()))) ∧ Told b p v e := by
  cases b with
  | nil =>
    have B := rbyte1e []
    exact ⟨0, ⟨0, 0, []⟩, 3, .inl (.succ (fun k => value_Get_eq k true 0 []) (.bind B (.yes rfl (.bind null_ .const)))), .inl ⟨by omega, rfl⟩⟩
  | cons c rest =>
    have B := rbyte1 (b := c :: rest) (pre := []) (c := c) (post := rest) rfl hl
    rw [show (([] : List UInt8).length + 1 : Nat) = 1 from rfl] at B
    have hc8 := UInt8.toNat_lt c
    by_cases h0 : c.toNat = 0
    · have hc : c = 0 := UInt8.toNat_inj.1 h0
      refine ⟨1, ⟨0, 0, []⟩, 0, .inl (.succ (fun k => value_Get_eq k true 0 (c :: rest)) (.bind B (.no rfl (.yes (by rw [h0]; rfl) (.bind null_ .const))))), .inr ⟨rfl, .inl ⟨rfl, rfl, rfl⟩, by simp [InV], rest, ?_⟩⟩
      subst hc; exact ⟨rfl, rfl⟩
    · have n0 : (((c.toNat : Nat) : Int) == 0) = false := by simp; omega
      by_cases h1 : c.toNat = 1
      · have hc : c = 1 := UInt8.toNat_inj.1 h1
        have n1 : (((c.toNat : Nat) : Int) == 1) = true := by rw [h1]; rfl
        cases rest with
        | nil =>
          have B2 := rbyte1e [c]
          refine ⟨1, ⟨0, 0, []⟩, 3, .inl (.succ (fun k => value_Get_eq k true 0 [c]) (.bind B (.no rfl (.no n0 (.yes n1 (.bind (.succ (fun k => value_readBool_eq k true _ [c]) (.bind B2 (.yes rfl (.bind null_ .const)))) .const)))))), .inl ⟨by omega, rfl⟩⟩
        | cons d rest =>
          have B2 := rbyte1 (b := c :: d :: rest) (pre := [c]) (c := d) (post := rest) rfl hl
          rw [show (([c] : List UInt8).length + 1 : Nat) = 2 from rfl] at B2
          by_cases hd : d.toNat ≤ 1
          · refine ⟨2, ⟨1, if (((d.toNat : Nat) : Int) == 1) = true then 1 else 0, []⟩, 0, .inl (.succ (fun k => value_Get_eq k true 0 (c :: d :: rest)) (.bind B (.no rfl (.no n0 (.yes n1 (.bind (.succ (fun k => value_readBool_eq k true _ (c :: d :: rest)) (.bind B2 (.no rfl (.no (decide_eq_false (by show ¬ ((d.toNat : Nat) : Int) > 1; omega)) (.bind (bool_ _) .const))))) .const)))))), .inr ⟨rfl, .inr (.inl ⟨rfl, rfl, ?_⟩), ?_, rest, ?_⟩⟩
            · show (if (((d.toNat : Nat) : Int) == 1) = true then (1 : Int) else 0) = 0 ∨ _
              split
              · exact .inr rfl
              · exact .inl rfl
            · show -9223372036854775808 ≤ (if (((d.toNat : Nat) : Int) == 1) = true then (1 : Int) else 0) ∧ (if (((d.toNat : Nat) : Int) == 1) = true then (1 : Int) else 0) < 9223372036854775808
              split <;> omega
            · have hdd : d = 0 ∨ d = 1 := by
                rcases (show d.toNat = 0 ∨ d.toNat = 1 by omega) with h | h
                · exact .inl (UInt8.toNat_inj.1 h)
                · exact .inr (UInt8.toNat_inj.1 h)
              subst hc
              rcases hdd with rfl | rfl <;> exact ⟨rfl, rfl⟩
          · exact ⟨2, ⟨0, 0, []⟩, 4, .inl (.succ (fun k => value_Get_eq k true 0 (c :: d :: rest)) (.bind B (.no rfl (.no n0 (.yes n1 (.bind (.succ (fun k => value_readBool_eq k true _ (c :: d :: rest)) (.bind B2 (.no rfl (.yes (decide_eq_true (by show ((d.toNat : Nat) : Int) > 1; omega)) (.bind null_ .const))))) .const)))))), .inl ⟨by omega, rfl⟩⟩
      · have n1 : (((c.toNat : Nat) : Int) == 1) = false := by simp; omega
        by_cases h2 : c.toNat = 2
        · have hc : c = 2 := UInt8.toNat_inj.1 h2
          have n2 : (((c.toNat : Nat) : Int) == 2) = true := by rw [h2]; rfl
          obtain ⟨⟨n, e, err, u⟩, hG, hF⟩ := get_any (c :: rest) 1 hl (by simp)
          rcases hF with hF | ⟨m, post, hm, hd, hr⟩
          · have I : Ans (fun k => wire_Reader_Int k true ((1 : Nat) : Int) (c :: rest)) (Sum.inr (true, ((1 : Nat) : Int), c :: rest, 0, err, ())) :=
              .succ (fun k => wire_Reader_Int_eq k true _ _) (.elimR (take1f hG hF) (.yes (by show (err != 0) = true; simpa using hF) .const))
            exact ⟨((1 : Nat) : Int), ⟨0, 0, []⟩, err, .inr (.succ (fun k => value_Get_eq k true 0 (c :: rest)) (.bind B (.no rfl (.no n0 (.no n1 (.yes n2 (.elimR I (.yes (by show (err != 0) = true; simpa using hF) (.bind null_ .const))))))))), .inl ⟨hF, rfl⟩⟩
          · obtain ⟨y, hy, hyt⟩ := turn_back hm
            rw [hr, ← hyt] at hG
            have I := rint1 hy hG
            refine ⟨_, ⟨2, y, []⟩, 0, .inr (.succ (fun k => value_Get_eq k true 0 (c :: rest)) (.bind B (.no rfl (.no n0 (.no n1 (.yes n2 (.elimR I (.no rfl (.bind (val_int y) .const))))))))), .inr ⟨rfl, .inr (.inr (.inl ⟨rfl, rfl⟩)), hy, post, ?_, ?_⟩⟩
            · have : rest = enc m ++ post := by simpa using hd
              rw [this, hc, ← hyt]; simp [encV]
            · simp [encV]; omega
        · have n2 : (((c.toNat : Nat) : Int) == 2) = false := by simp; omega
          by_cases h3 : c.toNat = 3
          · have hc : c = 3 := UInt8.toNat_inj.1 h3
            have n3 : (((c.toNat : Nat) : Int) == 3) = true := by rw [h3]; rfl
            have bad : ∀ err : Int, err ≠ 0 → Ans (fun k => wire_Reader_Text k 256 true ((1 : Nat) : Int) (c :: rest)) (Sum.inr (true, ((1 : Nat) : Int), c :: rest, [], err, ())) → ∃ (p : Int) (v : Val) (e : Int), (Ans (fun k => value_Get k true 0 (c :: rest)) (Sum.inl (true, p, c :: rest, v, e, ())) ∨ Ans (fun k => value_Get k true 0 (c :: rest)) (Sum.inr (true, p, c :: rest, v, e, ()))) ∧ Told (c :: rest) p v e := fun err he I =>
              ⟨((1 : Nat) : Int), ⟨0, 0, []⟩, err, .inr (.succ (fun k => value_Get_eq k true 0 (c :: rest)) (.bind B (.no rfl (.no n0 (.no n1 (.no n2 (.yes n3 (.elimR I (.yes (by show (err != 0) = true; simpa using he) (.bind null_ .const)))))))))), .inl ⟨he, rfl⟩⟩
            obtain ⟨⟨n, e, err, u⟩, hG, hF⟩ := get_any (c :: rest) 1 hl (by simp)
            rcases hF with hF | ⟨m, post, hm, hd, hr⟩
            · exact bad err hF (.succ (fun k => wire_Reader_Text_eq k 256 true _ _) (.elimR (take1f hG hF) (.yes (by show (err != 0) = true; simpa using hF) .const)))
            · rw [hr] at hG
              have hrest : rest = enc m ++ post := by simpa using hd
              by_cases h256 : m ≤ 256
              · by_cases hfit : m ≤ post.length
                · have hpost : post = post.take m ++ post.drop m := (List.take_append_drop m post).symm
                  have hlen : (post.take m).length = m := by simp; omega
                  have hb : c :: rest = ([c] ++ enc m) ++ post.take m ++ post.drop m := by rw [hrest]; conv => lhs; rw [hpost]
                                                                                           simp
                  have hG' : Ans (fun k => vint_Get k (c :: rest) ((1 : Nat) : Int)) (((post.take m).length : Int), (([c] ++ enc m).length : Int), 0, ()) := by
                    rw [hlen, show (([c] ++ enc m).length : Nat) = 1 + (enc m).length by simp; omega]; exact hG
                  have T := text1 hb hl (by omega) hG'
                  have hR : RightP ⟨3, 0, post.take m⟩ := .inr (.inr (.inr ⟨rfl, rfl, by show (post.take m).length ≤ 256; omega⟩))
                  refine ⟨_, ⟨3, 0, post.take m⟩, 0, .inr (.succ (fun k => value_Get_eq k true 0 (c :: rest)) (.bind B (.no rfl (.no n0 (.no n1 (.no n2 (.yes n3 (.elimR T (.no rfl (.bind (val_text (s := post.take m) (by omega)) .const)))))))))), .inr ⟨rfl, hR, by simp [InV], post.drop m, ?_, ?_⟩⟩
                  · have e1 : encV ⟨3, 0, post.take m⟩ = [3] ++ (enc (post.take m).length ++ post.take m) := by simp [encV]
                    rw [e1, hlen, hb, hc]; simp
                  · have e1 : encV ⟨3, 0, post.take m⟩ = [3] ++ (enc (post.take m).length ++ post.take m) := by simp [encV]
                    rw [e1, hlen]; simp; omega
                · have hbl : (c :: rest).length = 1 + (enc m).length + post.length := by rw [hrest]; simp; omega
                  refine bad 3 (by omega) (.succ (fun k => wire_Reader_Text_eq k 256 true _ _) (.elimR (take1 hG (by show ((m : Nat) : Int) ≤ 256; omega)) (.no rfl (.no rfl (.bind (rlen2 _ _) (.yes (decide_eq_true ?_) .const))))))
                  show ((m : Nat) : Int) > IntKind.u64.wrap (IntKind.i64.wrap (((List.length (c :: rest) : Nat) : Int) - ((1 + (enc m).length : Nat) : Int)))
                  rw [wrap_id (by omega) (by omega), show ((List.length (c :: rest) : Nat) : Int) - ((1 + (enc m).length : Nat) : Int) = ((post.length : Nat) : Int) by omega, u64_id (by omega)]
                  omega
              · exact bad 4 (by omega) (.succ (fun k => wire_Reader_Text_eq k 256 true _ _) (.elimR (take1g hG (by show (256 : Int) < ((m : Nat) : Int); omega)) (.yes rfl .const)))
          · have n3 : (((c.toNat : Nat) : Int) == 3) = false := by simp; omega
            exact ⟨1, ⟨0, 0, []⟩, 4, .inl (.succ (fun k => value_Get_eq k true 0 (c :: rest)) (.bind B (.no rfl (.no n0 (.no n1 (.no n2 (.no n3 (.bind null_ .const)))))))), .inl ⟨by omega, rfl⟩⟩
end Go.Ev.HpVB
