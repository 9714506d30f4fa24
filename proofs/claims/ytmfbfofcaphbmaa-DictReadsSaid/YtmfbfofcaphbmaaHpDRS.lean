/-
  DictReads, the plain law: numbers read, whatever the bytes.
-/
import Derived.Test.YtmfbfofcaphbmaaHpDRP
import Derived.Test.YtmfbfofcaphbmaaHpDict
set_option linter.unusedVariables false
namespace Go.Ev.HpDR
theorem may_no {c t : Nat} (h : (0 < t ∧ c = 0) ∨ (t = 9 ∧ 1 < c)) : Ans (fun k => vint_may k (c : Int) (t : Int)) (false, ()) := by
  by_cases h0 : 0 < t ∧ c = 0
  · obtain ⟨ht, hc⟩ := h0
    subst hc
    exact .succ (fun k => vint_may_eq k _ t) (.yes (by simp; omega) (.of (fun k => vint_may_j0_eq k _ t _) (.yes rfl .const)))
  · obtain ⟨ht, hc⟩ : t = 9 ∧ 1 < c := by rcases h with h | h; exact absurd h h0; exact h
    subst ht
    refine .succ (fun k => vint_may_eq k c _) (.yes rfl ?_)
    have e : (((c : Nat) : Int) == 0) = false := by simp; omega
    rw [e]
    exact .of (fun k => vint_may_j0_eq k c _ false) (.no rfl (.yes rfl (.yes (decide_eq_true (by omega)) .const)))
theorem rchain {R : Type} {F : Nat → Nat → Bool → Option R} {c t : Nat} {res : R} (v : Bool) (hv : v = true ↔ (0 < t ∧ c = 0) ∨ (t = 9 ∧ 1 < c)) (L : Ans2 (fun k n => F k n v) res) :
    Ans2 (fun k n => bif (((t : Nat) : Int) == 9) == true then (bif decide (((c : Nat) : Int) > 1) == false then (bif decide (((t : Nat) : Int) > 0) == true then F k n (((c : Nat) : Int) == 0) else F k n false) else F k n true) else (bif decide (((t : Nat) : Int) > 0) == true then F k n (((c : Nat) : Int) == 0) else F k n false)) res := by
  by_cases h9 : t = 9
  · subst h9
    refine .yes rfl ?_
    by_cases hc : 1 < c
    · have : v = true := hv.2 (.inr ⟨rfl, hc⟩)
      subst this
      exact .no (by simp; omega) L
    · refine .yes (by simp; omega) (.yes rfl ?_)
      have e : (((c : Nat) : Int) == 0) = v := by
        by_cases h0 : c = 0
        · have : v = true := hv.2 (.inl ⟨by omega, h0⟩)
          rw [this, h0]; rfl
        · have : v = false := by cases v with | false => rfl | true => have := hv.1 rfl; omega
          rw [this]; simp; omega
      rw [e]; exact L
  · refine .no (by simp; omega) ?_
    by_cases ht : 0 < t
    · refine .yes (by simp; omega) ?_
      have e : (((c : Nat) : Int) == 0) = v := by
        by_cases h0 : c = 0
        · have : v = true := hv.2 (.inl ⟨ht, h0⟩)
          rw [this, h0]; rfl
        · have : v = false := by cases v with | false => rfl | true => have := hv.1 rfl; omega
          rw [this]; simp; omega
      rw [e]; exact L
    · have : v = false := by cases v with | false => rfl | true => have := hv.1 rfl; omega
      subst this
      exact .no (by simp; omega) L
def Num (b : List UInt8) (n e err : Int) : Prop := err ≠ 0 ∨ (err = 0 ∧ ∃ m E : Nat, n = (m : Int) ∧ e = (E : Int) ∧ m < 18446744073709551616 ∧ E ≤ b.length)
theorem get_step (b : List UInt8) (P : Nat) (hbl : b.length ≤ 140737488355328) (t a : Nat) (ht : t ≤ 9) (ha : a < 2 ^ (7 * t)) (hlt : P + t < b.length)
    (ih : t < 9 → P + t + 1 < b.length → ∀ a' : Nat, a' < 2 ^ (7 * (t + 1)) → ∃ n e err : Int, Num b n e err ∧ Ans2 (fun k m => vint_Get_l0 k m b (P : Int) P (a' : Int) ((t + 1 : Nat) : Int)) (n, e, err, ()) ∧ Ans2 (fun k m => ref01_Get_l0 k m b (P : Int) (a' : Int) ((t + 1 : Nat) : Int)) (n, e, err, ())) :
    ∃ n e err : Int, Num b n e err ∧ Ans2 (fun k m => vint_Get_l0 k m b (P : Int) P (a : Int) (t : Int)) (n, e, err, ()) ∧ Ans2 (fun k m => ref01_Get_l0 k m b (P : Int) (a : Int) (t : Int)) (n, e, err, ()) := by
  obtain ⟨x, hx⟩ : ∃ x, b[P + t]? = some x := ⟨b[P + t], by simp [hlt]⟩
  have hlt1 : decide ((t : Int) < ((List.length (List.drop P (List.take (List.length b) b)) : Nat) : Int)) = true := by
    rw [List.take_length, List.length_drop]; exact decide_eq_true (by omega)
  have hidx : idx (List.drop P (List.take (List.length b) b)) (t : Int) = some x := by
    unfold idx
    rw [List.take_length, decide_eq_true (by omega), cond_true, Int.toNat_natCast, List.getElem?_drop, hx]
  have e0 : IntKind.i64.wrap ((P : Int) + (t : Int)) = ((P + t : Nat) : Int) := by rw [wrap_id (by omega) (by omega)]; omega
  have hidx2 : idx b ((P + t : Nat) : Int) = some x := by
    unfold idx
    rw [decide_eq_true (by omega), cond_true, Int.toNat_natCast, hx]
  have h7 : decide (IntKind.i64.wrap (7 * (t : Int)) < 0) = false := by
    rw [wrap_id (by omega) (by omega)]; exact decide_eq_false (by omega)
  have hx8 := UInt8.toNat_lt x
  have h10 : decide (((t : Nat) : Int) ≤ 10) = true := decide_eq_true (by omega)
  have hge : decide (((P + t : Nat) : Int) ≥ ((List.length b : Nat) : Int)) = false := decide_eq_false (by omega)
  have V : ∀ {r : Int × Int × Int × Unit}, Ans2 (fun k m => (vint_may k (x.toNat : Int) (t : Int)).bind fun r => (bif (!r.1) then some (0, ((P + t : Nat) : Int), 4, ()) else (bif decide ((IntKind.i64.wrap (7 * (t : Int))) < 0) then none else (bif ((IntKind.u8.wrap (((BitVec.ofInt (IntKind.u8).bits (x.toNat : Int) &&& BitVec.ofInt (IntKind.u8).bits 128).toNat : Int))) == 0) then vint_Get_j2 k b P (IntKind.u64.wrap (((BitVec.ofInt (IntKind.u64).bits (a : Int) ||| BitVec.ofInt (IntKind.u64).bits (IntKind.u64.wrap ((IntKind.u64.wrap (IntKind.u8.wrap (((BitVec.ofInt (IntKind.u8).bits (x.toNat : Int) &&& BitVec.ofInt (IntKind.u8).bits 127).toNat : Int)))) * (2 ^ (min (Int.toNat (IntKind.i64.wrap (7 * (t : Int)))) (IntKind.u64).bits))))).toNat : Int))) (IntKind.i64.wrap (((P + t : Nat) : Int) + 1)) else (bif ((IntKind.i64.wrap (((P + t : Nat) : Int) + 1)) == ((List.length b : Nat) : Int)) then some (0, ((List.length b : Nat) : Int), 3, ()) else vint_Get_l0 k m b P P (IntKind.u64.wrap (((BitVec.ofInt (IntKind.u64).bits (a : Int) ||| BitVec.ofInt (IntKind.u64).bits (IntKind.u64.wrap ((IntKind.u64.wrap (IntKind.u8.wrap (((BitVec.ofInt (IntKind.u8).bits (x.toNat : Int) &&& BitVec.ofInt (IntKind.u8).bits 127).toNat : Int)))) * (2 ^ (min (Int.toNat (IntKind.i64.wrap (7 * (t : Int)))) (IntKind.u64).bits))))).toNat : Int))) (IntKind.i64.wrap ((t : Int) + 1))))))) r →
      Ans2 (fun k m => vint_Get_l0 k m b (P : Int) P (a : Int) (t : Int)) r := fun L => .succ (fun k m => by rw [vint_Get_l0_eq, hlt1, cond_true, hidx, Option.bind_some, e0]) L
  have W : ∀ (v : Bool) {r : Int × Int × Int × Unit}, (v = true ↔ (0 < t ∧ x.toNat = 0) ∨ (t = 9 ∧ 1 < x.toNat)) → Ans2 (fun k m => ref01_Get_j2 k m b (P : Int) x (a : Int) (t : Int) v) r → Ans2 (fun k m => ref01_Get_l0 k m b (P : Int) (a : Int) (t : Int)) r := fun v r hv L =>
    .succ (fun k m => by rw [ref01_Get_l0_eq, e0, h10, cond_true, hge, cond_false, hidx2, Option.bind_some]) (rchain (F := fun k m v => ref01_Get_j2 k m b (P : Int) x (a : Int) (t : Int) v) v hv L)
  by_cases hbad : (0 < t ∧ x.toNat = 0) ∨ (t = 9 ∧ 1 < x.toNat)
  · refine ⟨0, ((P + t : Nat) : Int), 4, .inl (by omega), V (.bind (may_no hbad) (.yes rfl .const)), W true (by simp [hbad]) (.of (fun k m => by rw [ref01_Get_j2_eq, e0]) (.yes rfl .const))⟩
  · have hm0 : 0 < t → x.toNat ≠ 0 := fun h1 h2 => hbad (.inl ⟨h1, h2⟩)
    have hm9 : t = 9 → x.toNat ≤ 1 := fun h1 => by
      have := fun h2 => hbad (.inr ⟨h1, h2⟩)
      omega
    have M := may_ok hm0 hm9
    have W' : ∀ {r : Int × Int × Int × Unit}, Ans2 (fun k m => bif decide ((x.toNat : Int) < 128) then some ((IntKind.u64.wrap (((BitVec.ofInt (IntKind.u64).bits (a : Int) ||| BitVec.ofInt (IntKind.u64).bits (IntKind.u64.wrap ((IntKind.u64.wrap ((x.toNat % 128 : Nat) : Int)) * (2 ^ (min (Int.toNat (IntKind.i64.wrap (7 * (t : Int)))) (IntKind.u64).bits))))).toNat : Int))), (IntKind.i64.wrap (((P + t : Nat) : Int) + 1)), 0, ()) else ref01_Get_l0 k m b (P : Int) (IntKind.u64.wrap (((BitVec.ofInt (IntKind.u64).bits (a : Int) ||| BitVec.ofInt (IntKind.u64).bits (IntKind.u64.wrap ((IntKind.u64.wrap ((x.toNat % 128 : Nat) : Int)) * (2 ^ (min (Int.toNat (IntKind.i64.wrap (7 * (t : Int)))) (IntKind.u64).bits))))).toNat : Int))) (IntKind.i64.wrap ((t : Int) + 1))) r → Ans2 (fun k m => ref01_Get_l0 k m b (P : Int) (a : Int) (t : Int)) r := fun L =>
      W false (by simp only [Bool.false_eq_true, false_iff]; exact hbad) (.of (fun k m => ref01_Get_j2_eq k m b P x a t false) (.no rfl (.of (fun k m => by rw [ref01_Get_j3_eq, e0, tmod7]) (.no h7 L))))
    have hE : IntKind.i64.wrap (((P + t : Nat) : Int) + 1) = ((P + t + 1 : Nat) : Int) := wrap_succ (m := 140737488355330) (by omega) (by omega)
    have hpow : a + x.toNat % 128 * 2 ^ (7 * t) < 18446744073709551616 := by
      by_cases h9 : t = 9
      · have := hm9 h9
        have h1 := ha
        subst h9
        have e : 2 ^ (7 * 9) = 9223372036854775808 := by decide
        rw [e] at h1 ⊢; omega
      · have h2 : 2 ^ (7 * t) ≤ 2 ^ (7 * 8) := Nat.pow_le_pow_right (by omega) (by omega)
        have e : 2 ^ (7 * 8) = 72057594037927936 := by decide
        have h3 : x.toNat % 128 * 2 ^ (7 * t) ≤ 127 * 2 ^ (7 * t) := Nat.mul_le_mul_right _ (by omega)
        rw [e] at h2; omega
    by_cases hc : x.toNat < 128
    · refine ⟨((a + x.toNat % 128 * 2 ^ (7 * t) : Nat) : Int), ((P + t + 1 : Nat) : Int), 0, .inr ⟨rfl, _, _, rfl, rfl, hpow, by omega⟩, V (.bind M (.no rfl (.no h7 (.yes ?_ ?_)))), W' (.yes (decide_eq_true (by omega)) ?_)⟩
      · rw [top8 (by omega), if_pos hc]; rfl
      · rw [low8 (by omega), orIn ha (by omega) ht hpow, hE]
        exact .of (fun k n => vint_Get_j2_eq k b P _ _) (.no (by simp; omega) .const)
      · rw [orIn ha (by omega) ht hpow, hE]
        exact .const
    · have h9 : t < 9 := by
        have : t ≠ 9 := fun e => by have := hm9 e; omega
        omega
      have htop : ((IntKind.u8.wrap (((BitVec.ofInt (IntKind.u8).bits ((x.toNat : Nat) : Int) &&& BitVec.ofInt (IntKind.u8).bits 128).toNat : Int))) == 0) = false := by
        rw [top8 (by omega), if_neg hc]; rfl
      have ha' : a + x.toNat % 128 * 2 ^ (7 * t) < 2 ^ (7 * (t + 1)) := by
        have hp : 2 ^ (7 * (t + 1)) = 128 * 2 ^ (7 * t) := by rw [Nat.mul_add, Nat.pow_add, Nat.mul_comm]
        have h1 : x.toNat % 128 * 2 ^ (7 * t) ≤ 127 * 2 ^ (7 * t) := Nat.mul_le_mul_right _ (by omega)
        rw [hp]; omega
      have et : IntKind.i64.wrap ((t : Int) + 1) = ((t + 1 : Nat) : Int) := wrap_succ (m := 10) (by omega) (by omega)
      by_cases hend : P + t + 1 = b.length
      · refine ⟨0, ((List.length b : Nat) : Int), 3, .inl (by omega), V (.bind M (.no rfl (.no h7 (.no htop (.yes ?_ .const))))), W' (.no (decide_eq_false (by omega)) ?_)⟩
        · rw [hE, hend]; simp
        · rw [et]
          have e1 : IntKind.i64.wrap ((P : Int) + ((t + 1 : Nat) : Int)) = ((P + t + 1 : Nat) : Int) := by rw [wrap_id (by omega) (by omega)]; omega
          refine .succ (fun k m => by rw [ref01_Get_l0_eq, e1]) (.yes (decide_eq_true (by omega)) (.yes (decide_eq_true (by omega)) .const))
      · obtain ⟨n, e, err, hN, hV, hW⟩ := ih h9 (by omega) _ ha'
        refine ⟨n, e, err, hN, V (.bind M (.no rfl (.no h7 (.no htop (.no ?_ ?_))))), W' (.no (decide_eq_false (by omega)) ?_)⟩
        · rw [hE]; simp; omega
        · rw [low8 (by omega), orIn ha (by omega) ht hpow, et]; exact hV
        · rw [orIn ha (by omega) ht hpow, et]; exact hW
theorem both_loop (b : List UInt8) (P : Nat) (hbl : b.length ≤ 140737488355328) : ∀ (d t a : Nat), t + d = 9 → a < 2 ^ (7 * t) → P + t < b.length →
    ∃ n e err : Int, Num b n e err ∧ Ans2 (fun k m => vint_Get_l0 k m b (P : Int) P (a : Int) (t : Int)) (n, e, err, ()) ∧ Ans2 (fun k m => ref01_Get_l0 k m b (P : Int) (a : Int) (t : Int)) (n, e, err, ()) := by
  intro d
  induction d with
  | zero => exact fun t a ht ha hlt => get_step b P hbl t a (by omega) ha hlt fun h => by omega
  | succ d ih => exact fun t a ht ha hlt => get_step b P hbl t a (by omega) ha hlt fun h h1 a' ha' => ih (t + 1) a' (by omega) ha' (by omega)
theorem get_both (b : List UInt8) (P : Nat) (hbl : b.length ≤ 140737488355328) (hP : P ≤ b.length) :
    ∃ n e err : Int, Num b n e err ∧ Ans (fun k => vint_Get k b (P : Int)) (n, e, err, ()) ∧ Ans (fun k => ref01_Get k b (P : Int)) (n, e, err, ()) := by
  have J : ∀ {r : Int × Int × Int × Unit}, Ans2 (fun k m => vint_Get_l0 k m b (P : Int) P 0 0) r → Ans (fun k => vint_Get k b (P : Int)) r := by
    intro r L
    have J1 : Ans (fun k => vint_Get_j1 k b (P : Int)) r := .of (fun k => vint_Get_j1_eq k b P) (.bind (a := P) (.of (fun k => bnd_le hP) .const) L.diag)
    refine .succ (fun k => vint_Get_eq k b P) (.yes (by simp) ?_)
    rw [decide_eq_false (by omega)]
    exact .of (fun k => vint_Get_j0_eq k b P false) (.no rfl J1)
  have K : ∀ {r : Int × Int × Int × Unit}, Ans2 (fun k m => ref01_Get_l0 k m b (P : Int) 0 0) r → Ans (fun k => ref01_Get k b (P : Int)) r := by
    intro r L
    have J1 : Ans (fun k => ref01_Get_j1 k b (P : Int)) r := .of (fun k => ref01_Get_j1_eq k b P) L.diag
    refine .succ (fun k => ref01_Get_eq k b P) (.yes (by simp) ?_)
    rw [decide_eq_false (by omega)]
    exact .of (fun k => ref01_Get_j0_eq k b P false) (.no rfl J1)
  by_cases hlt : P < b.length
  · obtain ⟨n, e, err, hN, hV, hW⟩ := both_loop b P hbl 9 0 0 rfl (by simp) (by omega)
    exact ⟨n, e, err, hN, J hV, K hW⟩
  · have e : P = b.length := by omega
    refine ⟨0, ((List.length b : Nat) : Int), 3, .inl (by omega), J ?_, K ?_⟩
    · refine .succ (g := fun k n => vint_Get_j2 k b (P : Int) 0 ((List.length b : Nat) : Int)) (fun k n => ?_) (.of (fun k n => vint_Get_j2_eq k b P _ _) (.yes (by simp; omega) .const))
      rw [vint_Get_l0_eq, decide_eq_false (by rw [List.take_length, List.length_drop]; omega), cond_false]
    · have e1 : IntKind.i64.wrap ((P : Int) + 0) = ((P : Nat) : Int) := by rw [wrap_id (by omega) (by omega)]; omega
      have h10 : decide ((0 : Int) ≤ 10) = true := rfl
      have hge : decide ((P : Int) ≥ ((List.length b : Nat) : Int)) = true := decide_eq_true (by omega)
      exact .succ (g := fun _ _ => some (0, ((List.length b : Nat) : Int), 3, ())) (fun k n => by rw [ref01_Get_l0_eq, e1, h10, cond_true, hge, cond_true]) .const
theorem take1f {b : List UInt8} {P most n e err : Int} (hG : Ans (fun k => vint_Get k b P) (n, e, err, ())) (he : err ≠ 0) : Ans (fun k => wire_Reader_take k most true P b) (Sum.inr (true, P, b, 0, 0, err, ())) :=
  .succ (fun k => wire_Reader_take_eq k most true P b) (.bind (rnone2 P b) (.of (fun k => wire_Reader_take_j0_eq k most true P b _) (.no rfl (.of (fun k => wire_Reader_take_j1_eq k most true P b _) (.bind hG (.yes (by show (err != 0) = true; simp [he]) .const))))))
theorem take1g {b : List UInt8} {P most m e : Int} (hG : Ans (fun k => vint_Get k b P) (m, e, 0, ())) (hm : most < m) : Ans (fun k => wire_Reader_take k most true P b) (Sum.inr (true, P, b, 0, 0, 4, ())) :=
  .succ (fun k => wire_Reader_take_eq k most true P b) (.bind (rnone2 P b) (.of (fun k => wire_Reader_take_j0_eq k most true P b _) (.no rfl (.of (fun k => wire_Reader_take_j1_eq k most true P b _) (.bind hG (.no rfl (.yes (decide_eq_true (by show m > most; omega)) .const)))))))
theorem take2f {b : List UInt8} {P most n e err : Int} (hG : Ans (fun k => vint_Get k b P) (n, e, err, ())) (he : err ≠ 0) : Ans (fun k => wire_Reader_take_2 k most true P b) (true, P, b, 0, 0, err, ()) :=
  .succ (fun k => wire_Reader_take_2_eq k most true P b) (.bind (rnone3 P b) (.of (fun k => wire_Reader_take_2_j0_eq k most true P b _) (.no rfl (.of (fun k => wire_Reader_take_2_j1_eq k most true P b _) (.bind hG (.yes (by show (err != 0) = true; simp [he]) .const))))))
theorem take2g {b : List UInt8} {P most m e : Int} (hG : Ans (fun k => vint_Get k b P) (m, e, 0, ())) (hm : most < m) : Ans (fun k => wire_Reader_take_2 k most true P b) (true, P, b, 0, 0, 4, ()) :=
  .succ (fun k => wire_Reader_take_2_eq k most true P b) (.bind (rnone3 P b) (.of (fun k => wire_Reader_take_2_j0_eq k most true P b _) (.no rfl (.of (fun k => wire_Reader_take_2_j1_eq k most true P b _) (.bind hG (.no rfl (.yes (decide_eq_true (by show m > most; omega)) .const)))))))
theorem ne_ {e : Int} (h : e ≠ 0) : (e != 0) = true := by simpa using h
theorem u256 : IntKind.u64.wrap (if 0 > (256 : Int) then 0 else 256) = 256 := rfl
theorem both_text (b : List UInt8) (P : Nat) (hl : b.length ≤ 140737488355328) (hP : P ≤ b.length) :
    ∃ (p : Nat) (s : Bytes) (e : Int), p ≤ b.length ∧ List.length s ≤ 256 ∧ Ans (fun k => wire_Reader_Text k 256 true (P : Int) b) (Sum.inr (true, (p : Int), b, s, e, ())) ∧ Ans (fun k => wire_Reader_Text_2 k 256 true (P : Int) b) (true, (p : Int), b, s, e, ()) ∧ Ans (fun k => ref02_Reader_Text k 256 b (P : Int)) (b, (p : Int), s, e, ()) := by
  obtain ⟨n, E, err, hN, hV, hW⟩ := get_both b P hl hP
  have h0 : (decide ((256 : Int) < 0) == false) = true := rfl
  rcases hN with he | ⟨he, m, F, hn, hE, hm, hF⟩
  · exact ⟨P, [], err, hP, by simp, .succ (fun k => wire_Reader_Text_eq k 256 true _ _) (.elimR (take1f hV he) (.yes (ne_ he) .const)), .succ (fun k => wire_Reader_Text_2_eq k 256 true _ _) (.bind (take2f hV he) (.yes (ne_ he) .const)), .succ (fun k => ref02_Reader_Text_eq k 256 _ _) (.bind hW (.yes (ne_ he) .const))⟩
  · subst he hn hE
    by_cases h256 : m ≤ 256
    · have hi : ((m : Nat) : Int) ≤ IntKind.u64.wrap (if 0 > (256 : Int) then 0 else 256) := by rw [u256]; omega
      have hr : decide (((m : Nat) : Int) > IntKind.u64.wrap 256) = false := decide_eq_false (by rw [show IntKind.u64.wrap 256 = 256 from rfl]; omega)
      have e2 : IntKind.u64.wrap (IntKind.i64.wrap (((List.length b : Nat) : Int) - ((F : Nat) : Int))) = ((b.length - F : Nat) : Int) := by
        rw [wrap_id (by omega) (by omega), show ((List.length b : Nat) : Int) - ((F : Nat) : Int) = ((b.length - F : Nat) : Int) by omega, u64_id (by omega)]
      by_cases hfit : m ≤ b.length - F
      · have hd : decide (((m : Nat) : Int) > IntKind.u64.wrap (IntKind.i64.wrap (((List.length b : Nat) : Int) - ((F : Nat) : Int)))) = false := decide_eq_false (by rw [e2]; omega)
        have e1 : IntKind.i64.wrap (((F : Nat) : Int) + (IntKind.i64.wrap ((m : Nat) : Int))) = ((F + m : Nat) : Int) := by
          rw [wrap_id (n := ((m : Nat) : Int)) (by omega) (by omega), wrap_id (by omega) (by omega)]; omega
        have b1 : bnd (.int .i64 (IntKind.i64.wrap (((F : Nat) : Int) + (IntKind.i64.wrap ((m : Nat) : Int))))) b.length = some (F + m) := by rw [e1]; exact bnd_le (by omega)
        have b2 : bnd (.int .i64 ((F : Nat) : Int)) (F + m) = some F := bnd_le (by omega)
        refine ⟨F + m, List.drop F (List.take (F + m) b), 0, by omega, by simp; omega, .succ (fun k => wire_Reader_Text_eq k 256 true P b) (.elimR (take1 hV hi) (.no rfl (.no rfl (.bind (rlen2 _ b) (.no hd ?_))))), .succ (fun k => wire_Reader_Text_2_eq k 256 true P b) (.bind (take2 hV hi) (.no rfl (.no rfl (.bind (rlen2 _ b) (.no hd ?_))))), .succ (fun k => ref02_Reader_Text_eq k 256 b P) (.bind hW (.no rfl (.yes h0 (.no hr (.of (fun k => ref02_Reader_Text_j0_eq k 256 b P _) (.no hd ?_))))))⟩
        · refine .bind (a := F + m) (.of (fun k => b1) .const) (.bind (a := F) (.of (fun k => b2) .const) (.bind (a := F + m) (.of (fun k => b1) .const) (.yes (by simp) ?_)))
          show Ans (fun k => some (Sum.inr (true, IntKind.i64.wrap (((F : Nat) : Int) + (IntKind.i64.wrap ((m : Nat) : Int))), b, List.drop F (List.take (F + m) b), 0, ()))) _
          rw [e1]; exact .const
        · refine .bind (a := F + m) (.of (fun k => b1) .const) (.bind (a := F) (.of (fun k => b2) .const) (.bind (a := F + m) (.of (fun k => b1) .const) (.yes (by simp) ?_)))
          show Ans (fun k => some (true, IntKind.i64.wrap (((F : Nat) : Int) + (IntKind.i64.wrap ((m : Nat) : Int))), b, List.drop F (List.take (F + m) b), 0, ())) _
          rw [e1]; exact .const
        · refine .bind (a := F + m) (.of (fun k => b1) .const) (.bind (a := F) (.of (fun k => b2) .const) ?_)
          show Ans (fun k => some (b, IntKind.i64.wrap (((F : Nat) : Int) + (IntKind.i64.wrap ((m : Nat) : Int))), List.drop F (List.take (F + m) b), 0, ())) _
          rw [e1]; exact .const
      · have hd : decide (((m : Nat) : Int) > IntKind.u64.wrap (IntKind.i64.wrap (((List.length b : Nat) : Int) - ((F : Nat) : Int)))) = true := decide_eq_true (by rw [e2]; omega)
        exact ⟨P, [], 3, hP, by simp, .succ (fun k => wire_Reader_Text_eq k 256 true P b) (.elimR (take1 hV hi) (.no rfl (.no rfl (.bind (rlen2 _ b) (.yes hd .const))))), .succ (fun k => wire_Reader_Text_2_eq k 256 true P b) (.bind (take2 hV hi) (.no rfl (.no rfl (.bind (rlen2 _ b) (.yes hd .const))))), .succ (fun k => ref02_Reader_Text_eq k 256 b P) (.bind hW (.no rfl (.yes h0 (.no hr (.of (fun k => ref02_Reader_Text_j0_eq k 256 b P _) (.yes hd .const))))))⟩
    · have hi : IntKind.u64.wrap (if 0 > (256 : Int) then 0 else 256) < ((m : Nat) : Int) := by rw [u256]; omega
      have hr : decide (((m : Nat) : Int) > IntKind.u64.wrap 256) = true := decide_eq_true (by rw [show IntKind.u64.wrap 256 = 256 from rfl]; omega)
      exact ⟨P, [], 4, hP, by simp, .succ (fun k => wire_Reader_Text_eq k 256 true P b) (.elimR (take1g hV hi) (.yes rfl .const)), .succ (fun k => wire_Reader_Text_2_eq k 256 true P b) (.bind (take2g hV hi) (.yes rfl .const)), .succ (fun k => ref02_Reader_Text_eq k 256 b P) (.bind hW (.no rfl (.yes h0 (.yes hr .const))))⟩
end Go.Ev.HpDR
