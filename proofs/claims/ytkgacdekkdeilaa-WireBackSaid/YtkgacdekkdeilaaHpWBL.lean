/-
  WireBack, the plain law.
-/
import Derived.Test.YtkgacdekkdeilaaHpWBQ
set_option linter.unusedVariables false
set_option linter.unusedSectionVars false
namespace Go.Ev.HpWB
theorem num3r {n : Nat} (hn : n < 18446744073709551616) {b : List UInt8} (hb : b.length ≤ 60000) : Ans (fun k => wire_Writer_Num_2 k (n : Int) true 65536 b) (Sum.inr (true, 65536, b, b ++ enc n, 0, ())) := by
  have h := num3 (M := 65536) (by omega) hn (b := b) (by omega)
  have := enc_ten hn
  rw [wres3, if_pos (by omega)] at h
  exact h
theorem int3r {m : Int} (hm : -9223372036854775808 ≤ m ∧ m < 9223372036854775808) {b : List UInt8} (hb : b.length ≤ 60000) : Ans (fun k => wire_Writer_Int_2 k m true 65536 b) (Sum.inr (true, 65536, b, b ++ enc (turn m), 0, ())) := by
  have h := int3 (M := 65536) (by omega) hm (b := b) (by omega)
  have := enc_ten (turn_lt hm)
  rw [wres3, if_pos (by omega)] at h
  exact h
theorem text3r {s : List UInt8} (hs : s.length ≤ 1000) {b : List UInt8} (hb : b.length ≤ 60000) : Ans (fun k => wire_Writer_Text_2 k s true 65536 b) (Sum.inr (true, 65536, b, b ++ (enc s.length ++ s), 0, ())) := by
  have h := text3 (M := 65536) (by omega) (b := b) (by omega) s (by omega)
  have := enc_ten (n := s.length) (by omega)
  rw [wres3, if_pos (by rw [List.length_append]; omega)] at h
  exact h
theorem byte3r (c : Int) {b : List UInt8} (hb : b.length ≤ 60000) : Ans (fun k => wire_Writer_Byte_2 k c true 65536 b) (Sum.inr (true, 65536, b, b ++ [UInt8.ofNat (Int.toNat c)], 0, ())) := by
  have h := byte3 (M := 65536) (by omega) (b := b) (by omega) c
  rw [wres3, if_pos (by simp; omega)] at h
  exact h
theorem num2r {n : Nat} (hn : n < 18446744073709551616) : Ans (fun k => wire_Writer_Num k (n : Int) true 65536) (Sum.inr (true, 65536, enc n, 0, ())) := by
  have h := num2 (M := 65536) (by omega) hn
  have := enc_ten hn
  rw [wres, if_pos (by omega)] at h
  exact h
def item (n_ i : List Int) (s : List Bytes) (j : Nat) : List UInt8 := enc (n_.getD j 0).toNat ++ enc (turn (i.getD j 0)) ++ (enc (s.getD j []).length ++ s.getD j []) ++ [UInt8.ofNat (Int.toNat (IntKind.u8.wrap (j : Int)))]
def upTo (n_ i : List Int) (s : List Bytes) : Nat → List UInt8
  | 0 => []
  | j + 1 => upTo n_ i s j ++ item n_ i s j
section
variable (n_ i : List Int) (s : List Bytes) (hn : ∀ x ∈ n_, 0 ≤ x ∧ x < 18446744073709551616) (hi : ∀ x ∈ i, -9223372036854775808 ≤ x ∧ x < 9223372036854775808)
include hn hi
theorem item_eq {j : Nat} (h1 : j < n_.length) (h2 : j < i.length) (h3 : j < s.length) : item n_ i s j = enc (n_[j]).toNat ++ enc (turn i[j]) ++ (enc (s[j]).length ++ s[j]) ++ [UInt8.ofNat (Int.toNat (IntKind.u8.wrap (j : Int)))] := by
  simp [item, List.getD, h1, h2, h3]
theorem item_len {j : Nat} (h1 : j < n_.length) (h2 : j < i.length) (h3 : j < s.length) (h4 : (s[j]).length ≤ 1000) : (item n_ i s j).length ≤ 1031 := by
  rw [item_eq n_ i s hn hi h1 h2 h3]
  have hN := hn _ (List.getElem_mem h1)
  have e1 := enc_ten (n := (n_[j]).toNat) (by omega)
  have e2 := enc_ten (turn_lt (hi _ (List.getElem_mem h2)))
  have e3 := enc_ten (n := (s[j]).length) (by omega)
  simp only [List.length_append, List.length_cons, List.length_nil]
  omega
theorem upTo_len : ∀ (K : Nat), (∀ j, j < K → j < n_.length ∧ j < i.length ∧ ∃ h : j < s.length, (s[j]).length ≤ 1000) → (upTo n_ i s K).length ≤ 1031 * K
  | 0, _ => by simp [upTo]
  | K + 1, h => by
    have h0 := upTo_len K fun j hj => h j (by omega)
    obtain ⟨h1, h2, h3, h4⟩ := h K (by omega)
    have := item_len n_ i s hn hi h1 h2 h3 h4
    rw [upTo, List.length_append]; omega
end
theorem upTo_split (n_ i : List Int) (s : List Bytes) (j : Nat) : ∀ (d : Nat), ∃ post, upTo n_ i s (j + d) = upTo n_ i s j ++ post
  | 0 => ⟨[], by simp⟩
  | d + 1 => by
    obtain ⟨p, hp⟩ := upTo_split n_ i s j d
    exact ⟨p ++ item n_ i s (j + d), by rw [← Nat.add_assoc, upTo, hp, List.append_assoc]⟩
theorem idxA' {α : Type} {xs : List α} {i : Nat} (h : i < xs.length) : Ans (fun _ => idx xs ((i : Nat) : Int)) xs[i] := .of (fun _ => idx_nat h) .const
theorem guard {α β γ R : Type} {kinds : List α} {n_ : List β} {s : List γ} {i : Nat} {X : Nat → Nat → Option R} {W : Nat → Option R} {res : R} (hW : (i < kinds.length → i < n_.length → i < s.length → i < 20 → False) → Ans W res) (hX : i < kinds.length → i < n_.length → i < s.length → i < 20 → Ans2 X res) :
    Ans2 (fun k n => bif (decide (((i : Nat) : Int) < ((List.length kinds : Nat) : Int)) == true) then (bif (decide (((i : Nat) : Int) < ((List.length n_ : Nat) : Int)) == true) then (bif (decide (((i : Nat) : Int) < ((List.length s : Nat) : Int)) == true) then (bif decide (((i : Nat) : Int) < 20) then X k n else W k) else W k) else W k) else W k) res := by
  by_cases h1 : i < kinds.length
  · refine .yes (by rw [lt_nat h1]; rfl) ?_
    by_cases h2 : i < n_.length
    · refine .yes (by rw [lt_nat h2]; rfl) ?_
      by_cases h3 : i < s.length
      · refine .yes (by rw [lt_nat h3]; rfl) ?_
        by_cases h4 : i < 20
        · exact .yes (decide_eq_true (by omega)) (hX h1 h2 h3 h4)
        · exact .no (decide_eq_false (by omega)) (hW fun _ _ _ h => h4 h).two
      · exact .no (by rw [nlt_nat (by omega)]; rfl) (hW fun _ _ h _ => h3 h).two
    · exact .no (by rw [nlt_nat (by omega)]; rfl) (hW fun _ h _ _ => h2 h).two
  · exact .no (by rw [nlt_nat (by omega)]; rfl) (hW fun h _ _ _ => h1 h).two
/-- One round of reading. -/
theorem round {b pre post t : List UInt8} {x : Nat} {y : Int} {c : UInt8} (hb : b = pre ++ (enc x ++ enc (turn y) ++ (enc t.length ++ t) ++ [c]) ++ post) (hl : b.length ≤ 1000000) (hx : x < 18446744073709551616) (hy : -9223372036854775808 ≤ y ∧ y < 9223372036854775808) (ht : t.length ≤ 1000) :
    ∃ p1 p2 p3 : Int, Ans (fun k => vint_Get k b (pre.length : Int)) ((x : Int), p1, 0, ()) ∧ Ans (fun k => vint_Get k b p1) ((turn y : Int), p2, 0, ()) ∧
      Ans (fun k => wire_Reader_Text_2 k (t.length : Int) true p2 b) (true, p3, b, t, 0, ()) ∧ Ans (fun k => wire_Reader_Byte_2 k true p3 b) (true, ((pre ++ (enc x ++ enc (turn y) ++ (enc t.length ++ t) ++ [c])).length : Int), b, (c.toNat : Int), 0, ()) := by
  have b1 : b = pre ++ enc x ++ (enc (turn y) ++ (enc t.length ++ t) ++ [c] ++ post) := by rw [hb]; simp
  have b2 : b = (pre ++ enc x) ++ enc (turn y) ++ ((enc t.length ++ t) ++ [c] ++ post) := by rw [hb]; simp
  have b3 : b = (pre ++ enc x ++ enc (turn y)) ++ enc t.length ++ (t ++ [c] ++ post) := by rw [hb]; simp
  have b4 : b = (pre ++ enc x ++ enc (turn y) ++ enc t.length) ++ t ++ ([c] ++ post) := by rw [hb]; simp
  have b5 : b = (pre ++ enc x ++ enc (turn y) ++ enc t.length ++ t) ++ c :: post := by rw [hb]; simp
  have G1 := get_ pre (enc (turn y) ++ (enc t.length ++ t) ++ [c] ++ post) hx (by rw [← b1]; exact hl)
  have G2 := get_ (pre ++ enc x) ((enc t.length ++ t) ++ [c] ++ post) (turn_lt hy) (by rw [← b2]; exact hl)
  have G3 := get_ (pre ++ enc x ++ enc (turn y)) (t ++ [c] ++ post) (m := t.length) (by omega) (by rw [← b3]; exact hl)
  rw [← b1] at G1
  rw [← b2] at G2
  rw [← b3] at G3
  rw [show ((pre ++ enc x ++ enc (turn y)).length + (enc t.length).length : Nat) = (pre ++ enc x ++ enc (turn y) ++ enc t.length).length by rw [List.length_append (bs := enc t.length)]] at G3
  have T := rtext2 (P := (pre ++ enc x ++ enc (turn y)).length) b4 hl G3
  have B := rbyte2 b5 hl
  rw [show ((pre ++ enc x ++ enc (turn y) ++ enc t.length).length + t.length : Nat) = (pre ++ enc x ++ enc (turn y) ++ enc t.length ++ t).length by rw [List.length_append (bs := t)]] at T
  rw [show ((pre ++ enc x ++ enc (turn y) ++ enc t.length ++ t).length + 1 : Nat) = (pre ++ (enc x ++ enc (turn y) ++ (enc t.length ++ t) ++ [c])).length by simp; omega] at B
  rw [show (pre.length + (enc x).length : Nat) = (pre ++ enc x).length by rw [List.length_append]] at G1
  rw [show ((pre ++ enc x).length + (enc (turn y)).length : Nat) = (pre ++ enc x ++ enc (turn y)).length by rw [List.length_append (bs := enc (turn y))]] at G2
  exact ⟨_, _, _, G1, G2, T, B⟩
theorem awake_eq (k : Nat) : law02_awake (k + 20) = some (true, ()) := by kernel_rfl
theorem awake : Ans (fun k => law02_awake k) (true, ()) := .plus 20 awake_eq
theorem awakes : Ans (fun k => (law02_awake k).bind fun r => some (r.1, ())) (true, ()) := .bind awake .const
theorem neS (x : Int) : ((x != x) == false) = true := by simp
theorem neT (x : Bytes) : ((!(x == x)) == false) = true := by simp
theorem neZ (x : Int) : (x != x) = false := by simp
def Fits (n_ i : List Int) (s : List Bytes) (K : Nat) : Prop := ∀ j, j < K → j < n_.length ∧ j < i.length ∧ ∃ h : j < s.length, (s[j]).length ≤ 1000
section
variable (n_ i : List Int) (s : List Bytes) (hn : ∀ x ∈ n_, 0 ≤ x ∧ x < 18446744073709551616) (hi : ∀ x ∈ i, -9223372036854775808 ≤ x ∧ x < 9223372036854775808)
include hn hi
/-- What a round of reading finds. -/
theorem rounds {K j : Nat} (hK : K ≤ 20) (hF : Fits n_ i s K) (hj : j < K) (h1 : j < n_.length) (h2 : j < i.length) (h3 : j < s.length) : ∃ p1 p2 p3 : Int, Ans (fun k => vint_Get k (upTo n_ i s K) ((upTo n_ i s j).length : Int)) (n_[j], p1, 0, ()) ∧ Ans (fun k => vint_Get k (upTo n_ i s K) p1) ((turn i[j] : Int), p2, 0, ()) ∧
      Ans (fun k => wire_Reader_Text_2 k ((List.length s[j] : Nat) : Int) true p2 (upTo n_ i s K)) (true, p3, upTo n_ i s K, s[j], 0, ()) ∧ Ans (fun k => wire_Reader_Byte_2 k true p3 (upTo n_ i s K)) (true, ((upTo n_ i s (j + 1)).length : Int), upTo n_ i s K, IntKind.u8.wrap (j : Int), 0, ()) := by
  obtain ⟨_, _, _, h4⟩ := hF j hj
  obtain ⟨post, hp⟩ := upTo_split n_ i s (j + 1) (K - (j + 1))
  rw [show j + 1 + (K - (j + 1)) = K by omega, upTo, item_eq n_ i s hn hi h1 h2 h3] at hp
  have hl : (upTo n_ i s K).length ≤ 1000000 := by have := upTo_len n_ i s hn hi K hF; omega
  have hN := hn _ (List.getElem_mem h1)
  have hx : (((n_[j]).toNat : Nat) : Int) = n_[j] := Int.toNat_of_nonneg hN.1
  have hc : ((UInt8.ofNat (Int.toNat (IntKind.u8.wrap (j : Int)))).toNat : Int) = IntKind.u8.wrap (j : Int) := by
    rw [u8_id (n := j) (by omega), Int.toNat_natCast]; simp; omega
  obtain ⟨p1, p2, p3, g1, g2, g3, g4⟩ := round (t := s[j]) (x := (n_[j]).toNat) (y := i[j]) (c := UInt8.ofNat (Int.toNat (IntKind.u8.wrap (j : Int)))) hp hl (by omega) (hi _ (List.getElem_mem h2)) h4
  rw [hx] at g1
  rw [hc, ← item_eq n_ i s hn hi h1 h2 h3] at g4
  exact ⟨p1, p2, p3, g1, g2, g3, g4⟩
theorem read3 {K : Nat} (hK : K ≤ 20) (hF : Fits n_ i s K) : ∀ (d j : Nat), j + d = K → Ans2 (fun k n => law02_WireBack_l3 k n n_ i s (K : Int) (j : Int) true ((upTo n_ i s j).length : Int) (upTo n_ i s K)) (true, ()) := by
  intro d
  induction d with
  | zero =>
    intro j hj
    obtain rfl : j = K := by omega
    refine .succ (fun k n => law02_WireBack_l3_eq k n n_ i s j j true _ _) (.no (by simp) (Ans.two (.of (fun k => law02_WireBack_j8_eq k n_ i s true _ _) (.bind (end2 _) (.yes rfl awakes)))))
  | succ d ih =>
    intro j hj
    obtain ⟨h1, h2, h3, h4⟩ := hF j (by omega)
    obtain ⟨p1, p2, p3, g1, g2, g3, g4⟩ := rounds n_ i s hn hi hK hF (j := j) (by omega) h1 h2 h3
    refine .succ (fun k n => law02_WireBack_l3_eq k n n_ i s K j true _ _) (.yes (by simp; omega) (.yes (by rw [lt_nat h1]; rfl) (.yes (by rw [lt_nat h2]; rfl) (.yes (lt_nat h3) ?_))))
    refine .of (fun k n => by rw [law02_WireBack_j7_eq, wrap_succ (m := 20) (i := j) (by omega) (by omega)]) (.bind (idxA' h1) (.bind (rnum2 g1 (Int.le_refl _)) (.bind (rint2 (hi _ (List.getElem_mem h2)) g2) (.bind (idxA' h3) (.bind g3 (.bind g4 (.yes rfl (.yes rfl (.yes rfl (.yes rfl (.bind (idxA' h1) (.yes (neS _) (.bind (idxA' h2) (.yes (neS _) (.bind (idxA' h3) (.yes (neT _) (.no (neZ _) ?_)))))))))))))))))
    exact ih (j + 1) (by omega)
theorem read2 {K : Nat} (hK : K ≤ 20) (h0 : 0 < K) (hF : Fits n_ i s K) : Ans2 (fun k n => law02_WireBack_l2 k n n_ i s (K : Int) 0 true 0 (upTo n_ i s K)) (true, ()) := by
  obtain ⟨h1, h2, h3, h4⟩ := hF 0 h0
  obtain ⟨p1, p2, p3, g1, g2, g3, g4⟩ := rounds n_ i s hn hi hK hF (j := 0) h0 h1 h2 h3
  refine .succ (fun k n => law02_WireBack_l2_eq k n n_ i s K 0 true 0 _) (.yes (by simp; omega) (.yes (by simp; omega) (.yes (by simp; omega) (.yes (by simp; omega) ?_))))
  rw [show ((upTo n_ i s 0).length : Int) = 0 from rfl] at g1
  refine .of (fun k n => law02_WireBack_j5_eq k n n_ i s K true 0 (upTo n_ i s K) 0) (.bind (idxA' h1) (.elimR (rnum1 g1 (Int.le_refl _)) (.bind (rint2 (hi _ (List.getElem_mem h2)) g2) (.bind (idxA' h3) (.bind g3 (.bind g4 (.yes rfl (.yes rfl (.yes rfl (.yes rfl (.bind (idxA' h1) (.yes (neS _) (.bind (idxA' h2) (.yes (neS _) (.bind (idxA' h3) (.yes (neT _) (.no (neZ _) ?_)))))))))))))))))
  exact read3 n_ i s hn hi hK hF (K - 1) 1 (by omega)
theorem upTo_next {j : Nat} (h1 : j < n_.length) (h2 : j < i.length) (h3 : j < s.length) : upTo n_ i s j ++ enc (n_[j]).toNat ++ enc (turn i[j]) ++ (enc (s[j]).length ++ s[j]) ++ [UInt8.ofNat (Int.toNat (IntKind.u8.wrap (j : Int)))] = upTo n_ i s (j + 1) := by
  rw [upTo, item_eq n_ i s hn hi h1 h2 h3]
  simp only [List.append_assoc]
theorem fits_next {j : Nat} (hF : Fits n_ i s j) (h1 : j < n_.length) (h2 : j < i.length) (h3 : j < s.length) (h4 : (s[j]).length ≤ 1000) : Fits n_ i s (j + 1) := by
  intro q hq
  by_cases e : q < j
  · exact hF q e
  · obtain rfl : q = j := by omega
    exact ⟨h1, h2, h3, h4⟩
theorem write3 : ∀ (d j : Nat), j + d = 20 → 0 < j → Fits n_ i s j → Ans2 (fun k n => law02_WireBack_l1 k n n_ i s (j : Int) true 65536 (upTo n_ i s j)) (true, ()) := by
  intro d
  have fin : ∀ j, j ≤ 20 → 0 < j → Fits n_ i s j → Ans (fun k => law02_WireBack_j4 k n_ i s (j : Int) true 65536 (upTo n_ i s j)) (true, ()) := by
    intro j hj h0 hF
    have hl := upTo_len n_ i s hn hi j hF
    refine .of (fun k => law02_WireBack_j4_eq k n_ i s j true 65536 _) (.bind (done3 65536 (by omega)) (.bind (.succ (fun k => wire_NewReader_eq k _) (.yes (decide_eq_true (by show (upTo n_ i s j).length * 1 ≤ 140737488355328; omega)) .const)) ?_))
    exact (read2 n_ i s hn hi hj h0 hF).diag
  induction d with
  | zero =>
    intro j hj h0 hF
    exact .succ (fun k n => law02_WireBack_l1_eq k n n_ i s j true 65536 _) (guard (fun _ => fin j (by omega) h0 hF) fun _ _ _ h => by omega)
  | succ d ih =>
    intro j hj h0 hF
    refine .succ (fun k n => law02_WireBack_l1_eq k n n_ i s j true 65536 _) (guard (fun _ => fin j (by omega) h0 hF) fun h1 h2 h3 h5 => ?_)
    have hl := upTo_len n_ i s hn hi j hF
    have hN := hn _ (List.getElem_mem h1)
    have hx : (((n_[j]).toNat : Nat) : Int) = n_[j] := Int.toNat_of_nonneg hN.1
    refine .of (fun k n => by rw [law02_WireBack_j3_eq, wrap_succ (m := 20) (i := j) (by omega) (by omega)]) (.bind (idxA' h3) ?_)
    by_cases h4 : (s[j]).length ≤ 1000
    · have e1 := enc_ten (n := (n_[j]).toNat) (by omega)
      have e2 := enc_ten (turn_lt (hi _ (List.getElem_mem h2)))
      have e3 := enc_ten (n := (s[j]).length) (by omega)
      have W1 := num3r (n := (n_[j]).toNat) (by omega) (b := upTo n_ i s j) (by omega)
      rw [hx] at W1
      have W2 := int3r (hi _ (List.getElem_mem h2)) (b := upTo n_ i s j ++ enc (n_[j]).toNat) (by rw [List.length_append]; omega)
      have W3 := text3r h4 (b := upTo n_ i s j ++ enc (n_[j]).toNat ++ enc (turn i[j])) (by simp only [List.length_append]; omega)
      have W4 := byte3r (IntKind.u8.wrap (j : Int)) (b := upTo n_ i s j ++ enc (n_[j]).toNat ++ enc (turn i[j]) ++ (enc (s[j]).length ++ s[j])) (by simp only [List.length_append]; omega)
      rw [upTo_next n_ i s hn hi h1 h2 h3] at W4
      refine .no (decide_eq_false (by omega)) (.bind (idxA' h1) (.elimR W1 (.yes rfl (.bind (idxA' h2) (.elimR W2 (.yes rfl (.bind (idxA' h3) (.elimR W3 (.yes rfl (.elimR W4 (.no rfl ?_)))))))))))
      exact ih (j + 1) (by omega) (by omega) (fits_next n_ i s hn hi hF h1 h2 h3 h4)
    · exact .yes (decide_eq_true (by omega)) awakes.two
theorem law : ∃ k, law02_WireBack k n_ i s = some (true, ()) := by
  suffices h : Ans (fun k => law02_WireBack k n_ i s) (true, ()) from h.ex
  have NW : Ans (fun k => wire_NewWriter k 65536) (Sum.inr (true, 65536, 0, ())) := .succ (fun k => wire_NewWriter_eq k 65536) (.yes rfl (.no rfl (.of (fun k => wire_NewWriter_j0_eq k 65536) .const)))
  refine .succ (fun k => law02_WireBack_eq k n_ i s) (.elimR NW (.no rfl (.of (fun k => law02_WireBack_j0_eq k n_ i s _) ?_)))
  suffices L : Ans2 (fun k n => law02_WireBack_l0 k n n_ i s ((0 : Nat) : Int) true 65536) (true, ()) from L.diag
  have hF0 : Fits n_ i s 0 := fun j hj => by omega
  refine .succ (fun k n => law02_WireBack_l0_eq k n n_ i s _ true 65536) (guard (fun _ => ?_) fun h1 h2 h3 h5 => ?_)
  · refine .of (fun k => law02_WireBack_j2_eq k n_ i s _ true 65536) (.bind (done2 65536) (.bind (.succ (fun k => wire_NewReader_eq k _) (.yes rfl .const)) ?_))
    have L2 : Ans2 (fun k n => law02_WireBack_l2 k n n_ i s ((0 : Nat) : Int) 0 true 0 ([] : List UInt8)) (true, ()) :=
      .succ (fun k n => law02_WireBack_l2_eq k n n_ i s _ 0 true 0 _) (.no rfl (Ans.two (.of (fun k => law02_WireBack_j6_eq k n_ i s true 0 _) (.bind (end1 []) (.yes rfl awakes)))))
    exact L2.diag
  · have hN := hn _ (List.getElem_mem h1)
    have hx : (((n_[0]).toNat : Nat) : Int) = n_[0] := Int.toNat_of_nonneg hN.1
    refine .of (fun k n => by rw [law02_WireBack_j1_eq, wrap_succ (m := 20) (i := 0) (by omega) (by omega)]) (.bind (idxA' h3) ?_)
    by_cases h4 : (s[0]).length ≤ 1000
    · have e1 := enc_ten (n := (n_[0]).toNat) (by omega)
      have e2 := enc_ten (turn_lt (hi _ (List.getElem_mem h2)))
      have e3 := enc_ten (n := (s[0]).length) (by omega)
      have W1 := num2r (n := (n_[0]).toNat) (by omega)
      rw [hx] at W1
      have W2 := int3r (hi _ (List.getElem_mem h2)) (b := enc (n_[0]).toNat) (by omega)
      have W3 := text3r h4 (b := enc (n_[0]).toNat ++ enc (turn i[0])) (by simp only [List.length_append]; omega)
      have W4 := byte3r (IntKind.u8.wrap ((0 : Nat) : Int)) (b := enc (n_[0]).toNat ++ enc (turn i[0]) ++ (enc (s[0]).length ++ s[0])) (by simp only [List.length_append]; omega)
      have e0 := upTo_next n_ i s hn hi h1 h2 h3
      rw [show upTo n_ i s 0 = [] from rfl, List.nil_append] at e0
      rw [e0] at W4
      refine .no (decide_eq_false (by omega)) (.bind (idxA' h1) (.elimR W1 (.yes rfl (.bind (idxA' h2) (.elimR W2 (.yes rfl (.bind (idxA' h3) (.elimR W3 (.yes rfl (.elimR W4 (.no rfl ?_)))))))))))
      exact write3 n_ i s hn hi 19 1 (by omega) (by omega) (fits_next n_ i s hn hi hF0 h1 h2 h3 h4)
    · exact .yes (decide_eq_true (by omega)) awakes.two
end
theorem good_u64s {xs : List Int} (h : Good (.sl (.int .u64) false xs)) : ∀ x ∈ xs, 0 ≤ x ∧ x < 18446744073709551616 := by
  intro x hx
  cases h with
  | sl _ _ he =>
    have := he x hx (.int .u64 x) (by simp [cells])
    cases this with
    | int h => simp [Lit.wf, IntKind.signed, IntKind.min, IntKind.max, IntKind.bits] at h; omega
theorem good_i64s {xs : List Int} (h : Good (.sl (.int .i64) false xs)) : ∀ x ∈ xs, -9223372036854775808 ≤ x ∧ x < 9223372036854775808 := by
  intro x hx
  cases h with
  | sl _ _ he =>
    have := he x hx (.int .i64 x) (by simp [cells])
    cases this with
    | int h => simp [Lit.wf, IntKind.signed, IntKind.min, IntKind.max, IntKind.bits] at h; omega
end Go.Ev.HpWB
