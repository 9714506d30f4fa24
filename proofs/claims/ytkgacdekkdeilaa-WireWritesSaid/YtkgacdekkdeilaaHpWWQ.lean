/-
  WireWrites, the plain law: the loop.
-/
import Derived.Test.YtkgacdekkdeilaaHpWWP
set_option linter.unusedVariables false
set_option linter.unusedSectionVars false
namespace Go.Ev.HpWW
theorem fin5 (most : Int) (kinds : List UInt8) (n_ : List Int) (s : List Bytes) (M : Nat) (i : Nat) (b : List UInt8) (hb : b.length ≤ M)
    (J : ∀ (b' : List UInt8) (g : Int), b'.length ≤ M → Ans2 (fun k n => law02_WireWrites_j11 k n most kinds n_ s (i : Int) g g true (M : Int) (M : Int) b' b') (true, ()))
    {α : Type} {xs : List α} (hi : i < xs.length) {x : List UInt8} {w : Nat → Option ((Bool × Int × List UInt8 × Int × Unit) ⊕ (Bool × Int × List UInt8 × List UInt8 × Int × Unit))} {r : Nat → α → Option ((Int × List UInt8 × Int × Unit) ⊕ (Int × List UInt8 × List UInt8 × Int × Unit))} (hw : Ans w (wres3 M b x)) (hr : Ans (fun k => r k xs[i]) (rres2 M b x)) :
    Ans2 (fun k n => (w k).bind fun r1 => Sum.elim (fun r1 => (idx xs i).bind fun d2 => (r k d2).bind fun r2 => Sum.elim (fun r2 => law02_WireWrites_j11 k n most kinds n_ s i r1.2.2.2.1 r2.2.2.1 r1.1 r1.2.1 r2.1 r1.2.2.1 r2.2.1) (fun r2 => law02_WireWrites_j11 k n most kinds n_ s i r1.2.2.2.1 r2.2.2.2.1 r1.1 r1.2.1 r2.1 r1.2.2.1 r2.2.2.1) r2) (fun r1 => (idx xs i).bind fun d2 => (r k d2).bind fun r2 => Sum.elim (fun r2 => law02_WireWrites_j11 k n most kinds n_ s i r1.2.2.2.2.1 r2.2.2.1 r1.1 r1.2.1 r2.1 r1.2.2.2.1 r2.2.1) (fun r2 => law02_WireWrites_j11 k n most kinds n_ s i r1.2.2.2.2.1 r2.2.2.2.1 r1.1 r1.2.1 r2.1 r1.2.2.2.1 r2.2.2.1) r2) r1) (true, ()) := by
  unfold wres3 at hw
  unfold rres2 at hr
  by_cases hx : x.length + b.length ≤ M
  · rw [if_pos hx] at hr hw
    have JJ := J (b ++ x) 0 (by rw [List.length_append]; omega)
    obtain ⟨N1, h1⟩ := hw
    obtain ⟨N2, h2⟩ := hr
    obtain ⟨N3, h3⟩ := JJ
    refine ⟨max N1 (max N2 N3), fun k n hk hn => ?_⟩
    have hh := h3 k n (by omega) (by omega)
    have e1 := h1 k (by omega)
    have e2 : r k xs[i] = _ := h2 k (by omega)
    show (w k).bind _ = _
    rw [e1, Option.bind_some, Sum.elim_inr, idx_nat hi, Option.bind_some, e2, Option.bind_some, Sum.elim_inr]
    exact hh
  · rw [if_neg hx] at hr hw
    have JJ := J b 2 hb
    obtain ⟨N1, h1⟩ := hw
    obtain ⟨N2, h2⟩ := hr
    obtain ⟨N3, h3⟩ := JJ
    refine ⟨max N1 (max N2 N3), fun k n hk hn => ?_⟩
    have hh := h3 k n (by omega) (by omega)
    have e1 := h1 k (by omega)
    have e2 : r k xs[i] = _ := h2 k (by omega)
    show (w k).bind _ = _
    rw [e1, Option.bind_some, Sum.elim_inl, idx_nat hi, Option.bind_some, e2, Option.bind_some, Sum.elim_inl]
    exact hh
theorem step5 (most : Int) (kinds : List UInt8) (n_ : List Int) (s : List Bytes) (M : Nat) (hM : M ≤ 65536) (hn : ∀ x ∈ n_, 0 ≤ x ∧ x < 18446744073709551616) (hs : ∀ x ∈ s, x.length ≤ 140737488351232) (i : Nat) (b : List UInt8) (hb : b.length ≤ M)
    (J : ∀ (b' : List UInt8) (g : Int), b'.length ≤ M → Ans2 (fun k n => law02_WireWrites_j11 k n most kinds n_ s (i : Int) g g true (M : Int) (M : Int) b' b') (true, ()))
    (h1 : i < kinds.length) (h2 : i < n_.length) (h3 : i < s.length) (r : Bool × Int × List UInt8 × List UInt8 × Unit) (hr : r = (true, (M : Int), b, b, ())) : Ans2 (fun k n => law02_WireWrites_j15 k n most kinds n_ s i r M b) (true, ()) := by
  have hN := hn _ (List.getElem_mem h2)
  obtain ⟨m, hm⟩ := Int.eq_ofNat_of_zero_le hN.1
  have hm64 : m < 18446744073709551616 := by omega
  have hS := hs _ (List.getElem_mem h3)
  have r1 : r.1 = true := by rw [hr]
  have r2 : r.2.1 = (M : Int) := by rw [hr]
  have r3 : r.2.2.1 = b := by rw [hr]
  refine .of (fun k n => by rw [law02_WireWrites_j15_eq, r1, r2, r3]) (.bind (idxA h1) ?_)
  cases e0 : (Int.tmod ((kinds[i]).toNat : Int) 4) == 0 with
  | true =>
    refine .yes rfl (.bind (idxA h2) ?_)
    rw [hm]
    exact fin5 most kinds n_ s M i b hb J h2 (num3 hM hm64 hb) (r := fun k d2 => ref02_Writer_Num_2 k d2 M b) (by rw [hm]; exact rnum2 hM hm64 hb)
  | false =>
    refine .no rfl ?_
    cases e1 : (Int.tmod ((kinds[i]).toNat : Int) 4) == 1 with
    | true => exact .yes rfl (.bind (idxA h2) (fin5 most kinds n_ s M i b hb J h2 (r := fun k d2 => ref02_Writer_Int_2 k (IntKind.i64.wrap d2) M b) (int3 hM (i64_range n_[i]) hb) (rint2 hM (i64_range n_[i]) hb)))
    | false =>
      refine .no rfl ?_
      cases e2 : (Int.tmod ((kinds[i]).toNat : Int) 4) == 2 with
      | true => exact .yes rfl (.bind (idxA h3) (fin5 most kinds n_ s M i b hb J h3 (r := fun k d2 => ref02_Writer_Text_2 k d2 M b) (text3 hM hb s[i] (by omega)) (rtext2 hM hb s[i] hS)))
      | false => exact .no rfl (.bind (idxA h2) (fin5 most kinds n_ s M i b hb J h2 (r := fun k d2 => ref02_Writer_Byte_2 k (IntKind.u8.wrap d2) M b) (byte3 hM hb (IntKind.u8.wrap n_[i])) (rbyte2 hM hb (IntKind.u8.wrap n_[i]))))
theorem guard {α β γ R : Type} {kinds : List α} {n_ : List β} {s : List γ} {i : Nat} {X : Nat → Nat → Option R} {W : Nat → Option R} {res : R} (hW : Ans W res) (hX : i < kinds.length → i < n_.length → i < s.length → i < 60 → Ans2 X res) :
    Ans2 (fun k n => bif (decide (((i : Nat) : Int) < ((List.length kinds : Nat) : Int)) == true) then (bif (decide (((i : Nat) : Int) < ((List.length n_ : Nat) : Int)) == true) then (bif (decide (((i : Nat) : Int) < ((List.length s : Nat) : Int)) == true) then (bif decide (((i : Nat) : Int) < 60) then X k n else W k) else W k) else W k) else W k) res := by
  by_cases h1 : i < kinds.length
  · refine .yes (by rw [lt_nat h1]; rfl) ?_
    by_cases h2 : i < n_.length
    · refine .yes (by rw [lt_nat h2]; rfl) ?_
      by_cases h3 : i < s.length
      · refine .yes (by rw [lt_nat h3]; rfl) ?_
        by_cases h4 : i < 60
        · exact .yes (decide_eq_true (by omega)) (hX h1 h2 h3 h4)
        · exact .no (decide_eq_false (by omega)) hW.two
      · exact .no (by rw [nlt_nat (by omega)]; rfl) hW.two
    · exact .no (by rw [nlt_nat (by omega)]; rfl) hW.two
  · exact .no (by rw [nlt_nat (by omega)]; rfl) hW.two
theorem loop5 (most : Int) (kinds : List UInt8) (n_ : List Int) (s : List Bytes) (M : Nat) (hM : M ≤ 65536) (hn : ∀ x ∈ n_, 0 ≤ x ∧ x < 18446744073709551616) (hs : ∀ x ∈ s, x.length ≤ 140737488351232) : ∀ (d i : Nat) (b : List UInt8), i + d = 60 → b.length ≤ M → Ans2 (fun k n => law02_WireWrites_l5 k n most kinds n_ s (true, (M : Int), b, b, ()) (i : Int) (M : Int) b) (true, ()) := by
  intro d
  induction d with
  | zero =>
    intro i b hi hb
    exact .succ (fun k n => law02_WireWrites_l5_eq k n most kinds n_ s (true, (M : Int), b, b, ()) i M b) (guard awakes fun _ _ _ h => by omega)
  | succ d ih =>
    intro i b hi hb
    refine .succ (fun k n => law02_WireWrites_l5_eq k n most kinds n_ s (true, (M : Int), b, b, ()) i M b) (guard awakes fun h1 h2 h3 h4 => ?_)
    exact step5 most kinds n_ s M hM hn hs i b hb (fun b' g hb' => j11 most kinds n_ s M hM b' hb' i h4 g (ih (i + 1) b' (by omega) hb')) h1 h2 h3 _ rfl
theorem fin1 (most : Int) (kinds : List UInt8) (n_ : List Int) (s : List Bytes) (M : Nat) (i : Nat)
    (J : ∀ (b' : List UInt8) (g : Int), b'.length ≤ M → Ans2 (fun k n => law02_WireWrites_j11 k n most kinds n_ s (i : Int) g g true (M : Int) (M : Int) b' b') (true, ()))
    (J8 : ∀ (g : Int), Ans2 (fun k n => law02_WireWrites_j8 k n most kinds n_ s (i : Int) g g true (M : Int) (M : Int)) (true, ()))
    {α : Type} {xs : List α} (hi : i < xs.length) {x : List UInt8} {w : Nat → Option ((Bool × Int × Int × Unit) ⊕ (Bool × Int × List UInt8 × Int × Unit))} {r : Nat → α → Option ((Int × Int × Unit) ⊕ (Int × List UInt8 × Int × Unit))} (hw : Ans w (wres M x)) (hr : Ans (fun k => r k xs[i]) (rres M x)) :
    Ans2 (fun k n => (w k).bind fun r_1 => Sum.elim (fun r_2 => (idx xs i).bind fun d2 => (r k d2).bind fun r1 => Sum.elim (fun r1 => law02_WireWrites_j8 k n most kinds n_ s i r_2.2.2.1 r1.2.1 r_2.1 r_2.2.1 r1.1) (fun r1 => law02_WireWrites_j9 k n most kinds n_ s i r_2.2.2.1 r1.2.2.1 r_2.1 r_2.2.1 r1.1 r1.2.1) r1) (fun r_2 => (idx xs i).bind fun d2 => (r k d2).bind fun r1 => Sum.elim (fun r1 => law02_WireWrites_j10 k n most kinds n_ s i r_2.2.2.2.1 r1.2.1 r_2.1 r_2.2.1 r1.1 r_2.2.2.1) (fun r1 => law02_WireWrites_j11 k n most kinds n_ s i r_2.2.2.2.1 r1.2.2.1 r_2.1 r_2.2.1 r1.1 r_2.2.2.1 r1.2.1) r1) r_1) (true, ()) := by
  unfold wres at hw
  unfold rres at hr
  by_cases hx : x.length ≤ M
  · rw [if_pos hx] at hr hw
    have JJ := J x 0 hx
    obtain ⟨N1, h1⟩ := hw
    obtain ⟨N2, h2⟩ := hr
    obtain ⟨N3, h3⟩ := JJ
    refine ⟨max N1 (max N2 N3), fun k n hk hn => ?_⟩
    have hh := h3 k n (by omega) (by omega)
    have e1 := h1 k (by omega)
    have e2 : r k xs[i] = _ := h2 k (by omega)
    show (w k).bind _ = _
    rw [e1, Option.bind_some, Sum.elim_inr, idx_nat hi, Option.bind_some, e2, Option.bind_some, Sum.elim_inr]
    exact hh
  · rw [if_neg hx] at hr hw
    have JJ := J8 2
    obtain ⟨N1, h1⟩ := hw
    obtain ⟨N2, h2⟩ := hr
    obtain ⟨N3, h3⟩ := JJ
    refine ⟨max N1 (max N2 N3), fun k n hk hn => ?_⟩
    have hh := h3 k n (by omega) (by omega)
    have e1 := h1 k (by omega)
    have e2 : r k xs[i] = _ := h2 k (by omega)
    show (w k).bind _ = _
    rw [e1, Option.bind_some, Sum.elim_inl, idx_nat hi, Option.bind_some, e2, Option.bind_some, Sum.elim_inl]
    exact hh
theorem step1 (most : Int) (kinds : List UInt8) (n_ : List Int) (s : List Bytes) (M : Nat) (hM : M ≤ 65536) (hn : ∀ x ∈ n_, 0 ≤ x ∧ x < 18446744073709551616) (hs : ∀ x ∈ s, x.length ≤ 140737488351232) (i : Nat)
    (J : ∀ (b' : List UInt8) (g : Int), b'.length ≤ M → Ans2 (fun k n => law02_WireWrites_j11 k n most kinds n_ s (i : Int) g g true (M : Int) (M : Int) b' b') (true, ()))
    (J8 : ∀ (g : Int), Ans2 (fun k n => law02_WireWrites_j8 k n most kinds n_ s (i : Int) g g true (M : Int) (M : Int)) (true, ()))
    (h1 : i < kinds.length) (h2 : i < n_.length) (h3 : i < s.length) : Ans2 (fun k n => law02_WireWrites_j5 k n most kinds n_ s i true M M) (true, ()) := by
  have hN := hn _ (List.getElem_mem h2)
  obtain ⟨m, hm⟩ := Int.eq_ofNat_of_zero_le hN.1
  have hm64 : m < 18446744073709551616 := by omega
  have hS := hs _ (List.getElem_mem h3)
  refine .of (fun k n => law02_WireWrites_j5_eq k n most kinds n_ s i true M M) (.bind (idxA h1) ?_)
  cases e0 : (Int.tmod ((kinds[i]).toNat : Int) 4) == 0 with
  | true =>
    refine .yes rfl (.bind (idxA h2) ?_)
    rw [hm]
    exact fin1 most kinds n_ s M i J J8 h2 (num2 hM hm64) (r := fun k d2 => ref02_Writer_Num k d2 M) (by rw [hm]; exact rnum hM hm64)
  | false =>
    refine .no rfl ?_
    cases e1 : (Int.tmod ((kinds[i]).toNat : Int) 4) == 1 with
    | true => exact .yes rfl (.bind (idxA h2) (fin1 most kinds n_ s M i J J8 h2 (r := fun k d2 => ref02_Writer_Int k (IntKind.i64.wrap d2) M) (int2 hM (i64_range n_[i])) (rint hM (i64_range n_[i]))))
    | false =>
      refine .no rfl ?_
      cases e2 : (Int.tmod ((kinds[i]).toNat : Int) 4) == 2 with
      | true => exact .yes rfl (.bind (idxA h3) (fin1 most kinds n_ s M i J J8 h3 (r := fun k d2 => ref02_Writer_Text k d2 M) (text2 hM s[i] (by omega)) (rtext hM s[i] hS)))
      | false => exact .no rfl (.bind (idxA h2) (fin1 most kinds n_ s M i J J8 h2 (r := fun k d2 => ref02_Writer_Byte k (IntKind.u8.wrap d2) M) (byte2 hM (IntKind.u8.wrap n_[i])) (rbyte hM (IntKind.u8.wrap n_[i]))))
theorem loop1 (most : Int) (kinds : List UInt8) (n_ : List Int) (s : List Bytes) (M : Nat) (hM : M ≤ 65536) (hn : ∀ x ∈ n_, 0 ≤ x ∧ x < 18446744073709551616) (hs : ∀ x ∈ s, x.length ≤ 140737488351232) : ∀ (d i : Nat), i + d = 60 → Ans2 (fun k n => law02_WireWrites_l1 k n most kinds n_ s (i : Int) true (M : Int) (M : Int)) (true, ()) := by
  intro d
  induction d with
  | zero =>
    intro i hi
    exact .succ (fun k n => law02_WireWrites_l1_eq k n most kinds n_ s i true M M) (guard awakes fun _ _ _ h => by omega)
  | succ d ih =>
    intro i hi
    refine .succ (fun k n => law02_WireWrites_l1_eq k n most kinds n_ s i true M M) (guard awakes fun h1 h2 h3 h4 => ?_)
    exact step1 most kinds n_ s M hM hn hs i (fun b' g hb' => j11 most kinds n_ s M hM b' hb' i h4 g (loop5 most kinds n_ s M hM hn hs d (i + 1) b' (by omega) hb')) (fun g => j8 most kinds n_ s M hM i h4 g (ih (i + 1) (by omega))) h1 h2 h3
theorem good_u64s {xs : List Int} (h : Good (.sl (.int .u64) false xs)) : ∀ x ∈ xs, 0 ≤ x ∧ x < 18446744073709551616 := by
  intro x hx
  cases h with
  | sl _ _ he =>
    have := he x hx (.int .u64 x) (by simp [cells])
    cases this with
    | int h => simp [Lit.wf, IntKind.signed, IntKind.min, IntKind.max, IntKind.bits] at h; omega
theorem good_texts {xs : List Bytes} (h : Good (.sl .str false xs)) : ∀ x ∈ xs, List.length x ≤ 140737488351232 := by
  intro x hx
  cases h with
  | sl _ _ he =>
    have := he x hx (.str x) (by simp [cells])
    cases this with
    | str h => exact h
theorem law (most : Int) (kinds : List UInt8) (n_ : List Int) (s : List Bytes) (hn : ∀ x ∈ n_, 0 ≤ x ∧ x < 18446744073709551616) (hs : ∀ x ∈ s, x.length ≤ 140737488351232) : ∃ k, law02_WireWrites k most kinds n_ s = some (true, ()) := by
  suffices h : Ans (fun k => law02_WireWrites k most kinds n_ s) (true, ()) from h.ex
  have bad : (most < 0 ∨ most > 65536) → Ans (fun k => law02_WireWrites k most kinds n_ s) (true, ()) := by
    intro hb
    have W : Ans (fun k => wire_NewWriter k most) (Sum.inl (1, ())) := by
      refine .succ (fun k => wire_NewWriter_eq k most) ?_
      by_cases h0 : most < 0
      · exact .no (by simp [h0]) .const
      · exact .yes (by simp; omega) (.yes (decide_eq_true (by omega)) .const)
    have V : Ans (fun k => ref02_NewWriter k most) (Sum.inl (1, ())) := by
      refine .succ (fun k => ref02_NewWriter_eq k most) ?_
      by_cases h0 : most < 0
      · exact .no (by simp [h0]) .const
      · exact .yes (by simp; omega) (.yes (decide_eq_true (by omega)) .const)
    obtain ⟨N1, h1⟩ := W
    obtain ⟨N2, h2⟩ := V
    obtain ⟨N3, h3⟩ := awakes
    refine ⟨max N1 (max N2 N3) + 1, fun k hk => ?_⟩
    obtain ⟨j, rfl⟩ : ∃ j, k = j + 1 := ⟨k - 1, by omega⟩
    have e1 : wire_NewWriter j most = _ := h1 j (by omega)
    have e2 : ref02_NewWriter j most = _ := h2 j (by omega)
    have e3 : (law02_awake j).bind _ = _ := h3 j (by omega)
    show law02_WireWrites (j + 1) most kinds n_ s = _
    rw [law02_WireWrites_eq, e1, Option.bind_some, Sum.elim_inl, e2, Option.bind_some, Sum.elim_inl, show ((((1 : Int), ()) : Int × Unit).1 != (((1 : Int), ()) : Int × Unit).1) = false from rfl, beq_self_eq_true, cond_true, show (!(true == true)) = false from rfl, cond_false, law02_WireWrites_j0_eq]
    exact e3
  by_cases h0 : most < 0
  · exact bad (.inl h0)
  · by_cases h1 : most > 65536
    · exact bad (.inr h1)
    · obtain ⟨M, rfl⟩ := Int.eq_ofNat_of_zero_le (show 0 ≤ most by omega)
      have W : Ans (fun k => wire_NewWriter k (M : Int)) (Sum.inr (true, (M : Int), 0, ())) := .succ (fun k => wire_NewWriter_eq k M) (.yes (by simp) (.no (decide_eq_false (by omega)) (.of (fun k => wire_NewWriter_j0_eq k M) .const)))
      have V : Ans (fun k => ref02_NewWriter k (M : Int)) (Sum.inr ((M : Int), 0, ())) := .succ (fun k => ref02_NewWriter_eq k M) (.yes (by simp) (.no (decide_eq_false (by omega)) (.of (fun k => ref02_NewWriter_j0_eq k M) .const)))
      obtain ⟨N1, h1⟩ := W
      obtain ⟨N2, h2⟩ := V
      obtain ⟨N3, h3⟩ := (loop1 (M : Int) kinds n_ s M (by omega) hn hs 60 0 (by omega)).diag
      refine ⟨max N1 (max N2 N3) + 1, fun k hk => ?_⟩
      obtain ⟨j, rfl⟩ : ∃ j, k = j + 1 := ⟨k - 1, by omega⟩
      have e1 : wire_NewWriter j M = _ := h1 j (by omega)
      have e2 : ref02_NewWriter j M = _ := h2 j (by omega)
      have e3 : law02_WireWrites_l1 j j M kinds n_ s ((0 : Nat) : Int) true M M = _ := h3 j (by omega)
      show law02_WireWrites (j + 1) M kinds n_ s = _
      rw [law02_WireWrites_eq, e1, Option.bind_some, Sum.elim_inr, e2, Option.bind_some, Sum.elim_inr, show (((true, (M : Int), (0 : Int), ()) : Bool × Int × Int × Unit).2.2.1 != (((M : Int), (0 : Int), ()) : Int × Int × Unit).2.1) = false from rfl, beq_self_eq_true, cond_true, show (!true) = false from rfl, cond_false, law02_WireWrites_j3_eq]
      exact e3
end Go.Ev.HpWW
