/-
  SchemaTells, the plain law: names, what may be.
-/
import Derived.Test.YtpkhhaolkfaoaaaHpST
import Derived.Test.YtpkhhaolkfaoaaaHpRune
set_option linter.unusedVariables false
set_option linter.unusedSectionVars false
namespace Go.Ev.HpST
theorem idxA {α : Type} {xs : List α} {i : Nat} (h : i < xs.length) : Ans (fun _ => idx xs ((i : Nat) : Int)) xs[i] := .of (fun _ => idx_nat h) .const
theorem decA {b c : Bool} (h : b = c) : Ans (fun _ => some (b, ())) (c, ()) := by rw [h]; exact .const
/-! ### Names -/
theorem lower (c : Nat) : Ans (fun k => word_isLower k (c : Int)) (decide (lowN c), ()) := by
  by_cases h : 97 ≤ c
  · exact .succ (fun k => word_isLower_eq k c) (.yes (by simp; omega) (decA (decide_eq_decide.2 (by unfold lowN; omega))))
  · exact .succ (fun k => word_isLower_eq k c) (.no (by simp; omega) (decA (Eq.symm (decide_eq_false (by unfold lowN; omega)))))
theorem digit (c : Nat) : Ans (fun k => word_isDigit k (c : Int)) (decide (48 ≤ c ∧ c ≤ 57), ()) := by
  by_cases h : 48 ≤ c
  · exact .succ (fun k => word_isDigit_eq k c) (.yes (by simp; omega) (decA (decide_eq_decide.2 (by omega))))
  · exact .succ (fun k => word_isDigit_eq k c) (.no (by simp; omega) (decA (Eq.symm (decide_eq_false (by omega)))))
theorem isSign (c : Nat) : Ans (fun k => word_isSign k (c : Int)) (decide (sgnN c), ()) := by
  have h1 := lower c
  have h2 := digit c
  by_cases a : lowN c
  · rw [decide_eq_true a] at h1
    rw [decide_eq_true (show sgnN c from .inl a)]
    exact .succ (fun k => word_isSign_eq k c) (.bind h1 (.no rfl .const))
  · rw [decide_eq_false a] at h1
    by_cases b : 48 ≤ c ∧ c ≤ 57
    · rw [decide_eq_true b] at h2
      rw [decide_eq_true (show sgnN c from .inr (.inl b))]
      exact .succ (fun k => word_isSign_eq k c) (.bind h1 (.yes rfl (.bind h2 (.no rfl .const))))
    · rw [decide_eq_false b] at h2
      refine .succ (fun k => word_isSign_eq k c) (.bind h1 (.yes rfl (.bind h2 (.yes rfl (decA ?_)))))
      by_cases e : c = 95
      · subst e; rfl
      · rw [decide_eq_false (show ¬ sgnN c from fun h => by rcases h with h | h | h; exact a h; exact b h; exact e h)]
        simp; omega
theorem rlower (c : Nat) : Ans (fun k => ref05_lower k (c : Int)) (decide (lowN c), ()) := by
  by_cases h : 97 ≤ c
  · exact .succ (fun k => ref05_lower_eq k c) (.yes (by simp; omega) (decA (decide_eq_decide.2 (by unfold lowN; omega))))
  · exact .succ (fun k => ref05_lower_eq k c) (.no (by simp; omega) (decA (Eq.symm (decide_eq_false (by unfold lowN; omega)))))
theorem rdigit (c : Nat) : Ans (fun k => ref05_digit k (c : Int)) (decide (48 ≤ c ∧ c ≤ 57), ()) := by
  by_cases h : 48 ≤ c
  · exact .succ (fun k => ref05_digit_eq k c) (.yes (by simp; omega) (decA (decide_eq_decide.2 (by omega))))
  · exact .succ (fun k => ref05_digit_eq k c) (.no (by simp; omega) (decA (Eq.symm (decide_eq_false (by omega)))))
theorem rSign (c : Nat) : Ans (fun k => ref05_Sign k (c : Int)) (decide (sgnN c), ()) := by
  have h1 := rlower c
  have h2 := rdigit c
  by_cases a : lowN c
  · rw [decide_eq_true a] at h1
    rw [decide_eq_true (show sgnN c from .inl a)]
    exact .succ (fun k => ref05_Sign_eq k c) (.bind h1 (.no rfl .const))
  · rw [decide_eq_false a] at h1
    by_cases b : 48 ≤ c ∧ c ≤ 57
    · rw [decide_eq_true b] at h2
      rw [decide_eq_true (show sgnN c from .inr (.inl b))]
      exact .succ (fun k => ref05_Sign_eq k c) (.bind h1 (.yes rfl (.bind h2 (.no rfl .const))))
    · rw [decide_eq_false b] at h2
      refine .succ (fun k => ref05_Sign_eq k c) (.bind h1 (.yes rfl (.bind h2 (.yes rfl (decA ?_)))))
      by_cases e : c = 95
      · subst e; rfl
      · rw [decide_eq_false (show ¬ sgnN c from fun h => by rcases h with h | h | h; exact a h; exact b h; exact e h)]
        simp; omega
section
variable (s : List UInt8) (hs : s.length ≤ 140737488351232)
include hs
theorem rname_bad (h0 : 0 < s.length) (hl : ¬ lowN (s[0]).toNat) : ∀ (d i : Nat), i + d = s.length → Ans2 (fun k n => ref05_Name_l0 k n s (i : Int)) (false, ()) := by
  have fin : Ans (fun k => (bif (decide (((List.length s : Nat) : Int) ≥ 1) == true) then (bif (decide (((List.length s : Nat) : Int) ≤ 32) == true) then ((idx s 0).bind fun c => ((ref05_lower k ((c).toNat : Int)).bind fun r => some (r.1, ()))) else some (false, ())) else some (false, ()))) (false, ()) := by
    refine .yes (by simp; omega) ?_
    by_cases h32 : s.length ≤ 32
    · refine .yes (by simp; omega) (.bind (idxA (i := 0) h0) (.bind (rlower _) ?_))
      rw [decide_eq_false hl]; exact .const
    · exact .no (by simp; omega) .const
  intro d
  induction d with
  | zero => intro i hi; exact .succ (fun k n => ref05_Name_l0_eq k n s i) (.no (nlt_nat (by omega)) fin.two)
  | succ d ih =>
    intro i hi
    have hlt : i < s.length := by omega
    have hsg := rSign (s[i]).toNat
    by_cases hg : sgnN (s[i]).toNat
    · rw [decide_eq_true hg] at hsg
      exact .succ (fun k n => by rw [ref05_Name_l0_eq, wrap_succ (m := 140737488355328) (i := i) (by omega) (by omega)]) (.yes (lt_nat hlt) (.bind (idxA hlt) (.bind hsg (.no rfl (ih (i + 1) (by omega))))))
    · rw [decide_eq_false hg] at hsg
      exact .succ (fun k n => ref05_Name_l0_eq k n s i) (.yes (lt_nat hlt) (.bind (idxA hlt) (.bind hsg (.yes rfl .const))))
theorem name_loop : ∀ (d i : Nat), i + d = s.length → (∀ h : 0 < i, ∀ h' : 0 < s.length, lowN (s[0]).toNat) → ∃ b, Ans2 (fun k n => word_Name_l0 k n s i) (b, ()) ∧ Ans2 (fun k n => ref05_Name_l0 k n s (i : Int)) (b, ()) := by
  intro d
  induction d with
  | zero =>
    intro i hi h0
    have W : ∀ {b}, Ans (fun _ => (bif ((!(s == ([] : Bytes))) == true) then some (decide (((List.length s : Nat) : Int) ≤ 32), ()) else some (false, ()))) b → Ans2 (fun k n => word_Name_l0 k n s i) b := fun h =>
      .succ (fun k n => word_Name_l0_eq k n s i) (.no (decide_eq_false (by show ¬ i < s.length; omega)) h.two)
    have R : ∀ {b}, Ans (fun k => (bif (decide (((List.length s : Nat) : Int) ≥ 1) == true) then (bif (decide (((List.length s : Nat) : Int) ≤ 32) == true) then ((idx s 0).bind fun c => ((ref05_lower k ((c).toNat : Int)).bind fun r => some (r.1, ()))) else some (false, ())) else some (false, ()))) b → Ans2 (fun k n => ref05_Name_l0 k n s (i : Int)) b := fun h =>
      .succ (fun k n => ref05_Name_l0_eq k n s i) (.no (nlt_nat (by omega)) h.two)
    by_cases hl : 0 < s.length
    · have hne : ((!(s == ([] : Bytes))) == true) = true := by
        cases s with
        | nil => simp at hl
        | cons c s => rfl
      have hlow := h0 (by omega) hl
      by_cases h32 : s.length ≤ 32
      · refine ⟨true, W (.yes hne (decA (decide_eq_true (by show ((s.length : Nat) : Int) ≤ 32; omega)))), R (.yes (by simp; omega) (.yes (by simp; omega) (.bind (idxA (i := 0) hl) (.bind (rlower _) ?_))))⟩
        rw [decide_eq_true hlow]; exact .const
      · exact ⟨false, W (.yes hne (decA (decide_eq_false (by show ¬ ((s.length : Nat) : Int) ≤ 32; omega)))), R (.yes (by simp; omega) (.no (by simp; omega) .const))⟩
    · have hnil : s = [] := List.eq_nil_of_length_eq_zero (by omega)
      subst hnil
      exact ⟨false, W (.no rfl .const), R (.no rfl .const)⟩
  | succ d ih =>
    intro i hi h0
    have hlt : i < s.length := by omega
    have hsg := rSign (s[i]).toNat
    have W : ∀ {b}, Ans2 (fun k n => (word_isSign k ((runeC s i : Nat) : Int)).bind fun r => (bif ((!r.1) == false) then (bif ((((i : Nat) : Int) == 0) == true) then ((word_isLower k ((runeC s i : Nat) : Int)).bind fun r1 => (bif (!r1.1) then some (false, ()) else word_Name_l0 k n s (i + runeW s i))) else word_Name_l0 k n s (i + runeW s i)) else some (false, ()))) b → Ans2 (fun k n => word_Name_l0 k n s i) b := fun h =>
      .succ (fun k n => word_Name_l0_eq k n s i) (.yes (decide_eq_true (by show i < s.length; omega)) h)
    have hws := isSign (runeC s i)
    by_cases hg : sgnN (s[i]).toNat
    · have hc : (s[i]).toNat < 128 := by rcases hg with h | h | h; exact Nat.lt_of_le_of_lt h.2 (by omega); omega; omega
      obtain ⟨hr, hw⟩ := rune_lo hlt hc
      rw [decide_eq_true hg] at hsg
      rw [hr, decide_eq_true hg] at hws
      rw [hr, hw] at W
      have R : ∀ {b}, Ans2 (fun k n => ref05_Name_l0 k n s ((i + 1 : Nat) : Int)) b → Ans2 (fun k n => ref05_Name_l0 k n s (i : Int)) b := fun h =>
        .succ (fun k n => by rw [ref05_Name_l0_eq, wrap_succ (m := 140737488355328) (i := i) (by omega) (by omega)]) (.yes (lt_nat hlt) (.bind (idxA hlt) (.bind hsg (.no rfl h))))
      by_cases hz : i = 0
      · subst hz
        have hlo := lower (s[0]).toNat
        by_cases hl : lowN (s[0]).toNat
        · rw [decide_eq_true hl] at hlo
          obtain ⟨b, h1, h2⟩ := ih 1 (by omega) fun _ _ => hl
          exact ⟨b, W (.bind hws (.yes rfl (.yes rfl (.bind hlo (.no rfl h1))))), R h2⟩
        · rw [decide_eq_false hl] at hlo
          exact ⟨false, W (.bind hws (.yes rfl (.yes rfl (.bind hlo (.yes rfl .const))))), R (rname_bad s hs hlt hl d 1 (by omega))⟩
      · obtain ⟨b, h1, h2⟩ := ih (i + 1) (by omega) fun _ h' => h0 (by omega) h'
        exact ⟨b, W (.bind hws (.yes rfl (.no (by simp; omega) h1))), R h2⟩
    · have hn : ¬ sgnN (runeC s i) := by
        by_cases hc : (s[i]).toNat < 128
        · rw [(rune_lo hlt hc).1]; exact hg
        · have := rune_hi hlt (by omega)
          intro h
          rcases h with h | h | h
          · have := h.2; omega
          · omega
          · omega
      rw [decide_eq_false hg] at hsg
      rw [decide_eq_false hn] at hws
      exact ⟨false, W (.bind hws (.no rfl .const)), .succ (fun k n => ref05_Name_l0_eq k n s i) (.yes (lt_nat hlt) (.bind (idxA hlt) (.bind hsg (.yes rfl .const))))⟩
theorem name_ : ∃ b, Ans (fun k => word_Name k s) (b, ()) ∧ Ans (fun k => ref05_Name k s) (b, ()) := by
  obtain ⟨b, h1, h2⟩ := name_loop s hs s.length 0 (by omega) (by omega)
  exact ⟨b, .succ (fun k => word_Name_eq k s) h1.diag, .succ (fun k => ref05_Name_eq k s) h2.diag⟩
end
theorem again_old {s : Bytes} {ks : List Bytes} (h : s ∈ ks) : Ans (fun k => schema_names_again k s ks (tr ks)) (ks, tr ks, true, ()) :=
  .succ (fun k => schema_names_again_eq k s ks (tr ks)) (.yes (by rw [lookM_tr]; simpa using h) .const)
theorem again_new {s : Bytes} {ks : List Bytes} (h : s ∉ ks) : Ans (fun k => schema_names_again k s ks (tr ks)) (ks ++ [s], tr (ks ++ [s]), false, ()) := by
  refine .succ (fun k => schema_names_again_eq k s ks (tr ks)) (.no (by rw [lookM_tr]; simpa using h) ?_)
  rw [putK_new ks s h, putV_new ks s h]; exact .const
/-! ### May a schema be -/
section
variable (s : Sch) (hs : s.fields.length ≤ 16) (hn : ∀ f ∈ s.fields, List.length f.name ≤ 140737488351232)
include hs hn
theorem inner_false (dd : Fld) (i : Nat) (hi : i < 17) {r : Int × Unit} (L : Ans2 (fun k m => ref07_Check_l0 k m s false ((i + 1 : Nat) : Int)) r) : ∀ (d q : Nat), q + d = i → Ans3 (fun k m n => ref07_Check_l1 k m n s dd false (i : Int) (q : Int)) r := by
  intro d
  induction d with
  | zero => intro q hq; exact .succ (fun k m n => by rw [ref07_Check_l1_eq, wrap_succ (m := 17) (i := i) (by omega) (by omega)]) (.no (decide_eq_false (by omega)) L.three)
  | succ d ih => intro q hq; exact .succ (fun k m n => by rw [ref07_Check_l1_eq, wrap_succ (m := 17) (i := q) (by omega) (by omega)]) (.yes (decide_eq_true (by omega)) (.no (show (false == true) = false from rfl) (ih (q + 1) (by omega))))
theorem inner_old (dd : Fld) (i : Nat) (hi : i < s.fields.length) {r : Int × Unit} (L : Ans2 (fun k m => ref07_Check_l0 k m s false ((i + 1 : Nat) : Int)) r) : ∀ (d q : Nat), q + d = i → (∃ p, ∃ h : p < s.fields.length, q ≤ p ∧ p < i ∧ s.fields[p].name = dd.name) → Ans3 (fun k m n => ref07_Check_l1 k m n s dd true (i : Int) (q : Int)) r := by
  intro d
  induction d with
  | zero => intro q hq ⟨p, _, h1, h2, _⟩; omega
  | succ d ih =>
    intro q hq ⟨p, hp, h1, h2, h3⟩
    have hlt : q < s.fields.length := by omega
    refine .succ (fun k m n => by rw [ref07_Check_l1_eq, wrap_succ (m := 17) (i := q) (by omega) (by omega)]) (.yes (decide_eq_true (by omega)) (.yes (show (true == true) = true from rfl) (.bind (idxA hlt) ?_)))
    by_cases e : s.fields[q].name = dd.name
    · rw [show (!(s.fields[q].name == dd.name)) = false by simp [e]]
      exact inner_false s hs hn dd i (by omega) L d (q + 1) (by omega)
    · rw [show (!(s.fields[q].name == dd.name)) = true by simpa using e]
      refine ih (q + 1) (by omega) ⟨p, hp, ?_, h2, h3⟩
      by_cases hqp : q = p
      · subst hqp; exact absurd h3 e
      · omega
theorem inner_new (dd : Fld) (i : Nat) (hi : i < s.fields.length) {r : Int × Unit} (L : Ans2 (fun k m => ref07_Check_l0 k m s true ((i + 1 : Nat) : Int)) r) (hne : ∀ p, ∀ h : p < s.fields.length, p < i → s.fields[p].name ≠ dd.name) : ∀ (d q : Nat), q + d = i → Ans3 (fun k m n => ref07_Check_l1 k m n s dd true (i : Int) (q : Int)) r := by
  intro d
  induction d with
  | zero => intro q hq; exact .succ (fun k m n => by rw [ref07_Check_l1_eq, wrap_succ (m := 17) (i := i) (by omega) (by omega)]) (.no (decide_eq_false (by omega)) L.three)
  | succ d ih =>
    intro q hq
    have hlt : q < s.fields.length := by omega
    refine .succ (fun k m n => by rw [ref07_Check_l1_eq, wrap_succ (m := 17) (i := q) (by omega) (by omega)]) (.yes (decide_eq_true (by omega)) (.yes (show (true == true) = true from rfl) (.bind (idxA hlt) ?_)))
    rw [show (!(s.fields[q].name == dd.name)) = true by simpa using hne q hlt (by omega)]
    exact ih (q + 1) (by omega)
theorem ref_false : ∀ (d i : Nat), i + d = s.fields.length → Ans2 (fun k n => ref07_Check_l0 k n s false (i : Int)) (1, ()) := by
  intro d
  induction d with
  | zero => intro i hi; exact .succ (fun k n => ref07_Check_l0_eq k n s false i) (.no (nlt_nat (by omega)) (.yes rfl .const))
  | succ d ih =>
    intro i hi
    have hlt : i < s.fields.length := by omega
    exact .succ (fun k n => ref07_Check_l0_eq k n s false i) (.yes (lt_nat hlt) (.bind (idxA hlt) (.no rfl (.of (fun k n => ref07_Check_j0_eq k n s _ false i) (inner_false s hs hn _ i (by omega) (ih (i + 1) (by omega)) i 0 (by omega)).diag))))
theorem fields_both (o0 : List Bytes) (o1 : List Bool) : ∀ (d i : Nat), i + d = s.fields.length →
    ∃ ks2 vs2 r e, Ans2 (fun k n => api_Field_4_l0 k n s.fields o0 o1 (i : Int) ((s.fields.take i).map (·.name)) (tr ((s.fields.take i).map (·.name)))) (ks2, vs2, r, ()) ∧ Ans2 (fun k n => ref07_Check_l0 k n s true (i : Int)) (e, ()) ∧ ((r ≥ 0 ∧ e = 1) ∨ (r < 0 ∧ e = 0)) := by
  intro d
  induction d with
  | zero =>
    intro i hi
    exact ⟨_, _, _, _, .succ (fun k n => api_Field_4_l0_eq k n s.fields o0 o1 i _ _) (.no (nlt_nat (by omega)) .const), .succ (fun k n => ref07_Check_l0_eq k n s true i) (.no (nlt_nat (by omega)) (.no rfl .const)), .inr ⟨by omega, rfl⟩⟩
  | succ d ih =>
    intro i hi
    have hlt : i < s.fields.length := by omega
    obtain ⟨b, hb1, hb2⟩ := name_ s.fields[i].name (hn _ (List.getElem_mem hlt))
    have F := ref_false s hs hn d (i + 1) (by omega)
    have hks : (s.fields.take (i + 1)).map (·.name) = (s.fields.take i).map (·.name) ++ [s.fields[i].name] := by rw [List.take_succ_eq_append_getElem hlt, List.map_append]; rfl
    generalize hkk : (s.fields.take i).map (·.name) = ks at *
    have bad : Ans (fun k => schema_Check_1 k s.fields[i] ks (tr ks)) (ks, tr ks, true, ()) → Ans2 (fun k n => ref07_Check_l0 k n s true (i : Int)) (1, ()) → ∃ ks2 vs2 r e, Ans2 (fun k n => api_Field_4_l0 k n s.fields o0 o1 (i : Int) ks (tr ks)) (ks2, vs2, r, ()) ∧ Ans2 (fun k n => ref07_Check_l0 k n s true (i : Int)) (e, ()) ∧ ((r ≥ 0 ∧ e = 1) ∨ (r < 0 ∧ e = 0)) := fun h1 h2 =>
      ⟨_, _, _, _, .succ (fun k n => api_Field_4_l0_eq k n s.fields o0 o1 i ks (tr ks)) (.yes (lt_nat hlt) (.bind (idxA hlt) (.bind h1 (.yes rfl .const)))), h2, .inl ⟨by omega, rfl⟩⟩
    have J : Ans2 (fun k n => ref07_Check_j0 k n s s.fields[i] false (i : Int)) (1, ()) := .of (fun k n => ref07_Check_j0_eq k n s _ false i) (inner_false s hs hn _ i (by omega) F i 0 (by omega)).diag
    cases b with
    | false => exact bad (.succ (fun k => schema_Check_1_eq k _ ks (tr ks)) (.bind hb1 (.no rfl .const))) (.succ (fun k n => ref07_Check_l0_eq k n s true i) (.yes (lt_nat hlt) (.bind (idxA hlt) (.yes rfl (.bind hb2 (.no rfl J))))))
    | true =>
      by_cases h1 : s.fields[i].k < 1
      · exact bad (.succ (fun k => schema_Check_1_eq k _ ks (tr ks)) (.bind hb1 (.yes rfl (.no (by simp [h1]) .const)))) (.succ (fun k n => ref07_Check_l0_eq k n s true i) (.yes (lt_nat hlt) (.bind (idxA hlt) (.yes rfl (.bind hb2 (.yes rfl (.no (by simp; omega) J)))))))
      · have e1 : (decide (s.fields[i].k < 1) == false) = true := by simp [h1]
        have e1' : (decide (s.fields[i].k ≥ 1) == true) = true := by simp; omega
        by_cases h3 : s.fields[i].k > 3
        · refine bad (.succ (fun k => schema_Check_1_eq k _ ks (tr ks)) (.bind hb1 (.yes rfl (.yes e1 (.no (by simp [h3]) .const))))) (.succ (fun k n => ref07_Check_l0_eq k n s true i) (.yes (lt_nat hlt) (.bind (idxA hlt) (.yes rfl (.bind hb2 (.yes rfl (.yes e1' ?_)))))))
          rw [show decide (s.fields[i].k ≤ 3) = false from decide_eq_false (by omega)]
          exact J
        · have e3 : (decide (s.fields[i].k > 3) == false) = true := by simp [h3]
          have R : ∀ {e}, Ans2 (fun k n => ref07_Check_j0 k n s s.fields[i] true (i : Int)) e → Ans2 (fun k n => ref07_Check_l0 k n s true (i : Int)) e := fun h => by
            refine .succ (fun k n => ref07_Check_l0_eq k n s true i) (.yes (lt_nat hlt) (.bind (idxA hlt) (.yes rfl (.bind hb2 (.yes rfl (.yes e1' ?_))))))
            rw [show decide (s.fields[i].k ≤ 3) = true from decide_eq_true (by omega)]
            exact h
          by_cases hm : s.fields[i].name ∈ ks
          · refine bad (.succ (fun k => schema_Check_1_eq k _ ks (tr ks)) (.bind hb1 (.yes rfl (.yes e1 (.yes e3 (.bind (again_old hm) .const)))))) (R (.of (fun k n => ref07_Check_j0_eq k n s _ true i) (inner_old s hs hn _ i hlt F i 0 (by omega) ?_).diag))
            rw [← hkk] at hm
            obtain ⟨f, hf, hfn⟩ := List.mem_map.1 hm
            obtain ⟨p, hp, hpf⟩ := List.mem_iff_getElem.1 hf
            rw [List.length_take] at hp
            rw [List.getElem_take] at hpf
            exact ⟨p, by omega, by omega, by omega, by rw [hpf]; exact hfn⟩
          · obtain ⟨ks2, vs2, r, e, hr, he, hre⟩ := ih (i + 1) (by omega)
            rw [hks] at hr
            have hck : Ans (fun k => schema_Check_1 k s.fields[i] ks (tr ks)) (ks ++ [s.fields[i].name], tr (ks ++ [s.fields[i].name]), false, ()) := .succ (fun k => schema_Check_1_eq k _ ks (tr ks)) (.bind hb1 (.yes rfl (.yes e1 (.yes e3 (.bind (again_new hm) .const)))))
            refine ⟨ks2, vs2, r, e, .succ (fun k n => by rw [api_Field_4_l0_eq, wrap_succ (m := 17) (i := i) (by omega) (by omega)]) (.yes (lt_nat hlt) (.bind (idxA hlt) (.bind hck (.no rfl hr)))), R (.of (fun k n => ref07_Check_j0_eq k n s _ true i) (inner_new s hs hn _ i hlt he (fun p hp hpi e => hm ?_) i 0 (by omega)).diag), hre⟩
            rw [← hkk]
            refine List.mem_map.2 ⟨s.fields[p], ?_, e⟩
            exact List.mem_iff_getElem.2 ⟨p, by rw [List.length_take]; omega, by rw [List.getElem_take]⟩
end
structure Small (s : Sch) : Prop where
  name : List.length s.name ≤ 140737488351232
  len : s.fields.length ≤ 140737488351232
  names : ∀ f ∈ s.fields, List.length f.name ≤ 140737488351232
theorem check (s : Sch) (h : Small s) : ∃ e, Ans (fun k => schema_Check k s) (e, ()) ∧ Ans (fun k => ref07_Check k s) (e, ()) := by
  by_cases hl : s.fields.length ≤ 16
  · obtain ⟨b, hb1, hb2⟩ := name_ s.name h.name
    cases b with
    | false => exact ⟨1, .succ (fun k => schema_Check_eq k s) (.no (decide_eq_false (by omega)) (.bind hb1 (.no rfl .const))), .succ (fun k => ref07_Check_eq k s) (.no (decide_eq_false (by omega)) (.bind hb2 (ref_false s hl h.names s.fields.length 0 (by omega)).diag))⟩
    | true =>
      obtain ⟨ks2, vs2, r, e, hr, he, hre⟩ := fields_both s hl h.names [] [] s.fields.length 0 (by omega)
      have h3 : Ans (fun k => api_Field_4 k s.fields [] []) (ks2, vs2, r, ()) := .succ (fun k => api_Field_4_eq k s.fields [] []) hr.diag
      have h2 : Ans (fun k => api_Field_2 k s.fields [] []) (ks2, vs2, decide (r ≥ 0), ()) := .succ (fun k => api_Field_2_eq k s.fields [] []) (.bind h3 .const)
      refine ⟨e, ?_, .succ (fun k => ref07_Check_eq k s) (.no (decide_eq_false (by omega)) (.bind hb2 he.diag))⟩
      rcases hre with ⟨h0, rfl⟩ | ⟨h0, rfl⟩
      · exact .succ (fun k => schema_Check_eq k s) (.no (decide_eq_false (by omega)) (.bind hb1 (.yes rfl (.bind h2 (.yes (decide_eq_true h0) .const)))))
      · exact .succ (fun k => schema_Check_eq k s) (.no (decide_eq_false (by omega)) (.bind hb1 (.yes rfl (.bind h2 (.no (decide_eq_false (by omega)) .const)))))
  · exact ⟨2, .succ (fun k => schema_Check_eq k s) (.yes (decide_eq_true (by omega)) .const), .succ (fun k => ref07_Check_eq k s) (.yes (decide_eq_true (by omega)) .const)⟩
end Go.Ev.HpST
