/-
  SchemaBack, the plain law: names, what may be, what is written.
-/
import Derived.Test.YtpkhhaolkfaoaaaHpSKP
import Derived.Test.YtpkhhaolkfaoaaaHpAns3
set_option linter.unusedVariables false
set_option linter.unusedSectionVars false
namespace Go.Ev.HpSK
/-! ### Names -/
theorem lower (r : Int) : ∃ b, Ans (fun k => word_isLower k r) (b, ()) := by
  by_cases h : r ≥ 97
  · exact ⟨_, .succ (fun k => word_isLower_eq k r) (.yes (by simp; omega) .const)⟩
  · exact ⟨_, .succ (fun k => word_isLower_eq k r) (.no (by simp; omega) .const)⟩
theorem digit (r : Int) : ∃ b, Ans (fun k => word_isDigit k r) (b, ()) := by
  by_cases h : r ≥ 48
  · exact ⟨_, .succ (fun k => word_isDigit_eq k r) (.yes (by simp; omega) .const)⟩
  · exact ⟨_, .succ (fun k => word_isDigit_eq k r) (.no (by simp; omega) .const)⟩
theorem isSign (r : Int) : ∃ b, Ans (fun k => word_isSign k r) (b, ()) := by
  obtain ⟨b1, h1⟩ := lower r
  obtain ⟨b2, h2⟩ := digit r
  cases b1 with
  | true => exact ⟨_, .succ (fun k => word_isSign_eq k r) (.bind h1 (.no rfl .const))⟩
  | false =>
    cases b2 with
    | true => exact ⟨_, .succ (fun k => word_isSign_eq k r) (.bind h1 (.yes rfl (.bind h2 (.no rfl .const))))⟩
    | false => exact ⟨_, .succ (fun k => word_isSign_eq k r) (.bind h1 (.yes rfl (.bind h2 (.yes rfl .const))))⟩
theorem name_loop (s : Bytes) : ∀ (d pos : Nat), List.length s ≤ pos + d → ∃ b, Ans2 (fun k n => word_Name_l0 k n s pos) (b, ()) ∧ (b = true → List.length s ≤ 32)
  | d, pos, hd => by
    by_cases hlt : pos < List.length s
    · match d, hd with
      | 0, hd => omega
      | d + 1, hd =>
        have hw := runeW_pos s pos
        obtain ⟨b, hb, hb'⟩ := name_loop s d (pos + runeW s pos) (by omega)
        obtain ⟨b1, h1⟩ := isSign ((runeC s pos : Nat) : Int)
        obtain ⟨b2, h2⟩ := lower ((runeC s pos : Nat) : Int)
        have L : ∀ {r}, Ans2 (fun k n => (word_isSign k ((runeC s pos : Nat) : Int)).bind fun r => (bif ((!r.1) == false) then (bif ((((pos : Nat) : Int) == 0) == true) then ((word_isLower k ((runeC s pos : Nat) : Int)).bind fun r1 => (bif (!r1.1) then some (false, ()) else word_Name_l0 k n s (pos + runeW s pos))) else word_Name_l0 k n s (pos + runeW s pos)) else some (false, ()))) r → Ans2 (fun k n => word_Name_l0 k n s pos) r :=
          fun h => .succ (fun k n => word_Name_l0_eq k n s pos) (.yes (decide_eq_true hlt) h)
        cases b1 with
        | false => exact ⟨false, L (.bind h1 (.no rfl .const)), by simp⟩
        | true =>
          by_cases h0 : pos = 0
          · have e0 : ((((pos : Nat) : Int) == 0) == true) = true := by simp [h0]
            cases b2 with
            | false => exact ⟨false, L (.bind h1 (.yes rfl (.yes e0 (.bind h2 (.yes rfl .const))))), by simp⟩
            | true => exact ⟨b, L (.bind h1 (.yes rfl (.yes e0 (.bind h2 (.no rfl hb))))), hb'⟩
          · have e0 : ((((pos : Nat) : Int) == 0) == true) = false := by simp; omega
            exact ⟨b, L (.bind h1 (.yes rfl (.no e0 hb))), hb'⟩
    · have L : ∀ {r}, Ans2 (fun _ _ => (bif ((!(s == ([] : Bytes))) == true) then some (decide (((List.length s : Nat) : Int) ≤ 32), ()) else some (false, ()))) r → Ans2 (fun k n => word_Name_l0 k n s pos) r :=
        fun h => .succ (fun k n => word_Name_l0_eq k n s pos) (.no (decide_eq_false hlt) h)
      cases hc : ((!(s == ([] : Bytes))) == true) with
      | true => exact ⟨_, L (.yes hc .const), fun h => by have := of_decide_eq_true h; omega⟩
      | false => exact ⟨_, L (.no hc .const), by simp⟩
theorem name_ (s : Bytes) : ∃ b, Ans (fun k => word_Name k s) (b, ()) ∧ (b = true → List.length s ≤ 32) := by
  obtain ⟨b, h, h'⟩ := name_loop s (List.length s) 0 (by omega)
  exact ⟨b, .succ (fun k => word_Name_eq k s) h.diag, h'⟩
theorem again_old {s : Bytes} {ks : List Bytes} (h : s ∈ ks) : Ans (fun k => schema_names_again k s ks (tr ks)) (ks, tr ks, true, ()) :=
  .succ (fun k => schema_names_again_eq k s ks (tr ks)) (.yes (by rw [lookM_tr]; simpa using h) .const)
theorem again_new {s : Bytes} {ks : List Bytes} (h : s ∉ ks) : Ans (fun k => schema_names_again k s ks (tr ks)) (ks ++ [s], tr (ks ++ [s]), false, ()) := by
  refine .succ (fun k => schema_names_again_eq k s ks (tr ks)) (.no (by rw [lookM_tr]; simpa using h) ?_)
  rw [putK_new ks s h, putV_new ks s h]; exact .const
def OkF (f : Fld) : Prop := List.length f.name ≤ 32 ∧ 1 ≤ f.k ∧ f.k ≤ 3
def OkS (s : Sch) : Prop := List.length s.name ≤ 32 ∧ s.fields.length ≤ 16 ∧ ∀ f ∈ s.fields, OkF f
/-- Is a field wrong? -/
theorem wrong (f : Fld) (ks : List Bytes) : Ans (fun k => schema_Check_1 k f ks (tr ks)) (ks, tr ks, true, ()) ∨ (OkF f ∧ Ans (fun k => schema_Check_1 k f ks (tr ks)) (ks ++ [f.name], tr (ks ++ [f.name]), false, ())) := by
  obtain ⟨b, hb, hb'⟩ := name_ f.name
  cases b with
  | false => exact .inl (.succ (fun k => schema_Check_1_eq k f ks (tr ks)) (.bind hb (.no rfl .const)))
  | true =>
    by_cases h1 : f.k < 1
    · exact .inl (.succ (fun k => schema_Check_1_eq k f ks (tr ks)) (.bind hb (.yes rfl (.no (by simp [h1]) .const))))
    · have e1 : (decide (f.k < 1) == false) = true := by simp [h1]
      by_cases h3 : f.k > 3
      · exact .inl (.succ (fun k => schema_Check_1_eq k f ks (tr ks)) (.bind hb (.yes rfl (.yes e1 (.no (by simp [h3]) .const)))))
      · have e3 : (decide (f.k > 3) == false) = true := by simp [h3]
        by_cases hm : f.name ∈ ks
        · exact .inl (.succ (fun k => schema_Check_1_eq k f ks (tr ks)) (.bind hb (.yes rfl (.yes e1 (.yes e3 (.bind (again_old hm) .const))))))
        · exact .inr ⟨⟨hb' rfl, by omega, by omega⟩, .succ (fun k => schema_Check_1_eq k f ks (tr ks)) (.bind hb (.yes rfl (.yes e1 (.yes e3 (.bind (again_new hm) .const)))))⟩
theorem fields_loop (s : List Fld) (hs : s.length ≤ 16) (o0 : List Bytes) (o1 : List Bool) : ∀ (d i : Nat) (ks : List Bytes), i + d = s.length →
    ∃ ks2 vs2 r, Ans2 (fun k n => api_Field_3_l0 k n s o0 o1 (i : Int) ks (tr ks)) (ks2, vs2, r, ()) ∧ (r < 0 → ∀ f ∈ s.drop i, OkF f) := by
  intro d
  induction d with
  | zero =>
    intro i ks hi
    refine ⟨_, _, _, .succ (fun k n => api_Field_3_l0_eq k n s o0 o1 i ks (tr ks)) (.no (nlt_nat (by omega)) .const), fun _ => ?_⟩
    rw [List.drop_of_length_le (by omega)]; simp
  | succ d ih =>
    intro i ks hi
    have hlt : i < s.length := by omega
    rcases wrong s[i] ks with h | ⟨hn, h⟩
    · exact ⟨_, _, _, .succ (fun k n => api_Field_3_l0_eq k n s o0 o1 i ks (tr ks)) (.yes (lt_nat hlt) (.bind (idxA hlt) (.bind h (.yes rfl .const)))), fun hr => by omega⟩
    · obtain ⟨ks2, vs2, r, hr, hf⟩ := ih (i + 1) (ks ++ [s[i].name]) (by omega)
      refine ⟨ks2, vs2, r, .succ (fun k n => by rw [api_Field_3_l0_eq, wrap_succ (m := 17) (i := i) (by omega) (by omega)]) (.yes (lt_nat hlt) (.bind (idxA hlt) (.bind h (.no rfl hr)))), fun h0 => ?_⟩
      rw [List.drop_eq_getElem_cons hlt]
      intro f hf'
      rcases List.mem_cons.1 hf' with rfl | hf'
      · exact hn
      · exact hf h0 f hf'
theorem check (s : Sch) : ∃ e, Ans (fun k => schema_Check k s) (e, ()) ∧ (e = 0 → OkS s) := by
  by_cases hl : s.fields.length ≤ 16
  · obtain ⟨b, hb, hb'⟩ := name_ s.name
    cases b with
    | false => exact ⟨1, .succ (fun k => schema_Check_eq k s) (.no (decide_eq_false (by omega)) (.bind hb (.no rfl .const))), by simp⟩
    | true =>
      obtain ⟨ks2, vs2, r, hr, hf⟩ := fields_loop s.fields hl [] [] s.fields.length 0 [] (by omega)
      have h3 : Ans (fun k => api_Field_3 k s.fields [] []) (ks2, vs2, r, ()) := .succ (fun k => api_Field_3_eq k s.fields [] []) hr.diag
      have h2 : Ans (fun k => api_Field k s.fields [] []) (ks2, vs2, decide (r ≥ 0), ()) := .succ (fun k => api_Field_eq k s.fields [] []) (.bind h3 .const)
      by_cases h0 : r ≥ 0
      · exact ⟨1, .succ (fun k => schema_Check_eq k s) (.no (decide_eq_false (by omega)) (.bind hb (.yes rfl (.bind h2 (.yes (decide_eq_true h0) .const))))), by simp⟩
      · exact ⟨0, .succ (fun k => schema_Check_eq k s) (.no (decide_eq_false (by omega)) (.bind hb (.yes rfl (.bind h2 (.no (decide_eq_false h0) .const))))), fun _ => ⟨hb' rfl, hl, hf (by omega)⟩⟩
  · exact ⟨2, .succ (fun k => schema_Check_eq k s) (.yes (decide_eq_true (by omega)) .const), by simp⟩
/-! ### What is written -/
def encT (t : List UInt8) : List UInt8 := enc t.length ++ t
def encF (f : Fld) : List UInt8 := encT f.name ++ [UInt8.ofNat (Int.toNat f.k)]
def encFs (l : List Fld) : List UInt8 := l.flatMap encF
def encS (s : Sch) : List UInt8 := encT s.name ++ (enc s.fields.length ++ encFs s.fields)
theorem encT_len {t : List UInt8} (h : t.length ≤ 32) : (encT t).length ≤ 42 := by
  have := enc_ten (n := t.length) (by omega)
  unfold encT; rw [List.length_append]; omega
theorem encF_len {f : Fld} (h : OkF f) : (encF f).length ≤ 43 := by
  have := encT_len (t := f.name) h.1
  unfold encF; rw [List.length_append]; simp; omega
theorem encFs_len : ∀ (l : List Fld), (∀ f ∈ l, OkF f) → (encFs l).length ≤ 43 * l.length
  | [], _ => by simp [encFs]
  | f :: l, h => by
    have h1 := encFs_len l fun w hw => h w (by simp [hw])
    have h2 := encF_len (h f (by simp))
    simp only [encFs, List.flatMap_cons, List.length_append, List.length_cons] at h1 ⊢
    omega
theorem encS_len {s : Sch} (h : OkS s) : (encS s).length ≤ 1000 := by
  have h1 := encT_len (t := s.name) h.1
  have h2 := encFs_len s.fields h.2.2
  have h3 := enc_ten (n := s.fields.length) (by have := h.2.1; omega)
  have h4 := h.2.1
  unfold encS; rw [List.length_append, List.length_append]; omega
theorem t2r {s : List UInt8} (hs : s.length ≤ 1000) : Ans (fun k => wire_Writer_Text_2 k s true 65536) (Sum.inr (true, 65536, encT s, 0, ())) := by
  have h := text2 (M := 65536) (by omega) s (by omega)
  have := enc_ten (n := s.length) (by omega)
  rw [wres, if_pos (by rw [List.length_append]; omega)] at h
  exact h
theorem t3r {s : List UInt8} (hs : s.length ≤ 1000) {b : List UInt8} (hb : b.length ≤ 60000) : Ans (fun k => wire_Writer_Text_3 k s true 65536 b) (Sum.inr (true, 65536, b, b ++ encT s, 0, ())) := by
  have h := text3 (M := 65536) (by omega) (b := b) (by omega) s (by omega)
  have := enc_ten (n := s.length) (by omega)
  rw [wres3, if_pos (by rw [List.length_append]; omega)] at h
  exact h
theorem n3r {n : Nat} (hn : n ≤ 1000) {b : List UInt8} (hb : b.length ≤ 60000) : Ans (fun k => wire_Writer_Num_3 k (n : Int) true 65536 b) (Sum.inr (true, 65536, b, b ++ enc n, 0, ())) := by
  have h := num3 (M := 65536) (n := n) (by omega) (by omega) (b := b) (by omega)
  have := enc_ten (n := n) (by omega)
  rw [wres3, if_pos (by omega)] at h
  exact h
theorem b3r (c : Int) {b : List UInt8} (hb : b.length ≤ 60000) : Ans (fun k => wire_Writer_Byte_3 k c true 65536 b) (Sum.inr (true, 65536, b, b ++ [UInt8.ofNat (Int.toNat c)], 0, ())) := by
  have h := byte3 (M := 65536) (by omega) (b := b) (by omega) c
  rw [wres3, if_pos (by simp; omega)] at h
  exact h
theorem put_fields (s : Sch) (hs : OkS s) (p : List UInt8) (hp : p.length ≤ 60) : ∀ (d i : Nat), i + d = s.fields.length →
    Ans2 (fun k n => schema_Put_2_l1 k n s true 65536 (i : Int) true 65536 (p ++ encFs (s.fields.take i))) (Sum.inr (true, 65536, p ++ encFs s.fields, 0, ())) := by
  intro d
  induction d with
  | zero =>
    intro i hi
    rw [List.take_of_length_le (by omega)]
    exact .succ (fun k n => schema_Put_2_l1_eq k n s true 65536 i true 65536 _) (.no (nlt_nat (by omega)) .const)
  | succ d ih =>
    intro i hi
    have hlt : i < s.fields.length := by omega
    have h16 := hs.2.1
    have hF := hs.2.2 _ (List.getElem_mem hlt)
    obtain ⟨c, hc⟩ : ∃ c : Nat, s.fields[i].k = (c : Int) := ⟨(s.fields[i].k).toNat, by have := hF.2.1; omega⟩
    have hc3 := hF.2.2
    have hl := encFs_len (s.fields.take i) fun f hf => hs.2.2 f (List.mem_of_mem_take hf)
    rw [List.length_take] at hl
    have hm : min i s.fields.length ≤ 16 := by omega
    have hbl : (p ++ encFs (s.fields.take i)).length ≤ 2000 := by rw [List.length_append]; omega
    have hT := encT_len hF.1
    have hT2 : (p ++ encFs (s.fields.take i) ++ encT s.fields[i].name).length ≤ 3000 := by rw [List.length_append]; omega
    have e : p ++ encFs (s.fields.take (i + 1)) = p ++ encFs (s.fields.take i) ++ encT s.fields[i].name ++ [UInt8.ofNat (Int.toNat (IntKind.u8.wrap s.fields[i].k))] := by
      rw [List.take_succ_eq_append_getElem hlt, hc, u8_id (n := c) (by omega)]
      simp only [encFs, List.flatMap_append, List.flatMap_cons, List.flatMap_nil, encF, hc, List.append_assoc, List.append_nil]
    have L := ih (i + 1) (by omega)
    rw [e] at L
    refine .succ (fun k n => by rw [schema_Put_2_l1_eq, wrap_succ (m := 17) (i := i) (by omega) (by omega)]) (.yes (lt_nat hlt) (.bind (idxA hlt) (Ans2.elimR (t3r (s := s.fields[i].name) (b := p ++ encFs (s.fields.take i)) (by have := hF.1; omega) (by omega)) (.no rfl (Ans2.elimR (b3r (IntKind.u8.wrap s.fields[i].k) (b := p ++ encFs (s.fields.take i) ++ encT s.fields[i].name) (by omega)) (.no rfl L))))))
theorem put_ok {s : Sch} (hs : OkS s) (hc : Ans (fun k => schema_Check k s) (0, ())) : Ans (fun k => schema_Put_2 k s true 65536) (Sum.inr (true, 65536, encS s, 0, ())) := by
  have h16 := hs.2.1
  have hT := encT_len hs.1
  have h10 := enc_ten (n := s.fields.length) (by omega)
  have L := put_fields s hs (encT s.name ++ enc s.fields.length) (by rw [List.length_append]; omega) s.fields.length 0 (by omega)
  rw [show encFs (s.fields.take 0) = [] by simp [encFs], List.append_nil, List.append_assoc] at L
  refine .succ (fun k => by rw [schema_Put_2_eq, u64_id (n := List.length s.fields) (by omega)]) (.bind hc (.no rfl (.elimR (t2r (s := s.name) (by have := hs.1; omega)) (.no rfl (.elimR (n3r (n := s.fields.length) (b := encT s.name) (by omega) (by omega)) (.no rfl L.diag))))))
theorem put_no {s : Sch} {e : Int} (he : e ≠ 0) (hc : Ans (fun k => schema_Check k s) (e, ())) : Ans (fun k => schema_Put_2 k s true 65536) (Sum.inl (true, 65536, e, ())) :=
  .succ (fun k => schema_Put_2_eq k s true 65536) (.bind hc (.yes (by show (e != 0) = true; simpa using he) .const))
end Go.Ev.HpSK
