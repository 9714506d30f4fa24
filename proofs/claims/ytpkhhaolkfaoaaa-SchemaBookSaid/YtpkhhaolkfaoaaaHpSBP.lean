/-
  SchemaBook, the plain law.
-/
import Derived.Test.YtpkhhaolkfaoaaaHpSB
import Derived.Test.YtpkhhaolkfaoaaaHpAns3
set_option linter.unusedVariables false
set_option linter.unusedSectionVars false
namespace Go.Ev.HpSB
theorem awake_eq (k : Nat) : law07_awake (k + 20) = some (true, ()) := by kernel_rfl
theorem awake : Ans (fun k => law07_awake k) (true, ()) := .plus 20 awake_eq
theorem awakes : Ans (fun k => (law07_awake k).bind fun r => some (r.1, ())) (true, ()) := .bind awake .const
theorem idxA {α : Type} {xs : List α} {i : Nat} (h : i < xs.length) : Ans (fun _ => idx xs ((i : Nat) : Int)) xs[i] := .of (fun _ => idx_nat h) .const
/-! ### Names -/
theorem lower (r : Int) : ∃ b, Ans (fun k => word_isLower k r) (b, ()) := by
  by_cases h : r ≥ 97
  · exact ⟨_, .succ (fun k => word_isLower_eq k r) (.yes (by simp; omega) .const)⟩
  · exact ⟨_, .succ (fun k => word_isLower_eq k r) (.no (by simp; omega) .const)⟩
theorem digit (r : Int) : ∃ b, Ans (fun k => word_isDigit k r) (b, ()) := by
  by_cases h : r ≥ 48
  · exact ⟨_, .succ (fun k => word_isDigit_eq k r) (.yes (by simp; omega) .const)⟩
  · exact ⟨_, .succ (fun k => word_isDigit_eq k r) (.no (by simp; omega) .const)⟩
theorem isSign (r : Int) : ∃ b, Ans (fun k => word_isSign k r) (b, ()) := by
  obtain ⟨b1, h1⟩ := lower r
  obtain ⟨b2, h2⟩ := digit r
  cases b1 with
  | true => exact ⟨_, .succ (fun k => word_isSign_eq k r) (.bind h1 (.no rfl .const))⟩
  | false =>
    cases b2 with
    | true => exact ⟨_, .succ (fun k => word_isSign_eq k r) (.bind h1 (.yes rfl (.bind h2 (.no rfl .const))))⟩
    | false => exact ⟨_, .succ (fun k => word_isSign_eq k r) (.bind h1 (.yes rfl (.bind h2 (.yes rfl .const))))⟩
theorem name_loop (s : Bytes) : ∀ (d pos : Nat), List.length s ≤ pos + d → ∃ b, Ans2 (fun k n => word_Name_l0 k n s pos) (b, ())
  | d, pos, hd => by
    by_cases hlt : pos < List.length s
    · match d, hd with
      | 0, hd => omega
      | d + 1, hd =>
        have hw := runeW_pos s pos
        obtain ⟨b, hb⟩ := name_loop s d (pos + runeW s pos) (by omega)
        obtain ⟨b1, h1⟩ := isSign ((runeC s pos : Nat) : Int)
        obtain ⟨b2, h2⟩ := lower ((runeC s pos : Nat) : Int)
        have L : ∀ {r}, Ans2 (fun k n => (word_isSign k ((runeC s pos : Nat) : Int)).bind fun r => (bif ((!r.1) == false) then (bif ((((pos : Nat) : Int) == 0) == true) then ((word_isLower k ((runeC s pos : Nat) : Int)).bind fun r1 => (bif (!r1.1) then some (false, ()) else word_Name_l0 k n s (pos + runeW s pos))) else word_Name_l0 k n s (pos + runeW s pos)) else some (false, ()))) r → Ans2 (fun k n => word_Name_l0 k n s pos) r :=
          fun h => .succ (fun k n => word_Name_l0_eq k n s pos) (.yes (decide_eq_true hlt) h)
        cases b1 with
        | false => exact ⟨false, L (.bind h1 (.no rfl .const))⟩
        | true =>
          by_cases h0 : pos = 0
          · have e0 : ((((pos : Nat) : Int) == 0) == true) = true := by simp [h0]
            cases b2 with
            | false => exact ⟨false, L (.bind h1 (.yes rfl (.yes e0 (.bind h2 (.yes rfl .const)))))⟩
            | true => exact ⟨b, L (.bind h1 (.yes rfl (.yes e0 (.bind h2 (.no rfl hb)))))⟩
          · have e0 : ((((pos : Nat) : Int) == 0) == true) = false := by simp; omega
            exact ⟨b, L (.bind h1 (.yes rfl (.no e0 hb)))⟩
    · have L : ∀ {r}, Ans2 (fun _ _ => (bif ((!(s == ([] : Bytes))) == true) then some (decide (((List.length s : Nat) : Int) ≤ 32), ()) else some (false, ()))) r → Ans2 (fun k n => word_Name_l0 k n s pos) r :=
        fun h => .succ (fun k n => word_Name_l0_eq k n s pos) (.no (decide_eq_false hlt) h)
      cases hc : ((!(s == ([] : Bytes))) == true) with
      | true => exact ⟨_, L (.yes hc .const)⟩
      | false => exact ⟨_, L (.no hc .const)⟩
theorem name_ (s : Bytes) : ∃ b, Ans (fun k => word_Name k s) (b, ()) := by
  obtain ⟨b, h⟩ := name_loop s (List.length s) 0 (by omega)
  exact ⟨b, .succ (fun k => word_Name_eq k s) h.diag⟩
theorem again_old {s : Bytes} {ks : List Bytes} (h : s ∈ ks) : Ans (fun k => schema_names_again k s ks (tr ks)) (ks, tr ks, true, ()) :=
  .succ (fun k => schema_names_again_eq k s ks (tr ks)) (.yes (by rw [lookM_tr]; simpa using h) .const)
theorem again_new {s : Bytes} {ks : List Bytes} (h : s ∉ ks) : Ans (fun k => schema_names_again k s ks (tr ks)) (ks ++ [s], tr (ks ++ [s]), false, ()) := by
  refine .succ (fun k => schema_names_again_eq k s ks (tr ks)) (.no (by rw [lookM_tr]; simpa using h) ?_)
  rw [putK_new ks s h, putV_new ks s h]; exact .const
/-- Is a field wrong? -/
theorem wrong (f : Fld) (ks : List Bytes) : Ans (fun k => schema_Check_1 k f ks (tr ks)) (ks, tr ks, true, ()) ∨ (f.name ∉ ks ∧ Ans (fun k => schema_Check_1 k f ks (tr ks)) (ks ++ [f.name], tr (ks ++ [f.name]), false, ())) := by
  obtain ⟨b, hb⟩ := name_ f.name
  cases b with
  | false => exact .inl (.succ (fun k => schema_Check_1_eq k f ks (tr ks)) (.bind hb (.no rfl .const)))
  | true =>
    by_cases h1 : f.k < 1
    · exact .inl (.succ (fun k => schema_Check_1_eq k f ks (tr ks)) (.bind hb (.yes rfl (.no (by simp [h1]) .const))))
    · have e1 : (decide (f.k < 1) == false) = true := by simp [h1]
      by_cases h3 : f.k > 3
      · exact .inl (.succ (fun k => schema_Check_1_eq k f ks (tr ks)) (.bind hb (.yes rfl (.yes e1 (.no (by simp [h3]) .const)))))
      · have e3 : (decide (f.k > 3) == false) = true := by simp [h3]
        by_cases hm : f.name ∈ ks
        · exact .inl (.succ (fun k => schema_Check_1_eq k f ks (tr ks)) (.bind hb (.yes rfl (.yes e1 (.yes e3 (.bind (again_old hm) .const))))))
        · exact .inr ⟨hm, .succ (fun k => schema_Check_1_eq k f ks (tr ks)) (.bind hb (.yes rfl (.yes e1 (.yes e3 (.bind (again_new hm) .const)))))⟩
theorem fields_loop (s : List Fld) (hs : s.length ≤ 16) (o0 : List Bytes) (o1 : List Bool) : ∀ (d i : Nat) (ks : List Bytes), i + d = s.length →
    ∃ ks2 vs2 r, Ans2 (fun k n => api_Field_3_l0 k n s o0 o1 (i : Int) ks (tr ks)) (ks2, vs2, r, ()) ∧ (r < 0 → Fresh ks ((s.drop i).map (·.name))) := by
  intro d
  induction d with
  | zero =>
    intro i ks hi
    refine ⟨_, _, _, .succ (fun k n => api_Field_3_l0_eq k n s o0 o1 i ks (tr ks)) (.no (nlt_nat (by omega)) .const), fun _ => ?_⟩
    rw [List.drop_of_length_le (by omega)]; exact trivial
  | succ d ih =>
    intro i ks hi
    have hlt : i < s.length := by omega
    rcases wrong s[i] ks with h | ⟨hn, h⟩
    · exact ⟨_, _, _, .succ (fun k n => api_Field_3_l0_eq k n s o0 o1 i ks (tr ks)) (.yes (lt_nat hlt) (.bind (idxA hlt) (.bind h (.yes rfl .const)))), fun hr => by omega⟩
    · obtain ⟨ks2, vs2, r, hr, hf⟩ := ih (i + 1) (ks ++ [s[i].name]) (by omega)
      refine ⟨ks2, vs2, r, .succ (fun k n => by rw [api_Field_3_l0_eq, wrap_succ (m := 17) (i := i) (by omega) (by omega)]) (.yes (lt_nat hlt) (.bind (idxA hlt) (.bind h (.no rfl hr)))), fun h0 => ?_⟩
      rw [List.drop_eq_getElem_cons hlt]
      exact ⟨hn, hf h0⟩
theorem check (s : Sch) : ∃ e, Ans (fun k => schema_Check k s) (e, ()) ∧ (e = 0 → s.fields.length ≤ 16 ∧ (s.fields.map (·.name)).Nodup) := by
  by_cases hl : s.fields.length ≤ 16
  · obtain ⟨b, hb⟩ := name_ s.name
    cases b with
    | false => exact ⟨1, .succ (fun k => schema_Check_eq k s) (.no (decide_eq_false (by omega)) (.bind hb (.no rfl .const))), by simp⟩
    | true =>
      obtain ⟨ks2, vs2, r, hr, hf⟩ := fields_loop s.fields hl [] [] s.fields.length 0 [] (by omega)
      have h3 : Ans (fun k => api_Field_3 k s.fields [] []) (ks2, vs2, r, ()) := .succ (fun k => api_Field_3_eq k s.fields [] []) hr.diag
      have h2 : Ans (fun k => api_Field_2 k s.fields [] []) (ks2, vs2, decide (r ≥ 0), ()) := .succ (fun k => api_Field_2_eq k s.fields [] []) (.bind h3 .const)
      by_cases h0 : r ≥ 0
      · exact ⟨1, .succ (fun k => schema_Check_eq k s) (.no (decide_eq_false (by omega)) (.bind hb (.yes rfl (.bind h2 (.yes (decide_eq_true h0) .const))))), by simp⟩
      · refine ⟨0, .succ (fun k => schema_Check_eq k s) (.no (decide_eq_false (by omega)) (.bind hb (.yes rfl (.bind h2 (.no (decide_eq_false h0) .const))))), fun _ => ⟨hl, ?_⟩⟩
        exact (hf (by omega)).spec.1
  · exact ⟨2, .succ (fun k => schema_Check_eq k s) (.yes (decide_eq_true (by omega)) .const), by simp⟩
theorem names_loop (l : List Sch) (hs : l.length ≤ 16) : ∀ (d i : Nat) (ks : List Bytes), i + d = l.length →
    ∃ e, Ans2 (fun k n => schema_Book_l1 k n l (i : Int) ks (tr ks)) (e, ()) ∧ (e = 0 → Fresh ks ((l.drop i).map (·.name))) := by
  intro d
  induction d with
  | zero =>
    intro i ks hi
    refine ⟨_, .succ (fun k n => schema_Book_l1_eq k n l i ks (tr ks)) (.no (nlt_nat (by omega)) .const), fun _ => ?_⟩
    rw [List.drop_of_length_le (by omega)]; exact trivial
  | succ d ih =>
    intro i ks hi
    have hlt : i < l.length := by omega
    by_cases hm : l[i].name ∈ ks
    · exact ⟨4, .succ (fun k n => schema_Book_l1_eq k n l i ks (tr ks)) (.yes (lt_nat hlt) (.bind (idxA hlt) (.bind (again_old hm) (.yes rfl .const)))), by simp⟩
    · obtain ⟨e, he, hf⟩ := ih (i + 1) (ks ++ [l[i].name]) (by omega)
      refine ⟨e, .succ (fun k n => by rw [schema_Book_l1_eq, wrap_succ (m := 17) (i := i) (by omega) (by omega)]) (.yes (lt_nat hlt) (.bind (idxA hlt) (.bind (again_new hm) (.no rfl he)))), fun h0 => ?_⟩
      rw [List.drop_eq_getElem_cons hlt]
      exact ⟨hm, hf h0⟩
theorem checks_loop (l : List Sch) (hs : l.length ≤ 16) : ∀ (d i : Nat), i + d = l.length →
    ∃ e, Ans2 (fun k n => schema_Book_l0 k n l (i : Int)) (e, ()) ∧ (e = 0 → (∀ j, i ≤ j → ∀ h : j < l.length, l[j].fields.length ≤ 16 ∧ (l[j].fields.map (·.name)).Nodup) ∧ (l.map (·.name)).Nodup) := by
  intro d
  induction d with
  | zero =>
    intro i hi
    obtain ⟨e, he, hf⟩ := names_loop l hs l.length 0 [] (by omega)
    refine ⟨e, .succ (fun k n => schema_Book_l0_eq k n l i) (.no (nlt_nat (by omega)) he.diag.two), fun h0 => ⟨fun j h1 h2 => by omega, ?_⟩⟩
    exact (hf h0).spec.1
  | succ d ih =>
    intro i hi
    have hlt : i < l.length := by omega
    obtain ⟨c, hc, hcf⟩ := check l[i]
    by_cases h0 : c = 0
    · obtain ⟨e, he, hf⟩ := ih (i + 1) (by omega)
      refine ⟨e, .succ (fun k n => by rw [schema_Book_l0_eq, wrap_succ (m := 17) (i := i) (by omega) (by omega)]) (.yes (lt_nat hlt) (.bind (idxA hlt) (.bind hc (.no (by show (c != 0) = false; simp [h0]) he)))), fun h => ⟨fun j h1 h2 => ?_, (hf h).2⟩⟩
      by_cases hj : j = i
      · subst hj; exact hcf h0
      · exact (hf h).1 j (by omega) h2
    · exact ⟨c, .succ (fun k n => schema_Book_l0_eq k n l i) (.yes (lt_nat hlt) (.bind (idxA hlt) (.bind hc (.yes (by show (c != 0) = true; simpa using h0) .const)))), fun h => absurd h h0⟩
theorem book (l : List Sch) : ∃ e, Ans (fun k => schema_Book k l) (e, ()) ∧ (e = 0 → l.length ≤ 16 ∧ (∀ j, ∀ h : j < l.length, l[j].fields.length ≤ 16 ∧ (l[j].fields.map (·.name)).Nodup) ∧ (l.map (·.name)).Nodup) := by
  by_cases hl : l.length ≤ 16
  · obtain ⟨e, he, hf⟩ := checks_loop l hl l.length 0 (by omega)
    exact ⟨e, .succ (fun k => schema_Book_eq k l) (.no (decide_eq_false (by omega)) he.diag), fun h => ⟨hl, fun j hj => (hf h).1 j (by omega) hj, (hf h).2⟩⟩
  · exact ⟨2, .succ (fun k => schema_Book_eq k l) (.yes (decide_eq_true (by omega)) .const), by simp⟩
/-! ### Found -/
theorem find_loop (l : List Sch) (hs : l.length ≤ 16) (i : Nat) (hi : i < l.length) (hn : (l.map (·.name)).Nodup) (o : Bytes) : ∀ (d t : Nat), t + d = i → Ans2 (fun k n => api_Schema_l0 k n l o (t : Int) l[i].name) (l[i].name, (i : Int), ()) := by
  have is : ∀ (s : Sch) (n : Bytes), Ans (fun k => schema_Find_1 k s n) (n, (s.name == n), ()) := fun s n => .succ (fun k => schema_Find_1_eq k s n) .const
  intro d
  induction d with
  | zero =>
    intro t ht
    have : t = i := by omega
    subst this
    exact .succ (fun k n => api_Schema_l0_eq k n l o t _) (.yes (lt_nat hi) (.bind (idxA hi) (.bind (is _ _) (.yes (by simp) .const))))
  | succ d ih =>
    intro t ht
    have hlt : t < l.length := by omega
    have hne : l[t].name ≠ l[i].name := fun e => by
      exact List.pairwise_iff_getElem.1 hn t i (by simp; omega) (by simp; omega) (by omega) (by simpa using e)
    exact .succ (fun k n => by rw [api_Schema_l0_eq, wrap_succ (m := 17) (i := t) (by omega) (by omega)]) (.yes (lt_nat hlt) (.bind (idxA hlt) (.bind (is _ _) (.no (show (l[t].name == l[i].name) = false by simpa using hne) (ih (t + 1) (by omega))))))
theorem find (l : List Sch) (hs : l.length ≤ 16) (i : Nat) (hi : i < l.length) (hn : (l.map (·.name)).Nodup) : Ans (fun k => schema_Find k l l[i].name) ((i : Int), true, ()) := by
  have h : Ans (fun k => api_Schema k l l[i].name) (l[i].name, (i : Int), ()) := .succ (fun k => api_Schema_eq k l _) (find_loop l hs i hi hn _ i 0 (by omega)).diag
  refine .succ (fun k => schema_Find_eq k l _) (.bind h ?_)
  have e1 : (if (0 : Int) > ((i : Nat) : Int) then 0 else ((i : Nat) : Int)) = (i : Int) := if_neg (by omega)
  have e2 : decide (((i : Nat) : Int) ≥ 0) = true := decide_eq_true (by omega)
  show Ans (fun k => some ((if (0 : Int) > ((i : Nat) : Int) then 0 else ((i : Nat) : Int)), decide (((i : Nat) : Int) ≥ 0), ())) _
  rw [e1, e2]; exact .const
theorem field_loop (l : List Fld) (hs : l.length ≤ 16) (i : Nat) (hi : i < l.length) (hn : (l.map (·.name)).Nodup) (o : Bytes) : ∀ (d t : Nat), t + d = i → Ans2 (fun k n => api_Field_l0 k n l o (t : Int) l[i].name) (l[i].name, (i : Int), ()) := by
  have is : ∀ (s : Fld) (n : Bytes), Ans (fun k => schema_Field_1 k s n) (n, (s.name == n), ()) := fun s n => .succ (fun k => schema_Field_1_eq k s n) .const
  intro d
  induction d with
  | zero =>
    intro t ht
    have : t = i := by omega
    subst this
    exact .succ (fun k n => api_Field_l0_eq k n l o t _) (.yes (lt_nat hi) (.bind (idxA hi) (.bind (is _ _) (.yes (by simp) .const))))
  | succ d ih =>
    intro t ht
    have hlt : t < l.length := by omega
    have hne : l[t].name ≠ l[i].name := fun e => by
      exact List.pairwise_iff_getElem.1 hn t i (by simp; omega) (by simp; omega) (by omega) (by simpa using e)
    exact .succ (fun k n => by rw [api_Field_l0_eq, wrap_succ (m := 17) (i := t) (by omega) (by omega)]) (.yes (lt_nat hlt) (.bind (idxA hlt) (.bind (is _ _) (.no (show (l[t].name == l[i].name) = false by simpa using hne) (ih (t + 1) (by omega))))))
theorem field (s : Sch) (hs : s.fields.length ≤ 16) (i : Nat) (hi : i < s.fields.length) (hn : (s.fields.map (·.name)).Nodup) : Ans (fun k => schema_Field k s s.fields[i].name) ((i : Int), s.fields[i].k, true, ()) := by
  have h : Ans (fun k => api_Field k s.fields s.fields[i].name) (s.fields[i].name, (i : Int), ()) := .succ (fun k => api_Field_eq k s.fields _) (field_loop s.fields hs i hi hn _ i 0 (by omega)).diag
  exact .succ (fun k => schema_Field_eq k s _) (.bind h (.no (decide_eq_false (by show ¬ ((i : Nat) : Int) < 0; omega)) (.bind (idxA hi) .const)))
section
variable (l : List Sch) (hl : l.length ≤ 16) (hf : ∀ j, ∀ h : j < l.length, l[j].fields.length ≤ 16 ∧ (l[j].fields.map (·.name)).Nodup) (hn : (l.map (·.name)).Nodup)
include hl hf hn
theorem inner (i : Nat) (hi : i < l.length) (L : Ans2 (fun k m => law07_SchemaBook_l0 k m l ((i + 1 : Nat) : Int)) (true, ())) : ∀ (d j : Nat), j + d = l[i].fields.length → Ans3 (fun k m n => law07_SchemaBook_l1 k m n l (i : Int) (j : Int)) (true, ()) := by
  obtain ⟨h1, h2⟩ := hf i hi
  intro d
  induction d with
  | zero =>
    intro j hj
    refine .succ (fun k m n => by rw [law07_SchemaBook_l1_eq, wrap_succ (m := 17) (i := i) (by omega) (by omega)]) (.bind (idxA hi) (.no (nlt_nat (xs := l[i].fields) (i := j) (by omega)) L.three))
  | succ d ih =>
    intro j hj
    have hlt : j < l[i].fields.length := by omega
    refine .succ (fun k m n => by rw [law07_SchemaBook_l1_eq, wrap_succ (m := 17) (i := j) (by omega) (by omega)]) (.bind (idxA hi) (.yes (lt_nat hlt) (.bind (idxA hi) (.bind (idxA hi) (.bind (idxA hlt) (.bind (field l[i] h1 j hlt h2) (.yes rfl (.yes (by show ((((j : Nat) : Int) != ((j : Nat) : Int)) == false) = true; simp) (.bind (idxA hi) (.bind (idxA hlt) (.no (by show (l[i].fields[j].k != l[i].fields[j].k) = false; simp) (ih (j + 1) (by omega)))))))))))))
theorem outer : ∀ (d i : Nat), i + d = l.length → Ans2 (fun k n => law07_SchemaBook_l0 k n l (i : Int)) (true, ()) := by
  intro d
  induction d with
  | zero =>
    intro i hi
    exact .succ (fun k n => law07_SchemaBook_l0_eq k n l i) (.no (nlt_nat (by omega)) (.yes (by simp; omega) awakes.two))
  | succ d ih =>
    intro i hi
    have hlt : i < l.length := by omega
    refine .succ (fun k n => law07_SchemaBook_l0_eq k n l i) (.yes (lt_nat hlt) (.bind (idxA hlt) (.bind (find l hl i hlt hn) (.yes rfl (.no (by show (((i : Nat) : Int) != ((i : Nat) : Int)) = false; simp) (.of (fun k n => law07_SchemaBook_j0_eq k n l i) ?_))))))
    exact (inner l hl hf hn i hlt (ih (i + 1) (by omega)) l[i].fields.length 0 (by omega)).diag
end
theorem law (l : List Sch) : ∃ k, law07_SchemaBook k l = some (true, ()) := by
  suffices h : Ans (fun k => law07_SchemaBook k l) (true, ()) from h.ex
  obtain ⟨e, he, hf⟩ := book l
  by_cases h0 : e = 0
  · obtain ⟨h1, h2, h3⟩ := hf h0
    exact .succ (fun k => law07_SchemaBook_eq k l) (.bind he (.no (by show (e != 0) = false; simp [h0]) (outer l h1 h2 h3 l.length 0 (by omega)).diag))
  · exact .succ (fun k => law07_SchemaBook_eq k l) (.bind he (.yes (by show (e != 0) = true; simpa using h0) awakes))
end Go.Ev.HpSB
