/-
  SchemaTells, the plain law.
-/
import Derived.Test.YtpkhhaolkfaoaaaHpSTP
set_option linter.unusedVariables false
set_option linter.unusedSectionVars false
namespace Go.Ev.HpST
theorem awake_eq (k : Nat) : law07_awake (k + 20) = some (true, ()) := by kernel_rfl
theorem awake : Ans (fun k => law07_awake k) (true, ()) := .plus 20 awake_eq
theorem awakes : Ans (fun k => (law07_awake k).bind fun r => some (r.1, ())) (true, ()) := .bind awake .const
/-! ### Schemas together -/
section
variable (l : List Sch) (hl : l.length ≤ 16)
include hl
theorem pair_old (i : Nat) (hi : i < l.length) : ∀ (d q : Nat), q + d = i → (∃ p, ∃ h : p < l.length, q ≤ p ∧ p < i ∧ l[p].name = l[i].name) → Ans3 (fun k m n => ref07_Book_l2 k m n l (i : Int) (q : Int)) (4, ()) := by
  intro d
  induction d with
  | zero => intro q hq ⟨p, _, h1, h2, _⟩; omega
  | succ d ih =>
    intro q hq ⟨p, hp, h1, h2, h3⟩
    have hlt : q < l.length := by omega
    by_cases e : l[q].name = l[i].name
    · exact .succ (fun k m n => ref07_Book_l2_eq k m n l i q) (.yes (decide_eq_true (by omega)) (.bind (idxA hlt) (.bind (idxA hi) (.yes (show (l[q].name == l[i].name) = true by simp [e]) .const))))
    · refine .succ (fun k m n => by rw [ref07_Book_l2_eq, wrap_succ (m := 17) (i := q) (by omega) (by omega)]) (.yes (decide_eq_true (by omega)) (.bind (idxA hlt) (.bind (idxA hi) (.no (show (l[q].name == l[i].name) = false by simpa using e) (ih (q + 1) (by omega) ⟨p, hp, ?_, h2, h3⟩)))))
      by_cases hqp : q = p
      · subst hqp; exact absurd h3 e
      · omega
theorem pair_new (i : Nat) (hi : i < l.length) {r : Int × Unit} (L : Ans2 (fun k m => ref07_Book_l1 k m l ((i + 1 : Nat) : Int)) r) (hne : ∀ p, ∀ h : p < l.length, p < i → l[p].name ≠ l[i].name) : ∀ (d q : Nat), q + d = i → Ans3 (fun k m n => ref07_Book_l2 k m n l (i : Int) (q : Int)) r := by
  intro d
  induction d with
  | zero => intro q hq; exact .succ (fun k m n => by rw [ref07_Book_l2_eq, wrap_succ (m := 17) (i := i) (by omega) (by omega)]) (.no (decide_eq_false (by omega)) L.three)
  | succ d ih =>
    intro q hq
    have hlt : q < l.length := by omega
    exact .succ (fun k m n => by rw [ref07_Book_l2_eq, wrap_succ (m := 17) (i := q) (by omega) (by omega)]) (.yes (decide_eq_true (by omega)) (.bind (idxA hlt) (.bind (idxA hi) (.no (show (l[q].name == l[i].name) = false by simpa using hne q hlt (by omega)) (ih (q + 1) (by omega))))))
theorem names_both : ∀ (d i : Nat), i + d = l.length → ∃ e, Ans2 (fun k n => schema_Book_l1 k n l (i : Int) ((l.take i).map (·.name)) (tr ((l.take i).map (·.name)))) (e, ()) ∧ Ans2 (fun k n => ref07_Book_l1 k n l (i : Int)) (e, ()) := by
  intro d
  induction d with
  | zero =>
    intro i hi
    exact ⟨0, .succ (fun k n => schema_Book_l1_eq k n l i _ _) (.no (nlt_nat (by omega)) .const), .succ (fun k n => ref07_Book_l1_eq k n l i) (.no (nlt_nat (by omega)) .const)⟩
  | succ d ih =>
    intro i hi
    have hlt : i < l.length := by omega
    have hks : (l.take (i + 1)).map (·.name) = (l.take i).map (·.name) ++ [l[i].name] := by rw [List.take_succ_eq_append_getElem hlt, List.map_append]; rfl
    generalize hkk : (l.take i).map (·.name) = ks at *
    by_cases hm : l[i].name ∈ ks
    · refine ⟨4, .succ (fun k n => schema_Book_l1_eq k n l i ks (tr ks)) (.yes (lt_nat hlt) (.bind (idxA hlt) (.bind (again_old hm) (.yes rfl .const)))), .succ (fun k n => ref07_Book_l1_eq k n l i) (.yes (lt_nat hlt) (pair_old l hl i hlt i 0 (by omega) ?_).diag)⟩
      rw [← hkk] at hm
      obtain ⟨f, hf, hfn⟩ := List.mem_map.1 hm
      obtain ⟨p, hp, hpf⟩ := List.mem_iff_getElem.1 hf
      rw [List.length_take] at hp
      rw [List.getElem_take] at hpf
      exact ⟨p, by omega, by omega, by omega, by rw [hpf]; exact hfn⟩
    · obtain ⟨e, h1, h2⟩ := ih (i + 1) (by omega)
      rw [hks] at h1
      refine ⟨e, .succ (fun k n => by rw [schema_Book_l1_eq, wrap_succ (m := 17) (i := i) (by omega) (by omega)]) (.yes (lt_nat hlt) (.bind (idxA hlt) (.bind (again_new hm) (.no rfl h1)))), .succ (fun k n => ref07_Book_l1_eq k n l i) (.yes (lt_nat hlt) (pair_new l hl i hlt h2 (fun p hp hpi e => hm ?_) i 0 (by omega)).diag)⟩
      rw [← hkk]
      refine List.mem_map.2 ⟨l[p], ?_, e⟩
      exact List.mem_iff_getElem.2 ⟨p, by rw [List.length_take]; omega, by rw [List.getElem_take]⟩
theorem checks_both (hs : ∀ s ∈ l, Small s) : ∀ (d i : Nat), i + d = l.length → ∃ e, Ans2 (fun k n => schema_Book_l0 k n l (i : Int)) (e, ()) ∧ Ans2 (fun k n => ref07_Book_l0 k n l (i : Int)) (e, ()) := by
  intro d
  induction d with
  | zero =>
    intro i hi
    obtain ⟨e, h1, h2⟩ := names_both l hl l.length 0 (by omega)
    exact ⟨e, .succ (fun k n => schema_Book_l0_eq k n l i) (.no (nlt_nat (by omega)) h1.diag.two), .succ (fun k n => ref07_Book_l0_eq k n l i) (.no (nlt_nat (by omega)) h2.diag.two)⟩
  | succ d ih =>
    intro i hi
    have hlt : i < l.length := by omega
    obtain ⟨c, h1, h2⟩ := check l[i] (hs _ (List.getElem_mem hlt))
    by_cases h0 : c = 0
    · obtain ⟨e, h3, h4⟩ := ih (i + 1) (by omega)
      exact ⟨e, .succ (fun k n => by rw [schema_Book_l0_eq, wrap_succ (m := 17) (i := i) (by omega) (by omega)]) (.yes (lt_nat hlt) (.bind (idxA hlt) (.bind h1 (.no (show (c != 0) = false by simp [h0]) h3)))), .succ (fun k n => by rw [ref07_Book_l0_eq, wrap_succ (m := 17) (i := i) (by omega) (by omega)]) (.yes (lt_nat hlt) (.bind (idxA hlt) (.bind h2 (.no (show (c != 0) = false by simp [h0]) h4))))⟩
    · exact ⟨c, .succ (fun k n => schema_Book_l0_eq k n l i) (.yes (lt_nat hlt) (.bind (idxA hlt) (.bind h1 (.yes (show (c != 0) = true by simpa using h0) .const)))), .succ (fun k n => ref07_Book_l0_eq k n l i) (.yes (lt_nat hlt) (.bind (idxA hlt) (.bind h2 (.yes (show (c != 0) = true by simpa using h0) .const))))⟩
end
theorem book (l : List Sch) (hs : ∀ s ∈ l, Small s) : ∃ e, Ans (fun k => schema_Book k l) (e, ()) ∧ Ans (fun k => ref07_Book k l) (e, ()) := by
  by_cases hl : l.length ≤ 16
  · obtain ⟨e, h1, h2⟩ := checks_both l hl hs l.length 0 (by omega)
    exact ⟨e, .succ (fun k => schema_Book_eq k l) (.no (decide_eq_false (by omega)) h1.diag), .succ (fun k => ref07_Book_eq k l) (.no (decide_eq_false (by omega)) h2.diag)⟩
  · exact ⟨2, .succ (fun k => schema_Book_eq k l) (.yes (decide_eq_true (by omega)) .const), .succ (fun k => ref07_Book_eq k l) (.yes (decide_eq_true (by omega)) .const)⟩
/-! ### Found -/
theorem find_loop (l : List Sch) (hs : l.length ≤ 140737488351232) (o name : Bytes) : ∀ (d t : Nat), t + d = l.length →
    (∃ q : Nat, Ans2 (fun k n => api_Schema_l0 k n l o (t : Int) name) (name, (q : Int), ()) ∧ Ans2 (fun k n => ref07_Find_l0 k n l name (t : Int)) ((q : Int), true, ())) ∨ (Ans2 (fun k n => api_Schema_l0 k n l o (t : Int) name) (name, -1, ()) ∧ Ans2 (fun k n => ref07_Find_l0 k n l name (t : Int)) (0, false, ())) := by
  have is : ∀ (s : Sch) (n : Bytes), Ans (fun k => schema_Find_1 k s n) (n, (s.name == n), ()) := fun s n => .succ (fun k => schema_Find_1_eq k s n) .const
  intro d
  induction d with
  | zero =>
    intro t ht
    exact .inr ⟨.succ (fun k n => api_Schema_l0_eq k n l o t _) (.no (nlt_nat (by omega)) .const), .succ (fun k n => ref07_Find_l0_eq k n l name t) (.no (nlt_nat (by omega)) .const)⟩
  | succ d ih =>
    intro t ht
    have hlt : t < l.length := by omega
    by_cases e : l[t].name = name
    · exact .inl ⟨t, .succ (fun k n => api_Schema_l0_eq k n l o t _) (.yes (lt_nat hlt) (.bind (idxA hlt) (.bind (is _ _) (.yes (show (l[t].name == name) = true by simp [e]) .const)))), .succ (fun k n => ref07_Find_l0_eq k n l name t) (.yes (lt_nat hlt) (.bind (idxA hlt) (.yes (show (l[t].name == name) = true by simp [e]) .const)))⟩
    · have A : ∀ {r}, Ans2 (fun k n => api_Schema_l0 k n l o ((t + 1 : Nat) : Int) name) r → Ans2 (fun k n => api_Schema_l0 k n l o (t : Int) name) r := fun h => .succ (fun k n => by rw [api_Schema_l0_eq, wrap_succ (m := 140737488355328) (i := t) (by omega) (by omega)]) (.yes (lt_nat hlt) (.bind (idxA hlt) (.bind (is _ _) (.no (show (l[t].name == name) = false by simpa using e) h))))
      have B : ∀ {r}, Ans2 (fun k n => ref07_Find_l0 k n l name ((t + 1 : Nat) : Int)) r → Ans2 (fun k n => ref07_Find_l0 k n l name (t : Int)) r := fun h => .succ (fun k n => by rw [ref07_Find_l0_eq, wrap_succ (m := 140737488355328) (i := t) (by omega) (by omega)]) (.yes (lt_nat hlt) (.bind (idxA hlt) (.no (show (l[t].name == name) = false by simpa using e) h)))
      rcases ih (t + 1) (by omega) with ⟨q, h1, h2⟩ | ⟨h1, h2⟩
      · exact .inl ⟨q, A h1, B h2⟩
      · exact .inr ⟨A h1, B h2⟩
theorem find (l : List Sch) (hs : l.length ≤ 140737488351232) (name : Bytes) : ∃ (i : Int) (b : Bool), Ans (fun k => schema_Find k l name) (i, b, ()) ∧ Ans (fun k => ref07_Find k l name) (i, b, ()) := by
  rcases find_loop l hs name name l.length 0 (by omega) with ⟨q, h1, h2⟩ | ⟨h1, h2⟩
  · have h : Ans (fun k => api_Schema k l name) (name, (q : Int), ()) := .succ (fun k => api_Schema_eq k l _) h1.diag
    refine ⟨q, true, .succ (fun k => schema_Find_eq k l _) (.bind h ?_), .succ (fun k => ref07_Find_eq k l name) h2.diag⟩
    have e1 : (if (0 : Int) > ((q : Nat) : Int) then 0 else ((q : Nat) : Int)) = (q : Int) := if_neg (by omega)
    have e2 : decide (((q : Nat) : Int) ≥ 0) = true := decide_eq_true (by omega)
    show Ans (fun k => some ((if (0 : Int) > ((q : Nat) : Int) then 0 else ((q : Nat) : Int)), decide (((q : Nat) : Int) ≥ 0), ())) _
    rw [e1, e2]; exact .const
  · have h : Ans (fun k => api_Schema k l name) (name, -1, ()) := .succ (fun k => api_Schema_eq k l _) h1.diag
    exact ⟨0, false, .succ (fun k => schema_Find_eq k l _) (.bind h .const), .succ (fun k => ref07_Find_eq k l name) h2.diag⟩
theorem field_loop (s : Sch) (hs : s.fields.length ≤ 140737488351232) (o name : Bytes) : ∀ (d t : Nat), t + d = s.fields.length →
    (∃ q : Nat, ∃ h : q < s.fields.length, Ans2 (fun k n => api_Field_l0 k n s.fields o (t : Int) name) (name, (q : Int), ()) ∧ Ans2 (fun k n => ref07_Field_l0 k n s name (t : Int)) ((q : Int), s.fields[q].k, true, ())) ∨ (Ans2 (fun k n => api_Field_l0 k n s.fields o (t : Int) name) (name, -1, ()) ∧ Ans2 (fun k n => ref07_Field_l0 k n s name (t : Int)) (0, 0, false, ())) := by
  have is : ∀ (s : Fld) (n : Bytes), Ans (fun k => schema_Field_1 k s n) (n, (s.name == n), ()) := fun s n => .succ (fun k => schema_Field_1_eq k s n) .const
  intro d
  induction d with
  | zero =>
    intro t ht
    exact .inr ⟨.succ (fun k n => api_Field_l0_eq k n _ o t _) (.no (nlt_nat (by omega)) .const), .succ (fun k n => ref07_Field_l0_eq k n s name t) (.no (nlt_nat (by omega)) .const)⟩
  | succ d ih =>
    intro t ht
    have hlt : t < s.fields.length := by omega
    by_cases e : s.fields[t].name = name
    · exact .inl ⟨t, hlt, .succ (fun k n => api_Field_l0_eq k n _ o t _) (.yes (lt_nat hlt) (.bind (idxA hlt) (.bind (is _ _) (.yes (show (s.fields[t].name == name) = true by simp [e]) .const)))), .succ (fun k n => ref07_Field_l0_eq k n s name t) (.yes (lt_nat hlt) (.bind (idxA hlt) (.yes (show (s.fields[t].name == name) = true by simp [e]) (.bind (idxA hlt) .const))))⟩
    · have A : ∀ {r}, Ans2 (fun k n => api_Field_l0 k n s.fields o ((t + 1 : Nat) : Int) name) r → Ans2 (fun k n => api_Field_l0 k n s.fields o (t : Int) name) r := fun h => .succ (fun k n => by rw [api_Field_l0_eq, wrap_succ (m := 140737488355328) (i := t) (by omega) (by omega)]) (.yes (lt_nat hlt) (.bind (idxA hlt) (.bind (is _ _) (.no (show (s.fields[t].name == name) = false by simpa using e) h))))
      have B : ∀ {r}, Ans2 (fun k n => ref07_Field_l0 k n s name ((t + 1 : Nat) : Int)) r → Ans2 (fun k n => ref07_Field_l0 k n s name (t : Int)) r := fun h => .succ (fun k n => by rw [ref07_Field_l0_eq, wrap_succ (m := 140737488355328) (i := t) (by omega) (by omega)]) (.yes (lt_nat hlt) (.bind (idxA hlt) (.no (show (s.fields[t].name == name) = false by simpa using e) h)))
      rcases ih (t + 1) (by omega) with ⟨q, hq, h1, h2⟩ | ⟨h1, h2⟩
      · exact .inl ⟨q, hq, A h1, B h2⟩
      · exact .inr ⟨A h1, B h2⟩
theorem field (s : Sch) (hs : s.fields.length ≤ 140737488351232) (name : Bytes) : ∃ (i j : Int) (b : Bool), Ans (fun k => schema_Field k s name) (i, j, b, ()) ∧ Ans (fun k => ref07_Field k s name) (i, j, b, ()) := by
  rcases field_loop s hs name name s.fields.length 0 (by omega) with ⟨q, hq, h1, h2⟩ | ⟨h1, h2⟩
  · have h : Ans (fun k => api_Field k s.fields name) (name, (q : Int), ()) := .succ (fun k => api_Field_eq k s.fields _) h1.diag
    exact ⟨q, _, true, .succ (fun k => schema_Field_eq k s _) (.bind h (.no (decide_eq_false (show ¬ ((q : Nat) : Int) < 0 by omega)) (.bind (idxA hq) .const))), .succ (fun k => ref07_Field_eq k s name) h2.diag⟩
  · have h : Ans (fun k => api_Field k s.fields name) (name, -1, ()) := .succ (fun k => api_Field_eq k s.fields _) h1.diag
    exact ⟨0, 0, false, .succ (fun k => schema_Field_eq k s _) (.bind h (.yes rfl .const)), .succ (fun k => ref07_Field_eq k s name) h2.diag⟩
/-! ### The same -/
theorem same_loop (a b : Sch) (hl : a.fields.length = b.fields.length) (hs : a.fields.length ≤ 140737488351232) : ∀ (d t : Nat), t + d = a.fields.length →
    ∃ v, Ans2 (fun k n => api_Field_3_l0 k n a.fields b.fields (t : Int)) (v, ()) ∧ Ans2 (fun k n => ref07_Same_l0 k n a b (t : Int)) (v, ()) ∧ (a = b → v = true) := by
  intro d
  induction d with
  | zero =>
    intro t ht
    exact ⟨true, .succ (fun k n => api_Field_3_l0_eq k n _ _ t) (.no (nlt_nat (by omega)) .const), .succ (fun k n => ref07_Same_l0_eq k n a b t) (.no (by rw [nlt_nat (by omega)]; rfl) .const), fun _ => rfl⟩
  | succ d ih =>
    intro t ht
    have h1 : t < a.fields.length := by omega
    have h2 : t < b.fields.length := by omega
    have R : ∀ {r}, Ans2 (fun k n => ref07_Same_j1 k n a b (t : Int)) r → Ans2 (fun k n => ref07_Same_l0 k n a b (t : Int)) r := fun h => .succ (fun k n => ref07_Same_l0_eq k n a b t) (.yes (by rw [lt_nat h1]; rfl) (.yes (lt_nat h2) h))
    cases hc : (!((a.fields[t].name == b.fields[t].name) && (a.fields[t].k == b.fields[t].k))) with
    | true =>
      refine ⟨false, .succ (fun k n => api_Field_3_l0_eq k n _ _ t) (.yes (lt_nat h1) (.bind (idxA h1) (.bind (idxA h2) (.yes hc .const)))), R (.of (fun k n => ref07_Same_j1_eq k n a b t) (.bind (idxA h1) (.bind (idxA h2) (.yes hc .const)))), fun e => ?_⟩
      subst e; simp at hc
    | false =>
      obtain ⟨v, g1, g2, g3⟩ := ih (t + 1) (by omega)
      exact ⟨v, .succ (fun k n => by rw [api_Field_3_l0_eq, wrap_succ (m := 140737488355328) (i := t) (by omega) (by omega)]) (.yes (lt_nat h1) (.bind (idxA h1) (.bind (idxA h2) (.no hc g1)))), R (.of (fun k n => by rw [ref07_Same_j1_eq, wrap_succ (m := 140737488355328) (i := t) (by omega) (by omega)]) (.bind (idxA h1) (.bind (idxA h2) (.no hc g2)))), g3⟩
theorem same (a b : Sch) (hs : a.fields.length ≤ 140737488351232) : ∃ v, Ans (fun k => schema_Same k a b) (v, ()) ∧ Ans (fun k => ref07_Same k a b) (v, ()) ∧ (a = b → v = true) := by
  by_cases hn : a.name = b.name
  · have e1 : ((a.name == b.name) == true) = true := by simp [hn]
    have e2 : ((!(a.name == b.name)) == false) = true := by simp [hn]
    by_cases hl : a.fields.length = b.fields.length
    · obtain ⟨v, h1, h2, h3⟩ := same_loop a b hl hs a.fields.length 0 (by omega)
      have e3 : (((List.length a.fields : Nat) : Int) != ((List.length b.fields : Nat) : Int)) = false := by simp [hl]
      exact ⟨v, .succ (fun k => schema_Same_eq k a b) (.yes e1 (.bind (.succ (fun k => api_Field_3_eq k _ _) (.no e3 h1.diag)) .const)), .succ (fun k => ref07_Same_eq k a b) (.yes e2 (.no e3 (.of (fun k => ref07_Same_j0_eq k a b) h2.diag))), h3⟩
    · have e3 : (((List.length a.fields : Nat) : Int) != ((List.length b.fields : Nat) : Int)) = true := by simp; omega
      exact ⟨false, .succ (fun k => schema_Same_eq k a b) (.yes e1 (.bind (.succ (fun k => api_Field_3_eq k _ _) (.yes e3 .const)) .const)), .succ (fun k => ref07_Same_eq k a b) (.yes e2 (.yes e3 .const)), fun e => by subst e; exact absurd rfl hl⟩
  · exact ⟨false, .succ (fun k => schema_Same_eq k a b) (.no (by simpa using hn) .const), .succ (fun k => ref07_Same_eq k a b) (.no (by simpa using hn) .const), fun e => by subst e; exact absurd rfl hn⟩
section
variable (l : List Sch) (s : Sch) (name : Bytes) (hl : l.length ≤ 140737488351232) (hs : ∀ s ∈ l, Small s) (hS : Small s)
include hl hs hS
theorem loop : ∀ (d i : Nat), i + d = l.length → Ans2 (fun k n => law07_SchemaTells_l0 k n l s name (i : Int)) (true, ()) := by
  intro d
  induction d with
  | zero =>
    intro i hi
    obtain ⟨v, h1, _, h3⟩ := same s s hS.len
    have := h3 rfl
    subst this
    exact .succ (fun k n => law07_SchemaTells_l0_eq k n l s name i) (.no (nlt_nat (by omega)) (.bind h1 (.yes rfl awakes.two)))
  | succ d ih =>
    intro i hi
    have hlt : i < l.length := by omega
    obtain ⟨v, h1, h2, _⟩ := same l[i] s (hs _ (List.getElem_mem hlt)).len
    exact .succ (fun k n => by rw [law07_SchemaTells_l0_eq, wrap_succ (m := 140737488355328) (i := i) (by omega) (by omega)]) (.yes (lt_nat hlt) (.bind (idxA hlt) (.bind h1 (.bind (idxA hlt) (.bind h2 (.no (show (!(v == v)) = false by simp) (ih (i + 1) (by omega))))))))
theorem law : ∃ k, law07_SchemaTells k l s name = some (true, ()) := by
  suffices h : Ans (fun k => law07_SchemaTells k l s name) (true, ()) from h.ex
  obtain ⟨i, b, h1, h2⟩ := find l hl name
  obtain ⟨p, q, c, h3, h4⟩ := field s hS.len name
  obtain ⟨e, h5, h6⟩ := check s hS
  obtain ⟨f, h7, h8⟩ := book l hs
  have nI : ∀ x : Int, ((x != x) == false) = true := by simp
  have nB : ∀ x : Bool, ((!(x == x)) == false) = true := by simp
  exact .succ (fun k => law07_SchemaTells_eq k l s name) (.bind h1 (.bind h2 (.bind h3 (.bind h4 (.yes (nI i) (.yes (nB b) (.yes (nI p) (.yes (nI q) (.yes (nB c) (.bind h5 (.bind h6 (.yes (nI e) (.bind h7 (.bind h8 (.no (show (f != f) = false by simp) (.of (fun k => law07_SchemaTells_j0_eq k l s name) (loop l s name hl hs hS l.length 0 (by omega)).diag))))))))))))))))
end
theorem good_str {s : Bytes} (h : Good (.str s)) : List.length s ≤ 140737488351232 := by cases h with | str h => exact h
theorem good_fields {xs : List Fld} (h : Good (.sl .fld false xs)) : xs.length ≤ 140737488351232 ∧ ∀ f ∈ xs, List.length f.name ≤ 140737488351232 := by
  cases h with
  | sl _ hb he =>
    refine ⟨reach_small hb (by decide), fun f hf => ?_⟩
    exact good_str (he f hf (.str f.name) (by simp [cells]))
theorem good_sch {s : Sch} (h : ∀ c ∈ cells .sch s, Good c) : Small s := by
  have h2 := good_fields (h (.sl .fld false s.fields) (by simp [cells]))
  exact ⟨good_str (h (.str s.name) (by simp [cells])), h2.1, h2.2⟩
theorem good_schs {xs : List Sch} (h : Good (.sl .sch false xs)) : xs.length ≤ 140737488351232 ∧ ∀ s ∈ xs, Small s := by
  cases h with
  | sl _ hb he => exact ⟨reach_small hb (by decide), fun s hs => good_sch (he s hs)⟩
end Go.Ev.HpST
