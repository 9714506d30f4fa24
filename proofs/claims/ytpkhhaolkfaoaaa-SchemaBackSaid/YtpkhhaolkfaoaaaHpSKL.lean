/-
  SchemaBack, the plain law.
-/
import Derived.Test.YtpkhhaolkfaoaaaHpSKR
set_option linter.unusedVariables false
set_option linter.unusedSectionVars false
namespace Go.Ev.HpSK
theorem awake_eq (k : Nat) : law07_awake (k + 20) = some (true, ()) := by kernel_rfl
theorem awake : Ans (fun k => law07_awake k) (true, ()) := .plus 20 awake_eq
theorem awakes : Ans (fun k => (law07_awake k).bind fun r => some (r.1, ())) (true, ()) := .bind awake .const
theorem Ans.elimL {α β γ : Type} {f : Nat → Option (α ⊕ β)} {F : Nat → α → Option γ} {G : Nat → β → Option γ} {b : α} {res : γ} (h : Ans f (Sum.inl b)) (hg : Ans (fun k => F k b) res) : Ans (fun k => (f k).bind fun r => Sum.elim (F k) (G k) r) res := by
  obtain ⟨N, hN⟩ := h
  obtain ⟨M, hM⟩ := hg
  refine ⟨max N M, fun k hk => ?_⟩
  show ((f k).bind fun r => Sum.elim (F k) (G k) r) = some res
  rw [hN k (by omega)]; exact hM k (by omega)
abbrev Res := (Bool × Int × List UInt8 × Sch × Int × Unit) ⊕ (Bool × Int × List UInt8 × Sch × Int × Unit)
theorem sget_loop (b post : List UInt8) (o0 : Bool) (o1 : Int) (o2 : List UInt8) (P1 P2 : Int) (s : Sch) (hs : OkS s) (hc : Ans (fun k => schema_Check k s) (0, ())) (hbl : b.length ≤ 140737488355328) : ∀ (d i P : Nat), i + d = s.fields.length → P ≤ b.length → b.drop P = encFs (s.fields.drop i) ++ post →
    Ans2 (fun k n => schema_Get_l1 k n o0 o1 o2 (true, P2, b, ((s.fields.length : Nat) : Int), 0, ()) (true, P1, b, s.name, 0, ()) (i : Int) true (P : Int) b (s.fields.take i)) (Sum.inr (true, ((P + (encFs (s.fields.drop i)).length : Nat) : Int), b, s, 0, ())) := by
  intro d
  induction d with
  | zero =>
    intro i P hi hP hb
    have h1 : s.fields.drop i = [] := List.drop_of_length_le (by omega)
    rw [List.take_of_length_le (by omega), h1]
    exact .succ (fun k n => schema_Get_l1_eq k n o0 o1 o2 _ _ i true P b s.fields) (.no (decide_eq_false (by show ¬ (i : Int) < ((s.fields.length : Nat) : Int); omega)) (.bind hc (.no rfl .const)))
  | succ d ih =>
    intro i P hi hP hb
    have hlt : i < s.fields.length := by omega
    have h16 := hs.2.1
    have e : encFs (s.fields.drop i) = encF s.fields[i] ++ encFs (s.fields.drop (i + 1)) := by unfold encFs; rw [List.drop_eq_getElem_cons hlt, List.flatMap_cons]
    rw [e, List.append_assoc] at hb
    have hF := field_known hbl hP (hs.2.2 _ (List.getElem_mem hlt)) hb
    obtain ⟨_, _, h3⟩ := split_at hP hb
    have L := ih (i + 1) (P + (encF s.fields[i]).length) (by omega) h3 (drop_at hb)
    rw [List.take_succ_eq_append_getElem hlt] at L
    have ew : IntKind.u64.wrap ((i : Int) + 1) = ((i + 1 : Nat) : Int) := by rw [show (i : Int) + 1 = ((i + 1 : Nat) : Int) by omega, u64_id (by omega)]
    rw [e, List.length_append, ← Nat.add_assoc]
    have hk : ((s.fields.take i).length + 1) * 24 ≤ 140737488355328 := by rw [List.length_take]; omega
    exact .succ (fun k n => by rw [schema_Get_l1_eq, ew]) (.yes (decide_eq_true (by show (i : Int) < ((s.fields.length : Nat) : Int); omega)) (.bind hF (.no rfl (.yes (decide_eq_true hk) L))))
theorem get_known {s : Sch} (hs : OkS s) (hc : Ans (fun k => schema_Check k s) (0, ())) : Ans (fun k => schema_Get k true 0 (encS s)) (Sum.inr (true, (((encS s).length : Nat) : Int), encS s, s, 0, ())) := by
  have hl := encS_len hs
  have h0 : (encS s).drop 0 = encT s.name ++ (enc s.fields.length ++ encFs s.fields) := rfl
  have hT := text_good1 (P := 0) (by omega) (by omega) hs.1 h0
  obtain ⟨_, _, h3⟩ := split_at (Nat.zero_le _) h0
  have hd := drop_at h0
  have hN := num_known (by omega) h3 hs.2.1 hd
  obtain ⟨_, _, h4⟩ := split_at h3 hd
  have hd2 := drop_at hd
  have L := sget_loop (encS s) [] true 0 (encS s) ((0 + (encT s.name).length : Nat) : Int) ((0 + (encT s.name).length + (enc s.fields.length).length : Nat) : Int) s hs hc (by omega) s.fields.length 0 _ (by omega) h4 (by rw [List.drop_zero, List.append_nil]; exact hd2)
  rw [List.drop_zero] at L
  have e : 0 + (encT s.name).length + (enc s.fields.length).length + (encFs s.fields).length = (encS s).length := by unfold encS; rw [List.length_append, List.length_append]; omega
  rw [e] at L
  exact .succ (fun k => schema_Get_eq k true 0 (encS s)) (.elimR hT (.no rfl (.bind hN (.no rfl L.diag))))
def Fault (b : List UInt8) (r : Res) : Prop := ∃ P' e, e ≠ 0 ∧ r = Sum.inr (true, P', b, ⟨[], []⟩, e, ())
theorem get_any_l (b : List UInt8) (o0 : Bool) (o1 : Int) (o2 : List UInt8) (P1 P2 : Int) (name : Bytes) (m : Nat) (hm : m ≤ 16) (hbl : b.length ≤ 140737488355328) : ∀ (d i P : Nat) (acc : List Fld), i + d = m → acc.length = i → P ≤ b.length →
    ∃ res, Ans2 (fun k n => schema_Get_l1 k n o0 o1 o2 (true, P2, b, (m : Int), 0, ()) (true, P1, b, name, 0, ()) (i : Int) true (P : Int) b acc) res ∧
      (Fault b res ∨ ∃ (fs : List Fld) (post : List UInt8), fs.length = d ∧ b.drop P = encFs fs ++ post ∧ Ans (fun k => schema_Check k ⟨name, acc ++ fs⟩) (0, ()) ∧ OkS ⟨name, acc ++ fs⟩ ∧ res = Sum.inr (true, ((P + (encFs fs).length : Nat) : Int), b, ⟨name, acc ++ fs⟩, 0, ())) := by
  intro d
  induction d with
  | zero =>
    intro i P acc hi ha hP
    obtain ⟨e, hc, hok⟩ := check ⟨name, acc⟩
    by_cases he : e = 0
    · subst he
      refine ⟨_, .succ (fun k n => schema_Get_l1_eq k n o0 o1 o2 _ _ i true P b acc) (.no (decide_eq_false (by show ¬ (i : Int) < (m : Int); omega)) (.bind hc (.no rfl .const))), .inr ⟨[], b.drop P, rfl, rfl, ?_, ?_, ?_⟩⟩
      · rw [List.append_nil]; exact hc
      · rw [List.append_nil]; exact hok rfl
      · rw [List.append_nil]; rfl
    · exact ⟨_, .succ (fun k n => schema_Get_l1_eq k n o0 o1 o2 _ _ i true P b acc) (.no (decide_eq_false (by show ¬ (i : Int) < (m : Int); omega)) (.bind hc (.yes (by show (e != 0) = true; simpa using he) .const))), .inl ⟨_, 4, by decide, rfl⟩⟩
  | succ d ih =>
    intro i P acc hi ha hP
    have hY : ∀ {r : Res}, Ans2 (fun k n => (schema_field_2 k true (P : Int) b).bind fun r2 => (bif (r2.2.2.2.2.1 != 0) then some (Sum.inr (r2.1, r2.2.1, r2.2.2.1, (⟨([] : Bytes), ([] : List Fld)⟩ : Sch), r2.2.2.2.2.1, ())) else (bif decide ((List.length acc + List.length ([r2.2.2.2.1] : List Fld)) * 24 ≤ 140737488355328) then schema_Get_l1 k n o0 o1 o2 (true, P2, b, (m : Int), 0, ()) (true, P1, b, name, 0, ()) ((i + 1 : Nat) : Int) r2.1 r2.2.1 r2.2.2.1 (acc ++ ([r2.2.2.2.1] : List Fld)) else none))) r →
        Ans2 (fun k n => schema_Get_l1 k n o0 o1 o2 (true, P2, b, (m : Int), 0, ()) (true, P1, b, name, 0, ()) (i : Int) true (P : Int) b acc) r := by
      intro r h
      have ew : IntKind.u64.wrap ((i : Int) + 1) = ((i + 1 : Nat) : Int) := by rw [show (i : Int) + 1 = ((i + 1 : Nat) : Int) by omega, u64_id (by omega)]
      exact .succ (fun k n => by rw [schema_Get_l1_eq, ew]) (.yes (decide_eq_true (by show (i : Int) < (m : Int); omega)) h)
    rcases field_any b P hbl hP with ⟨e, P', f, he, h⟩ | ⟨f, post, hb, h⟩
    · exact ⟨_, hY (.bind h (.yes (by show (e != 0) = true; simpa using he) .const)), .inl ⟨_, e, he, rfl⟩⟩
    · obtain ⟨_, _, h3⟩ := split_at hP hb
      obtain ⟨res, hr, hF⟩ := ih (i + 1) (P + (encF f).length) (acc ++ [f]) (by omega) (by simp [ha]) h3
      have hk : (acc.length + 1) * 24 ≤ 140737488355328 := by omega
      refine ⟨res, hY (.bind h (.no rfl (.yes (decide_eq_true hk) hr))), ?_⟩
      rcases hF with hF | ⟨fs, post2, hl, hb2, hc, hok, rfl⟩
      · exact .inl hF
      · have ea : acc ++ [f] ++ fs = acc ++ f :: fs := by simp
        have ef : encFs (f :: fs) = encF f ++ encFs fs := by simp [encFs]
        rw [ea] at hc hok ⊢
        refine .inr ⟨f :: fs, post2, by simp [hl], ?_, hc, hok, ?_⟩
        · rw [hb, ef, List.append_assoc, ← hb2, drop_at hb]
        · rw [ef, List.length_append, ← Nat.add_assoc]
theorem get_all (b : List UInt8) (hbl : b.length ≤ 140737488355328) : ∃ res, Ans (fun k => schema_Get k true 0 b) res ∧ (Fault b res ∨ ∃ (s : Sch) (post : List UInt8), OkS s ∧ Ans (fun k => schema_Check k s) (0, ()) ∧ b = encS s ++ post ∧ res = Sum.inr (true, (((encS s).length : Nat) : Int), b, s, 0, ())) := by
  rcases text_any1 b 0 hbl (Nat.zero_le _) with ⟨e, P', he, h⟩ | ⟨t, post, ht, hb, h⟩
  · exact ⟨_, .succ (fun k => schema_Get_eq k true 0 b) (.elimR h (.yes (by show (e != 0) = true; simpa using he) .const)), .inl ⟨_, e, he, rfl⟩⟩
  · obtain ⟨_, _, h3⟩ := split_at (Nat.zero_le _) hb
    rcases num_any b _ hbl h3 with ⟨e, he, hN⟩ | ⟨m, post2, hm, hb2, hN⟩
    · exact ⟨_, .succ (fun k => schema_Get_eq k true 0 b) (.elimR h (.no rfl (.bind hN (.yes (by show (e != 0) = true; simpa using he) .const)))), .inl ⟨_, e, he, rfl⟩⟩
    · obtain ⟨_, _, h4⟩ := split_at h3 hb2
      obtain ⟨res, hr, hF⟩ := get_any_l b true 0 b ((0 + (encT t).length : Nat) : Int) ((0 + (encT t).length + (enc m).length : Nat) : Int) t m hm hbl m 0 _ [] (by omega) rfl h4
      refine ⟨res, .succ (fun k => schema_Get_eq k true 0 b) (.elimR h (.no rfl (.bind hN (.no rfl hr.diag)))), ?_⟩
      rcases hF with hF | ⟨fs, post3, hl, hb3, hc, hok, rfl⟩
      · exact .inl hF
      · rw [List.nil_append] at hc hok ⊢
        refine .inr ⟨⟨t, fs⟩, post3, hok, hc, ?_, ?_⟩
        · unfold encS
          rw [List.drop_zero] at hb
          have h5 : post = enc m ++ post2 := by rw [← hb2]; exact (drop_at (P := 0) hb).symm
          have h6 : post2 = encFs fs ++ post3 := by rw [← hb3]; exact (drop_at hb2).symm
          rw [hb, h5, h6, hl]
          simp only [List.append_assoc]
        · have e : 0 + (encT t).length + (enc m).length + (encFs fs).length = (encS ⟨t, fs⟩).length := by
            show _ = (encT t ++ (enc fs.length ++ encFs fs)).length
            rw [List.length_append, List.length_append, hl]; omega
          rw [e]
/-! ### The law -/
theorem at2 (P : Int) (b : List UInt8) : Ans (fun k => wire_Reader_At_2 k true P b) (true, P, b, P, ()) := .succ (fun k => wire_Reader_At_2_eq k true P b) (.bind (rnone3 P b) (.no rfl (.of (fun k => wire_Reader_At_2_j0_eq k true P b _) .const)))
theorem newR {b : List UInt8} (hl : b.length ≤ 140737488355328) : Ans (fun k => wire_NewReader k b) (true, 0, b, ()) := .succ (fun k => wire_NewReader_eq k b) (.yes (decide_eq_true (by omega)) .const)
theorem newW : Ans (fun k => wire_NewWriter k 65536) (Sum.inr (true, 65536, 0, ())) := .succ (fun k => wire_NewWriter_eq k 65536) (.yes rfl (.no rfl (.of (fun k => wire_NewWriter_j0_eq k 65536) .const)))
theorem same_loop (l : List Fld) (hs : l.length ≤ 16) : ∀ (d t : Nat), t + d = l.length → Ans2 (fun k n => api_Field_2_l0 k n l l (t : Int)) (true, ()) := by
  intro d
  induction d with
  | zero =>
    intro t ht
    exact .succ (fun k n => api_Field_2_l0_eq k n _ _ t) (.no (nlt_nat (by omega)) .const)
  | succ d ih =>
    intro t ht
    have h1 : t < l.length := by omega
    have hc : (!((l[t].name == l[t].name) && (l[t].k == l[t].k))) = false := by simp
    exact .succ (fun k n => by rw [api_Field_2_l0_eq, wrap_succ (m := 140737488355328) (i := t) (by omega) (by omega)]) (.yes (lt_nat h1) (.bind (idxA h1) (.bind (idxA h1) (.no hc (ih (t + 1) (by omega))))))
theorem same (s : Sch) (hs : OkS s) : Ans (fun k => schema_Same k s s) (true, ()) := by
  have e1 : ((s.name == s.name) == true) = true := by simp
  have e3 : (((List.length s.fields : Nat) : Int) != ((List.length s.fields : Nat) : Int)) = false := by simp
  exact .succ (fun k => schema_Same_eq k s s) (.yes e1 (.bind (.succ (fun k => api_Field_2_eq k _ _) (.no e3 (same_loop s.fields hs.2.1 s.fields.length 0 (by omega)).diag)) .const))
theorem took {b post x : List UInt8} (hb : b = x ++ post) : (x == List.drop 0 (List.take x.length b)) = true := by
  rw [hb, List.take_left]; simp
section
variable (s : Sch) (b : List UInt8) (hl : b.length ≤ 140737488355328)
include hl
theorem tail : Ans (fun k => law07_SchemaBack_j0 k s b) (true, ()) := by
  obtain ⟨res, hr, hF⟩ := get_all b hl
  refine .of (fun k => law07_SchemaBack_j0_eq k s b) (.bind (newR hl) ?_)
  rcases hF with ⟨P', e, he, rfl⟩ | ⟨x, post, hok, hc, hb, rfl⟩
  · exact .elimR hr (.yes (by show (e != 0) = true; simpa using he) (.yes rfl (.yes rfl awakes)))
  · have hxl := encS_len hok
    have hble : (encS x).length ≤ b.length := by rw [hb, List.length_append]; omega
    refine .elimR hr (.no rfl (.elimR newW (.elimR (put_ok hok hc) (.yes rfl (.bind hc (.yes rfl (.bind (at2 _ b) (.yes ?_ (.bind (done3 65536 (b := encS x) (by omega)) (.bind (at2 _ b) (.bind (a := (encS x).length) (.of (fun k => bnd_le hble) .const) (.yes ?_ awakes))))))))))))
    · show (decide ((((encS x).length : Nat) : Int) ≤ ((List.length b : Nat) : Int)) == true) = true
      simp; omega
    · show ((encS x == List.drop 0 (List.take (encS x).length b)) == true) = true
      rw [took hb]; rfl
theorem law : ∃ k, law07_SchemaBack k s b = some (true, ()) := by
  suffices h : Ans (fun k => law07_SchemaBack k s b) (true, ()) from h.ex
  have T := tail s b hl
  obtain ⟨e, hc, hok⟩ := check s
  by_cases he : e = 0
  · subst he
    have hS := hok rfl
    have hxl := encS_len hS
    exact .succ (fun k => law07_SchemaBack_eq k s b) (.elimR newW (.elimR (put_ok hS hc) (.bind hc (.no rfl (.yes rfl (.bind (done3 65536 (b := encS s) (by omega)) (.bind (newR (by show (encS s).length ≤ _; omega)) (.elimR (get_known hS hc) (.yes rfl (.bind (end2 (encS s)) (.yes rfl (.bind (same s hS) (.no rfl T)))))))))))))
  · have e1 : (!((e == 0) == (e == 0))) = false := by simp
    have e2 : (e == 0) = false := by simpa using he
    exact .succ (fun k => law07_SchemaBack_eq k s b) (.elimR newW (Ans.elimL (put_no he hc) (.bind hc (.no e1 (.no e2 T)))))
end
theorem good_bytes {xs : List UInt8} (h : Good (.sl .u8 false xs)) : xs.length ≤ 140737488355328 := by
  cases h with
  | sl _ hb _ =>
    have h1 : List.length (α := UInt8) xs * 1 ≤ reachBytes := hb
    simp only [reachBytes] at h1
    omega
end Go.Ev.HpSK
