/-
  DictBack, the plain law.
-/
import Derived.Test.YtmfbfofcaphbmaaHpDBS
set_option linter.unusedVariables false
set_option linter.unusedSectionVars false
namespace Go.Ev.HpDB
theorem awake_run (k : Nat) : law23_awake (k + 30) = some (true, ()) := by kernel_rfl
theorem awake : Ans (fun k => law23_awake k) (true, ()) := .plus 30 awake_run
theorem awakes : Ans (fun k => (law23_awake k).bind fun r => some (r.1, ())) (true, ()) := .bind awake .const
theorem newR {b : List UInt8} (hl : b.length ≤ 140737488355328) : Ans (fun k => wire_NewReader k b) (true, 0, b, ()) := .succ (fun k => wire_NewReader_eq k b) (.yes (decide_eq_true (by omega)) .const)
theorem newW : Ans (fun k => wire_NewWriter k 65536) (Sum.inr (true, 65536, 0, ())) := .succ (fun k => wire_NewWriter_eq k 65536) (.yes rfl (.no rfl (.of (fun k => wire_NewWriter_j0_eq k 65536) .const)))
section
variable (s : List Bytes)
theorem back (l : List Bytes) (hl : l.length ≤ 60) (ns : List Int) (hn : ns.length ≤ 50) (hN : ∀ (j : Nat) (h : j < ns.length) (h' : j < s.length), ∃ (m : Nat) (hm : m < l.length), ns[j] = (m : Int) ∧ l[m] = s[j]) : ∀ (d i : Nat), i + d = ns.length →
    Ans2 (fun k n => law23_DictBack_l5 k n s ns (i : Int) 60 60 l l (nums l.length) l l (nums l.length)) (true, ()) := by
  intro d
  induction d with
  | zero =>
    intro i hi
    exact .succ (fun k n => law23_DictBack_l5_eq k n s ns i 60 60 l l _ l l _) (.no (by rw [nlt_nat (by omega)]; rfl) awakes.two)
  | succ d ih =>
    intro i hi
    have h1 : i < ns.length := by omega
    by_cases h2 : i < s.length
    · obtain ⟨m, hm, e1, e2⟩ := hN i h1 h2
      have G := get2 60 l l (nums l.length) hm
      have c : (!(l[m] == s[i])) = false := by rw [e2]; simp
      rw [← e1] at G
      exact .succ (fun k n => law23_DictBack_l5_eq k n s ns i 60 60 l l _ l l _) (.yes (by rw [lt_nat h1]; rfl) (.yes (lt_nat h2) (.of (fun k n => by rw [law23_DictBack_j12_eq, wrap_succ (m := 100) (i := i) (by omega) (by omega)]) (.bind (idxA0 h1) (.bind (getA0 h1) (.bind G (.bind (idxA0 h1) (.bind (getA0 h1) (.bind G (.yes rfl (.yes rfl (.bind (idxA0 h2) (.yes (by show ((!(l[m] == s[i])) == false) = true; rw [c]; rfl) (.bind (idxA0 h2) (.no c (ih (i + 1) (by omega)))))))))))))))))
    · exact .succ (fun k n => law23_DictBack_l5_eq k n s ns i 60 60 l l _ l l _) (.yes (by rw [lt_nat h1]; rfl) (.no (nlt_nat (by omega)) awakes.two))
theorem fin (l : List Bytes) (hl0 : 0 < l.length) (hl : l.length ≤ 60) (hd : l.Nodup) (ht : ∀ t ∈ l, List.length t ≤ 256) (ns : List Int) (hn : ns.length ≤ 50) (hN : ∀ (j : Nat) (h : j < ns.length) (h' : j < s.length), ∃ (m : Nat) (hm : m < l.length), ns[j] = (m : Int) ∧ l[m] = s[j]) :
    Ans (fun k => law23_DictBack_j6 k s 60 ns l l (nums l.length)) (true, ()) := by
  have h10 := enc_ten (n := l.length) (by omega)
  have h1 := encTs_len l ht
  have hbl : (encL l).length ≤ 60000 := by unfold encL; rw [List.length_append]; omega
  have ce : ((((List.length l : Nat) : Int) != ((List.length l : Nat) : Int)) == false) = true := by simp
  exact .of (fun k => law23_DictBack_j6_eq k s 60 ns l l _) (.elimR newW (.elimR (putL l hl ht l (nums l.length)) (.no rfl (.bind (done3 65536 (b := encL l) (by omega)) (.bind (newR (by show (encL l).length ≤ _; omega)) (.elimR (read_list l hl0 hl hd ht) (.sumR (.sumR (.sumR (.sumR (.yes rfl (.bind (len2 60 l l (nums l.length)) (.bind (len2 60 l l (nums l.length)) (.yes ce (.bind (end2 (encL l)) (.no rfl (.of (fun k => law23_DictBack_j8_eq k s _ ns _) (back s l hl ns hn hN ns.length 0 (by omega)).diag)))))))))))))))))
theorem fin0 : Ans (fun k => law23_DictBack_j2 k [] 60 [] [] []) (true, ()) := by
  have h10 := enc_ten (n := 0) (by omega)
  have hl : (encL []).length = (enc 0).length := by simp [encL, encTs]
  have he : encL [] = enc 0 := by simp [encL, encTs]
  have R := read_empty
  have E := end2 (encL [])
  rw [he] at R E
  have L : Ans2 (fun k n => law23_DictBack_l2 k n [] [] 0 60 60 [] [] [] []) (true, ()) := .succ (fun k n => law23_DictBack_l2_eq k n [] [] 0 60 60 [] [] [] []) (.no rfl awakes.two)
  exact .of (fun k => law23_DictBack_j2_eq k [] 60 [] [] []) (.elimR newW (.elimR putE (.no rfl (.bind (done3 65536 (b := enc 0) (by omega)) (.bind (newR (by show (enc 0).length ≤ _; omega)) (.elimR R (.sumR (.sumR (.sumR (.sumL (.yes rfl (.bind (len1 60 [] []) (.bind (len1 60 [] []) (.yes rfl (.bind E (.no rfl (.of (fun k => law23_DictBack_j3_eq k [] 60 [] 60 [] [] [] []) L.diag)))))))))))))))))
theorem adds (D : Nat) : ∀ (d i : Nat) (l : List Bytes) (ns : List Int), i + d = 50 → 0 < l.length → l.length ≤ i → l.Nodup → (∀ t ∈ l, List.length t ≤ 256) → ns.length = i → (∀ (j : Nat) (h : j < ns.length) (h' : j < s.length), ∃ (m : Nat) (hm : m < l.length), ns[j] = (m : Int) ∧ l[m] = s[j]) →
    Ans2 (fun k n => law23_DictBack_l1 k n s (i : Int) 60 ns l l (nums l.length)) (true, ()) := by
  intro d
  induction d with
  | zero =>
    intro i l ns hi hl0 hl hd ht hn hN
    have F := fin s l hl0 (by omega) hd ht ns (by omega) hN
    refine .succ (fun k n => law23_DictBack_l1_eq k n s i 60 ns l l _) ?_
    by_cases h1 : i < s.length
    · exact .yes (by rw [lt_nat h1]; rfl) (.no (decide_eq_false (by omega)) F.two)
    · exact .no (by rw [nlt_nat (by omega)]; rfl) F.two
  | succ d ih =>
    intro i l ns hi hl0 hl hd ht hn hN
    have F := fin s l hl0 (by omega) hd ht ns (by omega) hN
    refine .succ (fun k n => law23_DictBack_l1_eq k n s i 60 ns l l _) ?_
    by_cases h1 : i < s.length
    · refine .yes (by rw [lt_nat h1]; rfl) (.yes (decide_eq_true (by omega)) (.of (fun k n => by rw [law23_DictBack_j5_eq, wrap_succ (m := 100) (i := i) (by omega) (by omega)]) (.bind (idxA0 h1) ?_)))
      by_cases hm : s[i] ∈ l
      · refine Ans2.elimL (add_old hm) (.no rfl (.yes (decide_eq_true (by show (ns.length + 1) * 8 ≤ 140737488355328; omega)) ?_))
        refine ih (i + 1) l (ns ++ [((l.idxOf s[i] : Nat) : Int)]) (by omega) hl0 (by omega) hd ht (by simp [hn]) fun j h h' => ?_
        by_cases hj : j < ns.length
        · obtain ⟨m, h3, h4, h5⟩ := hN j hj h'
          exact ⟨m, h3, by rw [List.getElem_append_left hj]; exact h4, h5⟩
        · have ej : j = i := by simp at h; omega
          subst ej
          exact ⟨l.idxOf s[j], List.idxOf_lt_length_of_mem hm, by rw [List.getElem_append_right (by omega)]; simp [hn], idxOf_get hm⟩
      · by_cases hs : List.length s[i] ≤ 256
        · refine Ans2.elimR (add_new hm hs (by omega)) (.no rfl (.yes (decide_eq_true (by show (ns.length + 1) * 8 ≤ 140737488355328; omega)) ?_))
          refine ih (i + 1) (l ++ [s[i]]) (ns ++ [((l.length : Nat) : Int)]) (by omega) (by simp) (by simp; omega) ?_ ?_ (by simp [hn]) fun j h h' => ?_
          · rw [List.nodup_append]
            refine ⟨hd, by simp, fun x hx y hy => ?_⟩
            simp at hy; subst hy
            intro e; subst e; exact hm hx
          · intro t h
            rcases List.mem_append.1 h with h | h
            · exact ht t h
            · simp at h; subst h; exact hs
          · by_cases hj : j < ns.length
            · obtain ⟨m, h3, h4, h5⟩ := hN j hj h'
              exact ⟨m, by simp; omega, by rw [List.getElem_append_left hj]; exact h4, by rw [List.getElem_append_left h3]; exact h5⟩
            · have ej : j = i := by simp at h; omega
              subst ej
              exact ⟨l.length, by simp, by rw [List.getElem_append_right (by omega)]; simp [hn], by simp⟩
        · exact Ans2.elimL (add_long hm hs) (.yes rfl (.yes rfl (.bind (idxA0 h1) (.yes (by simp; omega) awakes.two))))
    · exact .no (by rw [nlt_nat (by omega)]; rfl) F.two
theorem law : ∃ k, law23_DictBack k s = some (true, ()) := by
  suffices h : Ans (fun k => law23_DictBack k s) (true, ()) from h.ex
  refine .succ (fun k => law23_DictBack_eq k s) (.elimR new60 (.no rfl (.of (fun k => law23_DictBack_j0_eq k s _) ?_)))
  refine Ans2.diag (f := fun k n => law23_DictBack_l0 k n s 0 60 [] [] []) (.succ (fun k n => law23_DictBack_l0_eq k n s 0 60 [] [] []) ?_)
  by_cases h0 : 0 < s.length
  · refine .yes (by simp; omega) (.yes rfl (.of (fun k n => law23_DictBack_j1_eq k n s 0 60 [] [] []) (.bind (idxA0 h0) ?_)))
    by_cases hs : List.length s[0] ≤ 256
    · refine Ans2.elimR (add_first hs) (.no rfl (.yes rfl ?_))
      exact adds s 0 49 1 [s[0]] [0] rfl (by simp) (by simp) (by simp) (by simp; exact hs) rfl fun j h h' => by
        have : j = 0 := by simp at h; omega
        subst this
        exact ⟨0, by simp, rfl, rfl⟩
    · exact Ans2.elimL (add_first_long hs) (.yes rfl (.yes rfl (.bind (idxA0 h0) (.yes (by simp; omega) awakes.two))))
  · have e : s = [] := List.eq_nil_of_length_eq_zero (by omega)
    subst e
    exact .no rfl fin0.two
end
end Go.Ev.HpDB
