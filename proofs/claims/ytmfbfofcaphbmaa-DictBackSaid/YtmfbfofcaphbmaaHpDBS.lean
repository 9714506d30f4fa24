/-
  DictBack, the plain law: what a dictionary does.
-/
import Derived.Test.YtmfbfofcaphbmaaHpDBQ
set_option linter.unusedVariables false
set_option linter.unusedSectionVars false
namespace Go.Ev.HpDB
theorem none1 (M : Int) (ks : List Bytes) (vs : List Int) : Ans (fun k => dict_Dict_none k M ks vs) (M, ks, vs, false, ()) := .succ (fun k => dict_Dict_none_eq k M ks vs) .const
theorem dnone2 (M : Int) (l ks : List Bytes) (vs : List Int) : Ans (fun k => dict_Dict_none_2 k M l ks vs) (M, l, ks, vs, false, ()) := .succ (fun k => dict_Dict_none_2_eq k M l ks vs) .const
theorem new60 : Ans (fun k => dict_New k 60) (Sum.inr (60, [], [], 0, ())) := .succ (fun k => dict_New_eq k 60) (.yes rfl (.no rfl (.of (fun k => dict_New_j0_eq k 60) .const)))
theorem add_first {s : Bytes} (h : List.length s ≤ 256) : Ans (fun k => dict_Dict_Add k s 60 [] []) (Sum.inr (60, [s], nums 1, [s], 0, 0, ())) :=
  .succ (fun k => dict_Dict_Add_eq k s 60 [] []) (.bind (none1 60 [] []) (.no rfl (.no rfl (.yes (by simp; omega) (.no rfl (.of (fun k => dict_Dict_Add_j0_eq k s 60 [] [] _) (.yes rfl .const)))))))
theorem add_first_long {s : Bytes} (h : ¬ List.length s ≤ 256) : Ans (fun k => dict_Dict_Add k s 60 [] []) (Sum.inl (60, [], [], 0, 2, ())) :=
  .succ (fun k => dict_Dict_Add_eq k s 60 [] []) (.bind (none1 60 [] []) (.no rfl (.no rfl (.no (by simp; omega) .const))))
theorem add_old {s : Bytes} {l : List Bytes} (h : s ∈ l) : Ans (fun k => dict_Dict_Add_2 k s 60 l l (nums l.length)) (Sum.inl (60, l, l, nums l.length, ((l.idxOf s : Nat) : Int), 0, ())) := by
  refine .succ (fun k => dict_Dict_Add_2_eq k s 60 l l _) (.bind (dnone2 60 l l _) (.no rfl (.yes (by show hasK l s = true; rw [hasK_iff]; exact decide_eq_true h) ?_)))
  show Ans (fun k => some (Sum.inl (60, l, l, nums l.length, lookM l (nums l.length) s 0, 0, ()))) _
  rw [lookNums h]; exact .const
theorem add_long {s : Bytes} {l : List Bytes} (h : s ∉ l) (hs : ¬ List.length s ≤ 256) : Ans (fun k => dict_Dict_Add_2 k s 60 l l (nums l.length)) (Sum.inl (60, l, l, nums l.length, 0, 2, ())) :=
  .succ (fun k => dict_Dict_Add_2_eq k s 60 l l _) (.bind (dnone2 60 l l _) (.no rfl (.no (by show hasK l s = false; rw [hasK_iff]; exact decide_eq_false h) (.no (by simp; omega) .const))))
theorem bndl {n : Nat} : Ans (fun _ => bnd (.int .i64 ((n : Nat) : Int)) n) n := .of (fun _ => bnd_len n) .const
theorem add_new {s : Bytes} {l : List Bytes} (h : s ∉ l) (hs : List.length s ≤ 256) (hl : l.length < 60) : Ans (fun k => dict_Dict_Add_2 k s 60 l l (nums l.length)) (Sum.inr (60, l, l ++ [s], nums (l ++ [s]).length, l ++ [s], ((l.length : Nat) : Int), 0, ())) := by
  refine .succ (fun k => dict_Dict_Add_2_eq k s 60 l l _) (.bind (dnone2 60 l l _) (.no rfl (.no (by show hasK l s = false; rw [hasK_iff]; exact decide_eq_false h) (.yes (by simp; omega) (.no (decide_eq_false (by show ¬ ((List.length l : Nat) : Int) ≥ 60; omega)) (.of (fun k => dict_Dict_Add_2_j0_eq k s 60 l l _ _) (.bind (a := l.length) bndl (.bind (a := l.length) bndl (.yes (by simp) ?_)))))))))
  show Ans (fun k => (bif (decide ((List.length (List.drop 0 (List.take l.length l)) + List.length ([s] : List Bytes)) * 16 ≤ 140737488355328) && decide (0 < List.length ([s] : List Bytes))) then some (Sum.inr (60, l, (putK l s), (putV l (nums l.length) s ((List.length l : Nat) : Int)), ((List.drop 0 (List.take l.length l)) ++ ([s] : List Bytes)), ((List.length l : Nat) : Int), 0, ())) else none)) _
  rw [putK_new l s h, putNums h, List.take_length, List.drop_zero]
  exact .yes (by simp; omega) .const
theorem len1 (M : Int) (ks : List Bytes) (vs : List Int) : Ans (fun k => dict_Dict_Len k M ks vs) (M, ks, vs, 0, ()) := .succ (fun k => dict_Dict_Len_eq k M ks vs) (.bind (none1 M ks vs) (.no rfl .const))
theorem len2 (M : Int) (l ks : List Bytes) (vs : List Int) : Ans (fun k => dict_Dict_Len_2 k M l ks vs) (M, l, ks, vs, ((List.length l : Nat) : Int), ()) := .succ (fun k => dict_Dict_Len_2_eq k M l ks vs) (.bind (dnone2 M l ks vs) (.no rfl .const))
theorem get2 (M : Int) (l ks : List Bytes) (vs : List Int) {i : Nat} (h : i < l.length) : Ans (fun k => dict_Dict_Get_2 k (i : Int) M l ks vs) (M, l, ks, vs, l[i], 0, ()) :=
  .succ (fun k => dict_Dict_Get_2_eq k i M l ks vs) (.bind (dnone2 M l ks vs) (.no rfl (.no (decide_eq_false (by omega)) (.no (decide_eq_false (by show ¬ (i : Int) ≥ ((List.length l : Nat) : Int); omega)) (.of (fun k => dict_Dict_Get_2_j0_eq k i M l ks vs _) (.bind (idxA0 h) (.bind (getA0 h) .const)))))))
/-! ### Writing -/
theorem putE : Ans (fun k => dict_Dict_Put_2 k 60 true 65536 [] []) (Sum.inr (60, true, 65536, [], [], enc 0, 0, ())) :=
  .succ (fun k => dict_Dict_Put_2_eq k 60 true 65536 [] []) (.bind (none1 60 [] []) (.no rfl (.elimR (n2r (n := 0) (by omega)) (.no rfl (Ans2.diag (f := fun k n => dict_Dict_Put_2_l1 k n 60 true 65536 [] [] _ _) (.succ (fun k n => dict_Dict_Put_2_l1_eq k n 60 true 65536 [] [] _ _) .const))))))
theorem put_loop4 (l : List Bytes) (hl : l.length ≤ 60) (ht : ∀ t ∈ l, List.length t ≤ 256) (o : Bool) (o1 : Int) (ks : List Bytes) (vs : List Int) : ∀ (d i : Nat), i + d = l.length →
    Ans2 (fun k n => dict_Dict_Put_4_l1 k n 60 true 65536 l ks vs (60, l, ks, vs, false, ()) (i : Int) true 65536 (enc l.length ++ encTs (l.take i))) (Sum.inr (60, true, 65536, l, ks, vs, encL l, 0, ())) := by
  intro d
  induction d with
  | zero =>
    intro i hi
    rw [List.take_of_length_le (by omega)]
    exact .succ (fun k n => dict_Dict_Put_4_l1_eq k n 60 true 65536 l ks vs _ i true 65536 _) (.no (nlt_nat (xs := l) (by omega)) .const)
  | succ d ih =>
    intro i hi
    have hlt : i < l.length := by omega
    have h1 := encTs_len (l.take i) fun t h => ht t (List.mem_of_mem_take h)
    rw [List.length_take] at h1
    have h2 : min i l.length ≤ 60 := by omega
    have h10 := enc_ten (n := l.length) (by omega)
    have hb : (enc l.length ++ encTs (l.take i)).length ≤ 60000 := by rw [List.length_append]; omega
    have hti := ht _ (List.getElem_mem hlt)
    have L := ih (i + 1) (by omega)
    rw [List.take_succ_eq_append_getElem hlt, encTs_add, ← List.append_assoc] at L
    exact .succ (fun k n => by rw [dict_Dict_Put_4_l1_eq, wrap_succ (m := 100) (i := i) (by omega) (by omega)]) (.yes (lt_nat hlt) (.bind (idxA0 hlt) (.bind (getA0 hlt) (Ans2.elimR (t3r (s := l[i]) (b := enc l.length ++ encTs (l.take i)) (by omega) hb) (.no rfl L)))))
theorem putL (l : List Bytes) (hl : l.length ≤ 60) (ht : ∀ t ∈ l, List.length t ≤ 256) (ks : List Bytes) (vs : List Int) : Ans (fun k => dict_Dict_Put_4 k 60 true 65536 l ks vs) (Sum.inr (60, true, 65536, l, ks, vs, encL l, 0, ())) := by
  have L := put_loop4 l hl ht true 0 ks vs l.length 0 (by omega)
  rw [show encTs (l.take 0) = [] by simp [encTs], List.append_nil] at L
  have e : IntKind.u64.wrap ((List.length l : Nat) : Int) = ((l.length : Nat) : Int) := u64_id (n := List.length l) (by omega)
  have N : Ans (fun k => wire_Writer_Num_2 k (IntKind.u64.wrap ((List.length l : Nat) : Int)) true 65536) (Sum.inr (true, 65536, enc l.length, 0, ())) := by rw [e]; exact n2r (by omega)
  exact .succ (fun k => dict_Dict_Put_4_eq k 60 true 65536 l ks vs) (.bind (dnone2 60 l ks vs) (.no rfl (.elimR N (.no rfl L.diag))))
/-! ### Reading -/
theorem read_loop (b : List UInt8) (o0 : Bool) (o1 : Int) (o2 : List UInt8) (P2 : Int) (l : List Bytes) (hl : l.length ≤ 60) (hd : l.Nodup) (ht : ∀ t ∈ l, List.length t ≤ 256) (hbl : b.length ≤ 140737488355328) : ∀ (d i P : Nat), i + d = l.length → P ≤ b.length → b.drop P = encTs (l.drop i) →
    Ans2 (fun k n => dict_Read_l5 k n 60 o0 o1 o2 (true, P2, b, ((l.length : Nat) : Int), 0, ()) (i : Int) true (P : Int) b 60 (l.take i) (l.take i) (nums (l.take i).length)) (Sum.inr (Sum.inr (Sum.inr (Sum.inr (Sum.inr (true, ((b.length : Nat) : Int), b, 60, l, l, nums l.length, 0, ())))))) := by
  intro d
  induction d with
  | zero =>
    intro i P hi hP hb
    have h1 : l.drop i = [] := List.drop_of_length_le (by omega)
    have e : P = b.length := by
      rw [h1] at hb
      have := congrArg List.length hb
      rw [List.length_drop] at this
      simp [encTs] at this; omega
    rw [List.take_of_length_le (by omega), e]
    exact .succ (fun k n => dict_Read_l5_eq k n 60 o0 o1 o2 _ i true _ b 60 l l _) (.no (decide_eq_false (by show ¬ (i : Int) < ((l.length : Nat) : Int); omega)) .const)
  | succ d ih =>
    intro i P hi hP hb
    have hlt : i < l.length := by omega
    have e : encTs (l.drop i) = encT l[i] ++ encTs (l.drop (i + 1)) := by unfold encTs; rw [List.drop_eq_getElem_cons hlt, List.flatMap_cons]
    rw [e] at hb
    have hti := ht _ (List.getElem_mem hlt)
    have hT := text_good2 hbl hP hti hb
    obtain ⟨_, _, h3⟩ := split_at hP hb
    have hnot : l[i] ∉ l.take i := by
      intro hm
      obtain ⟨j, hj, hje⟩ := List.mem_iff_getElem.1 hm
      rw [List.length_take] at hj
      rw [List.getElem_take] at hje
      exact List.pairwise_iff_getElem.1 hd j i (by omega) hlt (by omega) hje
    have hA := add_new (l := l.take i) hnot hti (by rw [List.length_take]; omega)
    have L := ih (i + 1) (P + (encT l[i]).length) (by omega) h3 (drop_at hb)
    rw [List.take_succ_eq_append_getElem hlt] at L
    have ew : IntKind.u64.wrap ((i : Int) + 1) = ((i + 1 : Nat) : Int) := by rw [show (i : Int) + 1 = ((i + 1 : Nat) : Int) by omega, u64_id (by omega)]
    exact .succ (fun k n => by rw [dict_Read_l5_eq, ew]) (.yes (decide_eq_true (by show (i : Int) < ((l.length : Nat) : Int); omega)) (.bind hT (.no rfl (.no (by show hasK (l.take i) l[i] = false; rw [hasK_iff]; exact decide_eq_false hnot) (Ans2.elimR hA (.no rfl L))))))
def readE : (Bool × Int × List UInt8 × Int × List Bytes × List Int × Int × Unit) := (true, ((encL []).length : Int), encL [], 60, [], [], 0, ())
theorem read_empty : Ans (fun k => dict_Read k 60 true 0 (encL [])) (Sum.inr (Sum.inr (Sum.inr (Sum.inr (Sum.inl (true, (((encL []).length : Nat) : Int), encL [], 60, [], [], 0, ())))))) := by
  have h0 : (encL []).drop 0 = enc 0 ++ [] := rfl
  have h10 := enc_ten (n := 0) (by omega)
  have hl : (encL []).length = (enc 0).length := by simp [encL, encTs]
  have hN := num_known (P := 0) (most := 60) (by omega) (by omega) (by omega) (by omega) h0
  have L : Ans2 (fun k n => dict_Read_l3 k n 60 true 0 (encL []) (true, ((0 + (enc 0).length : Nat) : Int), encL [], ((0 : Nat) : Int), 0, ()) 0 true ((0 + (enc 0).length : Nat) : Int) (encL []) 60 [] []) (Sum.inr (Sum.inr (Sum.inr (Sum.inr (Sum.inl (true, (((encL []).length : Nat) : Int), encL [], 60, [], [], 0, ())))))) := by
    rw [hl, Nat.zero_add]
    exact .succ (fun k n => dict_Read_l3_eq k n 60 true 0 _ _ 0 true _ _ 60 [] []) (.no (decide_eq_false (show ¬ (0 : Int) < ((0 : Nat) : Int) by omega)) .const)
  exact .succ (fun k => dict_Read_eq k 60 true 0 _) (.elimR new60 (.no rfl (.elimR (f := fun k => wire_Reader_Num k (IntKind.u64.wrap 60) true 0 (encL [])) hN (.no rfl L.diag))))
theorem read_list (l : List Bytes) (hl0 : 0 < l.length) (hl : l.length ≤ 60) (hd : l.Nodup) (ht : ∀ t ∈ l, List.length t ≤ 256) : Ans (fun k => dict_Read k 60 true 0 (encL l)) (Sum.inr (Sum.inr (Sum.inr (Sum.inr (Sum.inr (true, (((encL l).length : Nat) : Int), encL l, 60, l, l, nums l.length, 0, ())))))) := by
  have h0 : (encL l).drop 0 = enc l.length ++ encTs l := rfl
  have h10 := enc_ten (n := l.length) (by omega)
  have h1 := encTs_len l ht
  have hbl : (encL l).length ≤ 140737488355328 := by unfold encL; rw [List.length_append]; omega
  have hN := num_known (P := 0) (most := 60) hbl (by omega) hl (by omega) h0
  obtain ⟨_, _, h3⟩ := split_at (Nat.zero_le _) h0
  have hd0 := drop_at h0
  have e : encTs l = encT l[0] ++ encTs (l.drop 1) := by
    conv => lhs; rw [← List.drop_zero (l := l)]
    unfold encTs; rw [List.drop_eq_getElem_cons hl0, List.flatMap_cons]
  rw [e] at hd0
  have ht0 := ht _ (List.getElem_mem hl0)
  have hT := text_good2 hbl h3 ht0 hd0
  obtain ⟨_, _, h4⟩ := split_at h3 hd0
  have L := read_loop (encL l) true 0 (encL l) ((0 + (enc l.length).length : Nat) : Int) l hl hd ht hbl (l.length - 1) 1 _ (by omega) h4 (drop_at hd0)
  have e1 : l.take 1 = [l[0]] := by
    have := List.take_succ_eq_append_getElem hl0
    simpa using this
  rw [e1] at L
  have L3 : Ans2 (fun k n => dict_Read_l3 k n 60 true 0 (encL l) (true, ((0 + (enc l.length).length : Nat) : Int), encL l, ((l.length : Nat) : Int), 0, ()) 0 true ((0 + (enc l.length).length : Nat) : Int) (encL l) 60 [] []) _ :=
    .succ (fun k n => dict_Read_l3_eq k n 60 true 0 _ _ 0 true _ _ 60 [] []) (.yes (decide_eq_true (by show (0 : Int) < ((l.length : Nat) : Int); omega)) (.bind hT (.no rfl (.no rfl (Ans2.elimR (add_first ht0) (.no rfl L))))))
  exact .succ (fun k => dict_Read_eq k 60 true 0 _) (.elimR new60 (.no rfl (.elimR (f := fun k => wire_Reader_Num k (IntKind.u64.wrap 60) true 0 (encL l)) hN (.no rfl L3.diag))))
end Go.Ev.HpDB
