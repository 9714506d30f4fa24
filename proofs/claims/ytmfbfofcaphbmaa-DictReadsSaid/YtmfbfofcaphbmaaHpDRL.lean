/-
  DictReads, the plain law.
-/
import Derived.Test.YtmfbfofcaphbmaaHpDRS
set_option linter.unusedVariables false
set_option linter.unusedSectionVars false
namespace Go.Ev.HpDR
theorem awake_run (k : Nat) : law23_awake (k + 30) = some (true, ()) := by kernel_rfl
theorem awake : Ans (fun k => law23_awake k) (true, ()) := .plus 30 awake_run
theorem awakes : Ans (fun k => (law23_awake k).bind fun r => some (r.1, ())) (true, ()) := .bind awake .const
theorem newR {b : List UInt8} (hl : b.length ≤ 140737488355328) : Ans (fun k => wire_NewReader k b) (true, 0, b, ()) := .succ (fun k => wire_NewReader_eq k b) (.yes (decide_eq_true (by omega)) .const)
theorem at1 (P : Int) (b : List UInt8) : Ans (fun k => wire_Reader_At k true P b) (true, P, b, P, ()) := .succ (fun k => wire_Reader_At_eq k true P b) (.bind (rnone2 P b) (.no rfl (.of (fun k => wire_Reader_At_j0_eq k true P b _) .const)))
theorem at2 (P : Int) (b : List UInt8) : Ans (fun k => wire_Reader_At_2 k true P b) (true, P, b, P, ()) := .succ (fun k => wire_Reader_At_2_eq k true P b) (.bind (rnone3 P b) (.no rfl (.of (fun k => wire_Reader_At_2_j0_eq k true P b _) .const)))
/-! ### The program's dictionary -/
theorem none1 (M : Int) (ks : List Bytes) (vs : List Int) : Ans (fun k => dict_Dict_none_2 k M ks vs) (M, ks, vs, false, ()) := .succ (fun k => dict_Dict_none_2_eq k M ks vs) .const
theorem dnone2 (M : Int) (l ks : List Bytes) (vs : List Int) : Ans (fun k => dict_Dict_none_3 k M l ks vs) (M, l, ks, vs, false, ()) := .succ (fun k => dict_Dict_none_3_eq k M l ks vs) .const
theorem add_first {M : Nat} (hM : 0 < M) {s : Bytes} (h : List.length s ≤ 256) : Ans (fun k => dict_Dict_Add k s M [] []) (Sum.inr ((M : Int), [s], nums 1, [s], 0, 0, ())) :=
  .succ (fun k => dict_Dict_Add_eq k s M [] []) (.bind (none1 M [] []) (.no rfl (.no rfl (.yes (by simp; omega) (.no (decide_eq_false (by show ¬ (0 : Int) ≥ (M : Int); omega)) (.of (fun k => dict_Dict_Add_j0_eq k s M [] [] _) (.yes rfl .const)))))))
theorem bndl {n : Nat} : Ans (fun _ => bnd (.int .i64 ((n : Nat) : Int)) n) n := .of (fun _ => bnd_len n) .const
theorem add_new {M : Nat} {s : Bytes} {l : List Bytes} (h : s ∉ l) (hs : List.length s ≤ 256) (hl : l.length < M) (hM : M ≤ 4096) : Ans (fun k => dict_Dict_Add_2 k s M l l (nums l.length)) (Sum.inr ((M : Int), l, l ++ [s], nums (l ++ [s]).length, l ++ [s], ((l.length : Nat) : Int), 0, ())) := by
  refine .succ (fun k => dict_Dict_Add_2_eq k s M l l _) (.bind (dnone2 M l l _) (.no rfl (.no (by show hasK l s = false; rw [hasK_iff]; exact decide_eq_false h) (.yes (by simp; omega) (.no (decide_eq_false (by show ¬ ((List.length l : Nat) : Int) ≥ (M : Int); omega)) (.of (fun k => dict_Dict_Add_2_j0_eq k s M l l _ _) (.bind (a := l.length) bndl (.bind (a := l.length) bndl (.yes (by simp) ?_)))))))))
  show Ans (fun k => (bif (decide ((List.length (List.drop 0 (List.take l.length l)) + List.length ([s] : List Bytes)) * 16 ≤ 140737488355328) && decide (0 < List.length ([s] : List Bytes))) then some (Sum.inr ((M : Int), l, (putK l s), (putV l (nums l.length) s ((List.length l : Nat) : Int)), ((List.drop 0 (List.take l.length l)) ++ ([s] : List Bytes)), ((List.length l : Nat) : Int), 0, ())) else none)) _
  rw [putK_new l s h, putNums h, List.take_length, List.drop_zero]
  exact .yes (by simp; omega) .const
theorem len1 (M : Int) (ks : List Bytes) (vs : List Int) : Ans (fun k => dict_Dict_Len_2 k M ks vs) (M, ks, vs, 0, ()) := .succ (fun k => dict_Dict_Len_2_eq k M ks vs) (.bind (none1 M ks vs) (.no rfl .const))
theorem len2 (M : Int) (l ks : List Bytes) (vs : List Int) : Ans (fun k => dict_Dict_Len_3 k M l ks vs) (M, l, ks, vs, ((List.length l : Nat) : Int), ()) := .succ (fun k => dict_Dict_Len_3_eq k M l ks vs) (.bind (dnone2 M l ks vs) (.no rfl .const))
theorem get2 (M : Int) (l ks : List Bytes) (vs : List Int) {i : Nat} (h : i < l.length) : Ans (fun k => dict_Dict_Get_3 k (i : Int) M l ks vs) (M, l, ks, vs, l[i], 0, ()) :=
  .succ (fun k => dict_Dict_Get_3_eq k i M l ks vs) (.bind (dnone2 M l ks vs) (.no rfl (.no (decide_eq_false (by omega)) (.no (decide_eq_false (by show ¬ (i : Int) ≥ ((List.length l : Nat) : Int); omega)) (.of (fun k => dict_Dict_Get_3_j0_eq k i M l ks vs _) (.bind (idxA0 h) (.bind (getA0 h) .const)))))))
/-! ### The document's -/
theorem rfind_loop (M : Int) (l : List Bytes) (s : Bytes) (hl : l.length ≤ 4096) : ∀ (d i : Nat), i + d = l.length → (∀ j (h : j < l.length), j < i → l[j] ≠ s) →
    (∃ j, ∃ h : j < l.length, l[j] = s ∧ Ans2 (fun k n => ref23_Dict_Find_3_l0 k n s M l (i : Int)) (M, l, (j : Int), true, ())) ∨ (s ∉ l ∧ Ans2 (fun k n => ref23_Dict_Find_3_l0 k n s M l (i : Int)) (M, l, 0, false, ())) := by
  intro d
  induction d with
  | zero =>
    intro i hi hno
    refine .inr ⟨fun hm => ?_, .succ (fun k n => ref23_Dict_Find_3_l0_eq k n s M l i) (.no (nlt_nat (by omega)) .const)⟩
    obtain ⟨j, hj, e⟩ := List.mem_iff_getElem.1 hm
    exact hno j hj (by omega) e
  | succ d ih =>
    intro i hi hno
    have hlt : i < l.length := by omega
    by_cases he : l[i] = s
    · exact .inl ⟨i, hlt, he, .succ (fun k n => ref23_Dict_Find_3_l0_eq k n s M l i) (.yes (lt_nat hlt) (.bind (idxA0 hlt) (.bind (getA0 hlt) (.yes (by simpa using he) .const))))⟩
    · have S : ∀ {r}, Ans2 (fun k n => ref23_Dict_Find_3_l0 k n s M l ((i + 1 : Nat) : Int)) r → Ans2 (fun k n => ref23_Dict_Find_3_l0 k n s M l (i : Int)) r := fun h =>
        .succ (fun k n => by rw [ref23_Dict_Find_3_l0_eq, wrap_succ (m := 5000) (i := i) (by omega) (by omega)]) (.yes (lt_nat hlt) (.bind (idxA0 hlt) (.bind (getA0 hlt) (.no (show (l[i] == s) = false from beq_eq_false_iff_ne.2 he) h))))
      rcases ih (i + 1) (by omega) (fun j h hj => by
        by_cases e : j = i
        · subst e; exact he
        · exact hno j h (by omega)) with ⟨j, h, e, L⟩ | ⟨h, L⟩
      · exact .inl ⟨j, h, e, S L⟩
      · exact .inr ⟨h, S L⟩
theorem rfind (M : Int) (l : List Bytes) (s : Bytes) (hl : l.length ≤ 4096) :
    (∃ j, ∃ h : j < l.length, l[j] = s ∧ Ans (fun k => ref23_Dict_Find_3 k s M l) (M, l, (j : Int), true, ())) ∨ (s ∉ l ∧ Ans (fun k => ref23_Dict_Find_3 k s M l) (M, l, 0, false, ())) := by
  rcases rfind_loop M l s hl l.length 0 (by omega) (fun j h hj => by omega) with ⟨j, h, e, L⟩ | ⟨h, L⟩
  · exact .inl ⟨j, h, e, .succ (fun k => ref23_Dict_Find_3_eq k s M l) L.diag⟩
  · exact .inr ⟨h, .succ (fun k => ref23_Dict_Find_3_eq k s M l) L.diag⟩
theorem radd_first {M : Nat} (hM : 0 < M) {s : Bytes} (h : List.length s ≤ 256) : Ans (fun k => ref23_Dict_Add_2 k s M) (Sum.inr ((M : Int), [s], 0, 0, ())) := by
  have F : Ans (fun k => ref23_Dict_Find_2 k s (M : Int)) ((M : Int), 0, false, ()) := .succ (fun k => ref23_Dict_Find_2_eq k s M) (Ans2.diag (f := fun k n => ref23_Dict_Find_2_l0 k n s M) (.succ (fun k n => ref23_Dict_Find_2_l0_eq k n s M) .const))
  exact .succ (fun k => ref23_Dict_Add_2_eq k s M) (.bind F (.no rfl (.yes (by simp; omega) (.no (decide_eq_false (by show ¬ (0 : Int) ≥ (M : Int); omega)) (.of (fun k => ref23_Dict_Add_2_j0_eq k s M _) (.yes rfl (.yes rfl .const)))))))
theorem radd_new {M : Nat} {s : Bytes} {l : List Bytes} (F : Ans (fun k => ref23_Dict_Find_3 k s M l) ((M : Int), l, 0, false, ())) (hs : List.length s ≤ 256) (hl : l.length < M) (hM : M ≤ 4096) : Ans (fun k => ref23_Dict_Add_3 k s M l) (Sum.inr ((M : Int), l, l ++ [s], ((l.length : Nat) : Int), 0, ())) := by
  refine .succ (fun k => ref23_Dict_Add_3_eq k s M l) (.bind F (.no rfl (.yes (by simp; omega) (.no (decide_eq_false (by show ¬ ((List.length l : Nat) : Int) ≥ (M : Int); omega)) (.of (fun k => ref23_Dict_Add_3_j0_eq k s M l _) (.yes (decide_eq_true ?_) (.yes (decide_eq_true ?_) ?_)))))))
  · show (0 + l.length) * 16 ≤ 140737488355328
    omega
  · show (([] ++ l).length + 1) * 16 ≤ 140737488355328
    rw [List.nil_append]; omega
  · show Ans (fun k => some (Sum.inr ((M : Int), l, ([] ++ l) ++ [s], IntKind.i64.wrap (((List.length (([] ++ l) ++ [s]) : Nat) : Int) - 1), 0, ()))) _
    have hL : (l ++ [s]).length = l.length + 1 := by simp
    rw [List.nil_append, hL, wrap_id (by omega) (by omega), show ((l.length + 1 : Nat) : Int) - 1 = ((l.length : Nat) : Int) by omega]
    exact .const
theorem radd_old {M : Nat} {s : Bytes} {l : List Bytes} {j : Int} (F : Ans (fun k => ref23_Dict_Find_3 k s M l) ((M : Int), l, j, true, ())) : Ans (fun k => ref23_Dict_Add_3 k s M l) (Sum.inl ((M : Int), l, j, 0, ())) :=
  .succ (fun k => ref23_Dict_Add_3_eq k s M l) (.bind F (.yes rfl .const))
/-! ### Both read -/
theorem both_num (b : List UInt8) (M : Nat) (hM : M ≤ 4096) (hl : b.length ≤ 140737488355328) :
    (∃ e : Int, e ≠ 0 ∧ Ans (fun k => wire_Reader_Num k (M : Int) true 0 b) (Sum.inr (true, 0, b, 0, e, ())) ∧ Ans (fun k => ref02_Reader_Num k (M : Int) b 0) (b, 0, 0, e, ())) ∨
    ∃ p n : Nat, p ≤ b.length ∧ n ≤ M ∧ Ans (fun k => wire_Reader_Num k (M : Int) true 0 b) (Sum.inr (true, (p : Int), b, (n : Int), 0, ())) ∧ Ans (fun k => ref02_Reader_Num k (M : Int) b 0) (b, (p : Int), (n : Int), 0, ()) := by
  obtain ⟨n, E, err, hN, hV, hW⟩ := get_both b 0 hl (Nat.zero_le _)
  rcases hN with he | ⟨he, m, F, hn, hE, hm, hF⟩
  · exact .inl ⟨err, he, .succ (fun k => wire_Reader_Num_eq k M true 0 b) (.elimR (take1f hV he) (.no (by show (err == 0) = false; simpa using he) (.of (fun k => wire_Reader_Num_j1_eq k M true 0 b _ _) .const))), .succ (fun k => ref02_Reader_Num_eq k M b 0) (.bind hW (.yes (ne_ he) .const))⟩
  · subst he hn hE
    by_cases hmM : m ≤ M
    · exact .inr ⟨F, m, by omega, hmM, .succ (fun k => wire_Reader_Num_eq k M true 0 b) (.elimR (take1 hV (by omega)) (.yes rfl (.of (fun k => wire_Reader_Num_j1_eq k M true 0 b _ _) .const))), .succ (fun k => ref02_Reader_Num_eq k M b 0) (.bind hW (.no rfl (.no (decide_eq_false (by show ¬ (m : Int) > (M : Int); omega)) .const)))⟩
    · exact .inl ⟨4, by decide, .succ (fun k => wire_Reader_Num_eq k M true 0 b) (.elimR (take1g hV (by omega)) (.no rfl (.of (fun k => wire_Reader_Num_j1_eq k M true 0 b _ _) .const))), .succ (fun k => ref02_Reader_Num_eq k M b 0) (.bind hW (.no rfl (.yes (decide_eq_true (by show (m : Int) > (M : Int); omega)) .const)))⟩
section
variable (b : List UInt8) (M n : Nat) (hM : M ≤ 4096) (hn : n ≤ M) (hbl : b.length ≤ 140737488355328) (o0 : Bool) (o1 : Int) (o2 : List UInt8) (P2 : Int)
include hM hn hbl
theorem reads : ∀ (d i P : Nat) (l : List Bytes), i + d = n → l.length = i → 0 < i → P ≤ b.length →
    (∃ (p e : Int), e ≠ 0 ∧ Ans2 (fun k m => dict_Read_l5 k m (M : Int) o0 o1 o2 (true, P2, b, (n : Int), 0, ()) (i : Int) true (P : Int) b (M : Int) l l (nums l.length)) (Sum.inr (Sum.inr (Sum.inl (true, p, b, e, ())))) ∧
      Ans2 (fun k m => ref23_Read_l2 k m (M : Int) o2 o1 (b, P2, (n : Int), 0, ()) (i : Int) b (P : Int) (M : Int) l) (Sum.inl (b, p, e, ()))) ∨
    ∃ (p : Int) (l' : List Bytes), l'.length ≤ 4096 ∧ Ans2 (fun k m => dict_Read_l5 k m (M : Int) o0 o1 o2 (true, P2, b, (n : Int), 0, ()) (i : Int) true (P : Int) b (M : Int) l l (nums l.length)) (Sum.inr (Sum.inr (Sum.inr (Sum.inr (Sum.inr (true, p, b, (M : Int), l', l', nums l'.length, 0, ())))))) ∧
      Ans2 (fun k m => ref23_Read_l2 k m (M : Int) o2 o1 (b, P2, (n : Int), 0, ()) (i : Int) b (P : Int) (M : Int) l) (Sum.inr (Sum.inr (b, p, (M : Int), l', 0, ()))) := by
  intro d
  induction d with
  | zero =>
    intro i P l hi hl h0 hP
    refine .inr ⟨P, l, by omega, .succ (fun k m => dict_Read_l5_eq k m M o0 o1 o2 _ i true P b M l l _) (.no (decide_eq_false (by show ¬ (i : Int) < (n : Int); omega)) .const), .succ (fun k m => ref23_Read_l2_eq k m M o2 o1 _ i b P M l) (.no (decide_eq_false ?_) .const)⟩
    show ¬ (i : Int) < IntKind.i64.wrap (n : Int)
    rw [wrap_id (by omega) (by omega)]; omega
  | succ d ih =>
    intro i P l hi hl h0 hP
    obtain ⟨p, s, e, hp, hs, _, hW, hR⟩ := both_text b P hbl hP
    have cW : decide ((i : Int) < ((true, P2, b, (n : Int), 0, ()) : (Bool × Int × List UInt8 × Int × Int × Unit)).2.2.2.1) = true := decide_eq_true (by show (i : Int) < (n : Int); omega)
    have cR : decide ((i : Int) < IntKind.i64.wrap ((b, P2, (n : Int), 0, ()) : (List UInt8 × Int × Int × Int × Unit)).2.2.1) = true := decide_eq_true (by
      show (i : Int) < IntKind.i64.wrap (n : Int)
      rw [wrap_id (by omega) (by omega)]; omega)
    by_cases he : e = 0
    · subst he
      rcases rfind M l s (by omega) with ⟨j, hj, ej, F⟩ | ⟨hno, F⟩
      · have hm : s ∈ l := by rw [← ej]; exact List.getElem_mem hj
        refine .inl ⟨p, 4, by decide, .succ (fun k m => dict_Read_l5_eq k m M o0 o1 o2 _ i true P b M l l _) (.yes cW (.bind hW (.no rfl (.yes (by show hasK l s = true; rw [hasK_iff]; exact decide_eq_true hm) .const)))), .succ (fun k m => ref23_Read_l2_eq k m M o2 o1 _ i b P M l) (.yes cR (.bind hR (.no rfl (Ans2.elimL (radd_old F) (.yes ?_ .const)))))⟩
        show ((j : Int) != (i : Int)) = true
        simp; omega
      · have hA := add_new (M := M) hno hs (by omega) hM
        have hB := radd_new F hs (by omega) hM
        have ew : IntKind.u64.wrap ((i : Int) + 1) = ((i + 1 : Nat) : Int) := by rw [show (i : Int) + 1 = ((i + 1 : Nat) : Int) by omega, u64_id (by omega)]
        have X : ∀ {r}, Ans2 (fun k m => dict_Read_l5 k m (M : Int) o0 o1 o2 (true, P2, b, (n : Int), 0, ()) ((i + 1 : Nat) : Int) true (p : Int) b (M : Int) (l ++ [s]) (l ++ [s]) (nums (l ++ [s]).length)) r → Ans2 (fun k m => dict_Read_l5 k m (M : Int) o0 o1 o2 (true, P2, b, (n : Int), 0, ()) (i : Int) true (P : Int) b (M : Int) l l (nums l.length)) r := fun h =>
          .succ (fun k m => by rw [dict_Read_l5_eq, ew]) (.yes cW (.bind hW (.no rfl (.no (by show hasK l s = false; rw [hasK_iff]; exact decide_eq_false hno) (Ans2.elimR hA (.no rfl h))))))
        have ci : ((((l.length : Nat) : Int)) != (i : Int)) = false := by rw [hl]; simp
        have Y : ∀ {r}, Ans2 (fun k m => ref23_Read_l2 k m (M : Int) o2 o1 (b, P2, (n : Int), 0, ()) ((i + 1 : Nat) : Int) b (p : Int) (M : Int) (l ++ [s])) r → Ans2 (fun k m => ref23_Read_l2 k m (M : Int) o2 o1 (b, P2, (n : Int), 0, ()) (i : Int) b (P : Int) (M : Int) l) r := fun h =>
          .succ (fun k m => by rw [ref23_Read_l2_eq, wrap_succ (m := 5000) (i := i) (by omega) (by omega)]) (.yes cR (.bind hR (.no rfl (Ans2.elimR hB (.no ci h)))))
        rcases ih (i + 1) p (l ++ [s]) (by omega) (by simp [hl]) (by omega) hp with ⟨q, e, he, A, B⟩ | ⟨q, l', hl', A, B⟩
        · exact .inl ⟨q, e, he, X A, Y B⟩
        · exact .inr ⟨q, l', hl', X A, Y B⟩
    · exact .inl ⟨p, e, he, .succ (fun k m => dict_Read_l5_eq k m M o0 o1 o2 _ i true P b M l l _) (.yes cW (.bind hW (.yes (ne_ he) .const))), .succ (fun k m => ref23_Read_l2_eq k m M o2 o1 _ i b P M l) (.yes cR (.bind hR (.yes (ne_ he) .const)))⟩
end
section
variable (b : List UInt8) (M : Nat) (hM : M ≤ 4096) (hbl : b.length ≤ 140737488355328)
include hM hbl
theorem news : Ans (fun k => dict_New k (M : Int)) (Sum.inr ((M : Int), [], [], 0, ())) ∧ Ans (fun k => ref23_New k (M : Int)) (Sum.inr ((M : Int), 0, ())) :=
  ⟨.succ (fun k => dict_New_eq k M) (.yes (by simp) (.no (decide_eq_false (by omega)) (.of (fun k => dict_New_j0_eq k M) .const))), .succ (fun k => ref23_New_eq k M) (.yes (by simp) (.no (decide_eq_false (by omega)) (.of (fun k => ref23_New_j0_eq k M) .const)))⟩
theorem read_both : (∃ (p e : Int), e ≠ 0 ∧ Ans (fun k => dict_Read k (M : Int) true 0 b) (Sum.inr (Sum.inr (Sum.inl (true, p, b, e, ())))) ∧ Ans (fun k => ref23_Read k (M : Int) b 0) (Sum.inl (b, p, e, ()))) ∨
    (∃ (p : Int), Ans (fun k => dict_Read k (M : Int) true 0 b) (Sum.inr (Sum.inr (Sum.inr (Sum.inr (Sum.inl (true, p, b, (M : Int), [], [], 0, ())))))) ∧ Ans (fun k => ref23_Read k (M : Int) b 0) (Sum.inr (Sum.inl (b, p, (M : Int), 0, ())))) ∨
    ∃ (p : Int) (l : List Bytes), l.length ≤ 4096 ∧ Ans (fun k => dict_Read k (M : Int) true 0 b) (Sum.inr (Sum.inr (Sum.inr (Sum.inr (Sum.inr (true, p, b, (M : Int), l, l, nums l.length, 0, ())))))) ∧ Ans (fun k => ref23_Read k (M : Int) b 0) (Sum.inr (Sum.inr (b, p, (M : Int), l, 0, ()))) := by
  obtain ⟨N1, N2⟩ := news b M hM hbl
  have eM : IntKind.u64.wrap (M : Int) = (M : Int) := u64_id (by omega)
  rcases both_num b M hM hbl with ⟨e, he, A, B⟩ | ⟨p, n, hp, hn, A, B⟩
  · exact .inl ⟨0, e, he, .succ (fun k => dict_Read_eq k M true 0 b) (.elimR N1 (.no rfl (.elimR (f := fun k => wire_Reader_Num k (IntKind.u64.wrap (M : Int)) true 0 b) (by rw [eM]; exact A) (.yes (ne_ he) .const)))), .succ (fun k => ref23_Read_eq k M b 0) (.elimR N2 (.no rfl (.bind (f := fun k => ref02_Reader_Num k (IntKind.u64.wrap (M : Int)) b 0) (by rw [eM]; exact B) (.yes (ne_ he) .const))))⟩
  · have X : ∀ {r}, Ans2 (fun k m => dict_Read_l3 k m (M : Int) true 0 b (true, (p : Int), b, (n : Int), 0, ()) 0 true (p : Int) b (M : Int) [] []) r → Ans (fun k => dict_Read k (M : Int) true 0 b) r := fun h =>
      .succ (fun k => dict_Read_eq k M true 0 b) (.elimR N1 (.no rfl (.elimR (f := fun k => wire_Reader_Num k (IntKind.u64.wrap (M : Int)) true 0 b) (by rw [eM]; exact A) (.no rfl h.diag))))
    have Y : ∀ {r}, Ans2 (fun k m => ref23_Read_l1 k m (M : Int) b 0 (b, (p : Int), (n : Int), 0, ()) 0 b (p : Int) (M : Int)) r → Ans (fun k => ref23_Read k (M : Int) b 0) r := fun h =>
      .succ (fun k => ref23_Read_eq k M b 0) (.elimR N2 (.no rfl (.bind (f := fun k => ref02_Reader_Num k (IntKind.u64.wrap (M : Int)) b 0) (by rw [eM]; exact B) (.no rfl h.diag))))
    by_cases h0 : n = 0
    · subst h0
      refine .inr (.inl ⟨p, X (.succ (fun k m => dict_Read_l3_eq k m M true 0 b _ 0 true p b M [] []) (.no (decide_eq_false (show ¬ (0 : Int) < ((0 : Nat) : Int) by omega)) .const)), Y (.succ (fun k m => ref23_Read_l1_eq k m M b 0 _ 0 b p M) (.no (decide_eq_false ?_) .const))⟩)
      show ¬ (0 : Int) < IntKind.i64.wrap ((0 : Nat) : Int)
      rw [wrap_id (by omega) (by omega)]; omega
    · obtain ⟨q, s, e, hq, hs, _, hW, hR⟩ := both_text b p hbl hp
      have cW : decide ((0 : Int) < ((true, (p : Int), b, (n : Int), 0, ()) : (Bool × Int × List UInt8 × Int × Int × Unit)).2.2.2.1) = true := decide_eq_true (by show (0 : Int) < (n : Int); omega)
      have cR : decide ((0 : Int) < IntKind.i64.wrap ((b, (p : Int), (n : Int), 0, ()) : (List UInt8 × Int × Int × Int × Unit)).2.2.1) = true := decide_eq_true (by
        show (0 : Int) < IntKind.i64.wrap (n : Int)
        rw [wrap_id (by omega) (by omega)]; omega)
      by_cases he : e = 0
      · subst he
        have X2 : ∀ {r}, Ans2 (fun k m => dict_Read_l5 k m (M : Int) true 0 b (true, (p : Int), b, (n : Int), 0, ()) ((1 : Nat) : Int) true (q : Int) b (M : Int) [s] [s] (nums [s].length)) r → Ans2 (fun k m => dict_Read_l3 k m (M : Int) true 0 b (true, (p : Int), b, (n : Int), 0, ()) 0 true (p : Int) b (M : Int) [] []) r := fun h =>
          .succ (fun k m => dict_Read_l3_eq k m M true 0 b _ 0 true p b M [] []) (.yes cW (.bind hW (.no rfl (.no rfl (Ans2.elimR (add_first (by omega) hs) (.no rfl h))))))
        have Y2 : ∀ {r}, Ans2 (fun k m => ref23_Read_l2 k m (M : Int) b 0 (b, (p : Int), (n : Int), 0, ()) ((1 : Nat) : Int) b (q : Int) (M : Int) [s]) r → Ans2 (fun k m => ref23_Read_l1 k m (M : Int) b 0 (b, (p : Int), (n : Int), 0, ()) 0 b (p : Int) (M : Int)) r := fun h =>
          .succ (fun k m => ref23_Read_l1_eq k m M b 0 _ 0 b p M) (.yes cR (.bind hR (.no rfl (Ans2.elimR (radd_first (by omega) hs) (.no rfl h)))))
        rcases reads b M n hM hn hbl true 0 b p (n - 1) 1 q [s] (by omega) rfl (by omega) hq with ⟨t, e, he, A, B⟩ | ⟨t, l', hl', A, B⟩
        · exact .inl ⟨t, e, he, X (X2 A), Y (Y2 B)⟩
        · exact .inr (.inr ⟨t, l', hl', X (X2 A), Y (Y2 B)⟩)
      · exact .inl ⟨q, e, he, X (.succ (fun k m => dict_Read_l3_eq k m M true 0 b _ 0 true p b M [] []) (.yes cW (.bind hW (.yes (ne_ he) .const)))), Y (.succ (fun k m => ref23_Read_l1_eq k m M b 0 _ 0 b p M) (.yes cR (.bind hR (.yes (ne_ he) .const))))⟩
end
/-! ### The law -/
theorem tells (b : List UInt8) (most : Int) (p : Int) (M : Int) (l : List Bytes) (hl : l.length ≤ 4096) : ∀ (d i : Nat), i + d = l.length →
    Ans2 (fun k n => law23_DictReads_l5 k n b most (b, p, M, l, 0, ()) (i : Int) M l l (nums l.length)) (true, ()) := by
  intro d
  induction d with
  | zero =>
    intro i hi
    exact .succ (fun k n => law23_DictReads_l5_eq k n b most _ i M l l _) (.no (nlt_nat (xs := l) (by omega)) (.bind (len2 M l l _) (.yes (by show ((((List.length l : Nat) : Int) == ((List.length l : Nat) : Int)) == true) = true; simp) awakes.two)))
  | succ d ih =>
    intro i hi
    have hlt : i < l.length := by omega
    have c : (!(l[i] == l[i])) = false := by simp
    exact .succ (fun k n => by rw [law23_DictReads_l5_eq, wrap_succ (m := 5000) (i := i) (by omega) (by omega)]) (.yes (lt_nat hlt) (.bind (get2 M l l _ hlt) (.yes rfl (.bind (idxA0 hlt) (.bind (getA0 hlt) (.no c (ih (i + 1) (by omega))))))))
theorem same_int (e : Int) : ((e != e) == false) = true := by simp
theorem same_at (e : Int) : (e != e) = false := by simp
theorem law (b : List UInt8) (most : Int) (hbl : b.length ≤ 140737488355328) : ∃ k, law23_DictReads k b most = some (true, ()) := by
  suffices h : Ans (fun k => law23_DictReads k b most) (true, ()) from h.ex
  refine .succ (fun k => law23_DictReads_eq k b most) (.bind (newR hbl) ?_)
  by_cases hm : 0 ≤ most ∧ most ≤ 4096
  · obtain ⟨M, rfl⟩ : ∃ M : Nat, most = (M : Int) := ⟨most.toNat, by omega⟩
    rcases read_both b M (by omega) hbl with ⟨p, e, he, A, B⟩ | ⟨p, A, B⟩ | ⟨p, l, hl, A, B⟩
    · exact .elimR A (.sumR (.sumL (.elimL B (.yes (same_int e) (.yes rfl (.bind (at2 p b) (.no (same_at p) (.of (fun k => law23_DictReads_j0_eq k b _) awakes))))))))
    · exact .elimR A (.sumR (.sumR (.sumR (.sumL (.elimR B (.sumL (.yes rfl (.yes rfl (.bind (at2 p b) (.no (same_at p) (.of (fun k => law23_DictReads_j4_eq k b _ _ _) (Ans2.diag (f := fun k n => law23_DictReads_l2 k n b _ _ _) (.succ (fun k n => law23_DictReads_l2_eq k n b _ _ _) (.bind (len1 _ [] []) (.yes rfl awakes.two)))))))))))))) )
    · exact .elimR A (.sumR (.sumR (.sumR (.sumR (.elimR B (.sumR (.yes rfl (.yes rfl (.bind (at2 p b) (.no (same_at p) (.of (fun k => law23_DictReads_j8_eq k b _ _ _) (tells b _ p M l hl l.length 0 (by omega)).diag)))))))))))
  · have N1 : Ans (fun k => dict_New k most) (Sum.inl (1, ())) := by
      refine .succ (fun k => dict_New_eq k most) ?_
      by_cases h : most < 0
      · exact .no (by simp [h]) .const
      · exact .yes (by simp [h]) (.yes (decide_eq_true (by omega)) .const)
    have N2 : Ans (fun k => ref23_New k most) (Sum.inl (1, ())) := by
      refine .succ (fun k => ref23_New_eq k most) ?_
      by_cases h : most < 0
      · exact .no (by simp [h]) .const
      · exact .yes (by simp [h]) (.yes (decide_eq_true (by omega)) .const)
    have A : Ans (fun k => dict_Read k most true 0 b) (Sum.inl (true, 0, b, 1, ())) := .succ (fun k => dict_Read_eq k most true 0 b) (.elimL N1 (.yes rfl .const))
    have B : Ans (fun k => ref23_Read k most b 0) (Sum.inl (b, 0, 1, ())) := .succ (fun k => ref23_Read_eq k most b 0) (.elimL N2 (.yes rfl .const))
    exact .elimL A (.elimL B (.yes rfl (.yes rfl (.bind (at1 0 b) (.no rfl (.of (fun k => law23_DictReads_j0_eq k b most) awakes))))))
theorem good_bytes {xs : List UInt8} (h : Good (.sl .u8 false xs)) : xs.length ≤ 140737488355328 := by
  cases h with
  | sl _ hb _ =>
    have h1 : List.length (α := UInt8) xs * 1 ≤ reachBytes := hb
    simp only [reachBytes] at h1
    omega
end Go.Ev.HpDR
