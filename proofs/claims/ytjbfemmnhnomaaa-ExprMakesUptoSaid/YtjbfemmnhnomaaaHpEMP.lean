/-
  ExprMakes, the plain law.
-/
import Derived.Test.YtjbfemmnhnomaaaHpEM
import Derived.Test.YtjbfemmnhnomaaaHpOrdP
set_option linter.unusedVariables false
set_option linter.unusedSimpArgs false
namespace Go.Ev.HpEM
theorem awake_eq (k : Nat) : law09_awake (k + 14) = some (true, ()) := by kernel_rfl
theorem awake : Ans (fun k => law09_awake k) (true, ()) := .plus 14 awake_eq

/-- The name that an index picks. -/
def pickN (v : Bytes) (to_ : List Bytes) (r : Int) : Bytes := if 0 ≤ r ∧ r < (to_.length : Int) then (to_[r.toNat]?).getD v else v
theorem index_name (from_ to_ : List Bytes) (v : Bytes) (hf : from_.length ≤ 140737488351232) : ∀ (d i : Nat), i + d = from_.length → ∃ r : Int, Ans2 (fun k n => slices_Index_string_l0 k n from_ v (i : Int)) (r, ()) ∧ Ans2 (fun k n => ref09_Name_l0 k n v from_ to_ (i : Int)) (pickN v to_ r, ()) := by
  intro d
  induction d with
  | zero =>
    intro i hi
    refine ⟨-1, .succ (fun k n => ?_) .const, .succ (fun k n => ?_) .const⟩
    · rw [slices_Index_string_l0_eq, nlt_nat (by omega)]; rfl
    · rw [ref09_Name_l0_eq, nlt_nat (by omega)]; simp [pickN]
  | succ d ih =>
    intro i hi
    have hlt : i < from_.length := by omega
    by_cases e : v = from_[i]
    · refine ⟨i, .succ (fun k n => ?_) .const, .succ (fun k n => ?_) .const⟩
      · rw [slices_Index_string_l0_eq, lt_nat hlt, idx_nat hlt]; simp [e]
      · rw [ref09_Name_l0_eq, lt_nat hlt, idx_nat hlt]
        by_cases ht : i < to_.length
        · simp [← e, pickN, ht, idx_nat ht]
        · simp [← e, pickN, ht]
    · obtain ⟨r, h1, h2⟩ := ih (i + 1) (by omega)
      refine ⟨r, .succ (fun k n => ?_) h1, .succ (fun k n => ?_) h2⟩
      · rw [slices_Index_string_l0_eq, lt_nat hlt, idx_nat hlt, wrap_succ hlt (by omega)]
        simp only [cond_true, Option.bind_some, beq_false_of_ne e, cond_false]
      · rw [ref09_Name_l0_eq, lt_nat hlt, idx_nat hlt, wrap_succ hlt (by omega)]
        simp only [cond_true, Option.bind_some, beq_false_of_ne (Ne.symm e), cond_false]
theorem named_ (v : Bytes) (from_ to_ : List Bytes) (hf : from_.length ≤ 140737488351232) : ∃ r : Int, Ans (fun k => slices_Index_string k from_ v) (r, ()) ∧ Ans (fun k => ref09_Name k v from_ to_) (pickN v to_ r, ()) := by
  obtain ⟨r, h1, h2⟩ := index_name from_ to_ v hf from_.length 0 (by omega)
  exact ⟨r, .succ (slices_Index_string_eq · from_ v) h1.diag, .succ (ref09_Name_eq · v from_ to_) h2.diag⟩
theorem pick_idx {v : Bytes} {to_ : List Bytes} {r : Int} (h0 : 0 ≤ r) (h1 : r < (to_.length : Int)) : idx to_ r = some (pickN v to_ r) := by
  have e3 : r.toNat < to_.length := by omega
  unfold idx pickN
  rw [decide_eq_true h0, cond_true, if_pos ⟨h0, h1⟩, List.getElem?_eq_getElem e3]
  rfl
theorem expr_named_ans (v : Bytes) (from_ to_ : List Bytes) {r : Int} (hi : Ans (fun k => slices_Index_string k from_ v) (r, ())) : Ans (fun k => expr_named k v from_ to_) (pickN v to_ r, ()) := by
  have I2 : Ans (fun k => expr_named_j0 k v from_ to_ (r, ()) false) (v, ()) := .of (expr_named_j0_eq · v from_ to_ (r, ()) false) (.no rfl .const)
  refine .succ (expr_named_eq · v from_ to_) (.bind hi ?_)
  by_cases h0 : 0 ≤ r
  · refine .yes (by rw [decide_eq_true h0]; rfl) ?_
    by_cases h1 : r < (to_.length : Int)
    · have e1' : idx to_ ((r, ()) : Int × Unit).1 = some (pickN v to_ r) := pick_idx h0 h1
      have e2 : decide (r < ((List.length to_ : Nat) : Int)) = true := decide_eq_true h1
      rw [e2]
      have K : ∀ k, expr_named_j0 k v from_ to_ (r, ()) true = some (pickN v to_ r, ()) := fun k => by
        rw [expr_named_j0_eq, e1', cond_true, Option.bind_some]
      exact .of K .const
    · have e1 : pickN v to_ r = v := if_neg fun h => h1 h.2
      have e2 : decide (r < ((List.length to_ : Nat) : Int)) = false := decide_eq_false h1
      rw [e1, e2]
      exact I2
  · have e1 : pickN v to_ r = v := if_neg fun h => h0 h.1
    rw [e1]
    exact .no (by rw [decide_eq_false h0]; rfl) I2

/-! ### Conditions -/
theorem erenames (from_ to_ : List Bytes) (hf : from_.length ≤ 140737488351232) {x : Exp} (hx : ExpSmall x) : ∃ y, ExpSmall y ∧ Ans (fun k => expr_Rename k x from_ to_) (y, ()) ∧ Ans (fun k => ref09_Rename k x from_ to_) (y, ()) := by
  induction hx with
  | @mk x h hl ih =>
    obtain ⟨ys, hy, hys⟩ := choose_all x.l ih
    have hlen := reach_small h (by omega)
    obtain ⟨r, hr1, hr2⟩ := named_ x.var from_ to_ hf
    have L1 : ∀ v, Ans (fun k => expr_Rename_j0 k x from_ to_ v) ((⟨x.k, x.v, v, x.field, ys⟩ : Exp), ()) := fun v => by
      have := loop_map (loop := fun k n i acc => expr_Rename_l0 k n x from_ to_ v i acc) (f := fun k d => expr_Rename k d from_ to_) (g := fun _ (r : Exp × Unit) => r.1) (fin := fun _ acc => some ((⟨x.k, x.v, v, x.field, acc⟩ : Exp), ())) (c := 96) (qs := ys) (res := ((⟨x.k, x.v, v, x.field, ys⟩ : Exp), ()))
        (fun k n i hi acc => by
          rw [expr_Rename_l0_eq, lt_nat hi, idx_nat hi, wrap_succ hi (by omega)]
          simp only [cond_true, Option.bind_some, exp_eta, List.length_singleton])
        (fun k n acc => by rw [expr_Rename_l0_eq, nlt_nat (Nat.le_refl _), cond_false]) h hy (fun i h1 h2 => ⟨_, (hys i h1 h2).2.1, rfl⟩) .const x.l.length 0 [] (by omega) rfl
      exact .of (expr_Rename_j0_eq · x from_ to_ v) this.diag
    have L2 : ∀ v, Ans (fun k => ref09_Rename_j0 k x from_ to_ v) ((⟨x.k, x.v, v, x.field, ys⟩ : Exp), ()) := fun v => by
      have M := loop_map (loop := fun k n i acc => ref09_Rename_l1 k n x from_ to_ v i acc) (f := fun k d => ref09_Rename k d from_ to_) (g := fun _ (r : Exp × Unit) => r.1) (fin := fun _ acc => some ((⟨x.k, x.v, v, x.field, acc⟩ : Exp), ())) (c := 96) (qs := ys) (res := ((⟨x.k, x.v, v, x.field, ys⟩ : Exp), ()))
        (fun k n i hi acc => by
          rw [ref09_Rename_l1_eq, lt_nat hi, idx_nat hi, wrap_succ hi (by omega)]
          simp only [cond_true, Option.bind_some, exp_eta, List.length_singleton])
        (fun k n acc => by rw [ref09_Rename_l1_eq, nlt_nat (Nat.le_refl _), cond_false]) h hy (fun i h1 h2 => ⟨_, (hys i h1 h2).2.2, rfl⟩) .const
      have N : Ans2 (fun k n => ref09_Rename_l0 k n x from_ to_ v) ((⟨x.k, x.v, v, x.field, ys⟩ : Exp), ()) := by
        by_cases h0 : 0 < x.l.length
        · have hlt' : 0 < ys.length := by omega
          refine .succ (g := fun k n => (ref09_Rename k x.l[0] from_ to_).bind fun r => ref09_Rename_l1 k n x from_ to_ v ((1 : Nat) : Int) [r.1]) (fun k n => ?_) (.bind (hys 0 h0 hlt').2.2 (M (x.l.length - 1) 1 [ys[0]] (by omega) (by rw [List.take_succ_eq_append_getElem hlt']; rfl)))
          rw [ref09_Rename_l0_eq]
          have e1 : decide ((0 : Int) < ((List.length x.l : Nat) : Int)) = true := decide_eq_true (by omega)
          have e2 : idx x.l 0 = some x.l[0] := idx_nat (i := 0) h0
          rw [e1, e2]
          simp only [cond_true, Option.bind_some, exp_eta, List.length_singleton]
          rfl
        · have e0 : ys = [] := List.eq_nil_of_length_eq_zero (by omega)
          subst e0
          refine .succ (fun k n => ?_) .const
          rw [ref09_Rename_l0_eq]
          have e1 : decide ((0 : Int) < ((List.length x.l : Nat) : Int)) = false := decide_eq_false (by omega)
          rw [e1]; rfl
      exact .of (ref09_Rename_j0_eq · x from_ to_ v) N.diag
    have small : ∀ v, ExpSmall ⟨x.k, x.v, v, x.field, ys⟩ := fun v => .mk (by rw [hy]; exact h) fun d hd => by
      obtain ⟨i, hi, rfl⟩ := List.getElem_of_mem hd
      exact (hys i (by rw [← hy]; exact hi) hi).1
    cases h2 : x.k == 2 with
    | true =>
      refine ⟨⟨x.k, x.v, pickN x.var to_ r, x.field, ys⟩, small _, .succ (expr_Rename_eq · x from_ to_) (.yes h2 (.bind (expr_named_ans x.var from_ to_ hr1) (L1 _))), .succ (ref09_Rename_eq · x from_ to_) (.yes h2 (.bind hr2 (L2 _)))⟩
    | false =>
      exact ⟨⟨x.k, x.v, x.var, x.field, ys⟩, small _, .succ (expr_Rename_eq · x from_ to_) (.no h2 (L1 _)), .succ (ref09_Rename_eq · x from_ to_) (.no h2 (L2 _))⟩

theorem number_same (x : Int) : Ans (fun k => ref09_Number k x x) (0, ()) := .succ (ref09_Number_eq · x x) (.yes (by simp) .const)
theorem compare_same (x : Bytes) : Ans (fun k => ref09_compare k x x) (0, ()) := .succ (ref09_compare_eq · x x) (.yes (by simp) .const)
theorem value_same (x : Val) : Ans (fun k => ref06_Order k x x) (0, ()) := .succ (ref06_Order_eq · x x) (.yes (by simp) .const)
theorem order_loop (x : Exp) (hx : x.l.length * 96 ≤ reachBytes) (h : ∀ d ∈ x.l, Ans (fun k => ref09_Order k d d) (0, ())) : ∀ (d i : Nat), i + d = x.l.length → Ans2 (fun k n => ref09_Order_l1 k n x x (i : Int)) (0, ()) := by
  intro d
  have hlen := reach_small hx (by omega)
  induction d with
  | zero =>
    intro i hi
    refine .succ (fun k n => ?_) .const
    have hn : decide (((i : Nat) : Int) < ((List.length x.l : Nat) : Int)) = false := nlt_nat (by omega)
    rw [ref09_Order_l1_eq, hn, show (false == true) = false from rfl, cond_false]
  | succ d ih =>
    intro i hi
    have hlt : i < x.l.length := by omega
    refine .succ (g := fun k n => (ref09_Order k x.l[i] x.l[i]).bind fun r => bif r.1 != 0 then some (r.1, ()) else ref09_Order_l1 k n x x ((i + 1 : Nat) : Int)) (fun k n => ?_) (.bind (h _ (List.getElem_mem _)) (.no rfl (ih (i + 1) (by omega))))
    rw [ref09_Order_l1_eq, lt_nat hlt, beq_self_eq_true, cond_true, cond_true, ref09_Order_j0_eq, idx_nat hlt, wrap_succ hlt (by omega), Option.bind_some, Option.bind_some]
theorem order_same {x : Exp} (hx : ExpSmall x) : Ans (fun k => ref09_Order k x x) (0, ()) := by
  induction hx with
  | @mk x h hl ih =>
    have L := (order_loop x h ih x.l.length 0 (by omega)).diag
    have z : ∀ (k n : Nat) (i j : Int), (i = 0 ∧ j = 1 ∨ i = 1 ∧ j = 2 ∨ i = 2 ∧ j = 3 ∨ i = 3 ∧ j = 4 ∨ i = 4 ∧ j = 5) → ref09_Order_l0 k (n + 1) x x (0, ()) (0, ()) (0, ()) (0, ()) (0, ()) i = ref09_Order_l0 k n x x (0, ()) (0, ()) (0, ()) (0, ()) (0, ()) j := fun k n i j hij => by
      rw [ref09_Order_l0_eq]
      rcases hij with ⟨rfl, rfl⟩ | ⟨rfl, rfl⟩ | ⟨rfl, rfl⟩ | ⟨rfl, rfl⟩ | ⟨rfl, rfl⟩ <;> kernel_rfl
    have z5 : ∀ (k n : Nat), ref09_Order_l0 k (n + 1) x x (0, ()) (0, ()) (0, ()) (0, ()) (0, ()) 5 = ref09_Order_l1 k k x x 0 := fun k n => by
      rw [ref09_Order_l0_eq]
      kernel_rfl
    have L5 : Ans2 (fun k n => ref09_Order_l0 k n x x (0, ()) (0, ()) (0, ()) (0, ()) (0, ()) 5) (0, ()) := by
      obtain ⟨N, hN⟩ := L
      exact .succ z5 ⟨N, fun k n hk _ => hN k hk⟩
    have L4 := Ans2.succ (f := fun k n => ref09_Order_l0 k n x x (0, ()) (0, ()) (0, ()) (0, ()) (0, ()) 4) (z · · 4 5 (by omega)) L5
    have L3 := Ans2.succ (f := fun k n => ref09_Order_l0 k n x x (0, ()) (0, ()) (0, ()) (0, ()) (0, ()) 3) (z · · 3 4 (by omega)) L4
    have L2 := Ans2.succ (f := fun k n => ref09_Order_l0 k n x x (0, ()) (0, ()) (0, ()) (0, ()) (0, ()) 2) (z · · 2 3 (by omega)) L3
    have L1 := Ans2.succ (f := fun k n => ref09_Order_l0 k n x x (0, ()) (0, ()) (0, ()) (0, ()) (0, ()) 1) (z · · 1 2 (by omega)) L2
    have L0 := Ans2.succ (f := fun k n => ref09_Order_l0 k n x x (0, ()) (0, ()) (0, ()) (0, ()) (0, ()) 0) (z · · 0 1 (by omega)) L1
    exact .succ (ref09_Order_eq · x x) (.bind (number_same x.k) (.bind (value_same x.v) (.bind (compare_same x.var) (.bind (compare_same x.field) (.bind (number_same _) L0.diag)))))
theorem esame {x : Exp} (hx : ExpSmall x) : Ans (fun k => ref09_Same k x x) (true, ()) := .succ (ref09_Same_eq · x x) (.bind (order_same hx) .const)

theorem esize_loop (q : Exp) (hq : q.l.length * 96 ≤ reachBytes) (h : ∀ d ∈ q.l, ∃ s, Ans (fun k => ref09_Size k d) (s, ())) : ∀ (d i : Nat) (acc : Int), i + d = q.l.length → ∃ s, Ans2 (fun k n => ref09_Size_l0 k n q acc (i : Int)) (s, ()) := by
  intro d
  have hlen := reach_small hq (by omega)
  induction d with
  | zero =>
    intro i acc hi
    refine ⟨acc, .succ (fun k n => ?_) .const⟩
    rw [ref09_Size_l0_eq, nlt_nat (by omega), cond_false]
  | succ d ih =>
    intro i acc hi
    have hlt : i < q.l.length := by omega
    obtain ⟨s, hs⟩ := h _ (List.getElem_mem hlt)
    obtain ⟨s', hs'⟩ := ih (i + 1) (IntKind.i64.wrap (acc + s)) (by omega)
    refine ⟨s', .succ (g := fun k n => (ref09_Size k q.l[i]).bind fun r => ref09_Size_l0 k n q (IntKind.i64.wrap (acc + r.1)) ((i + 1 : Nat) : Int)) (fun k n => ?_) (.bind hs hs')⟩
    rw [ref09_Size_l0_eq, lt_nat hlt, idx_nat hlt, wrap_succ hlt (by omega), cond_true, Option.bind_some]
theorem esize {q : Exp} (hq : ExpSmall q) : ∃ s, Ans (fun k => ref09_Size k q) (s, ()) := by
  induction hq with
  | @mk q h hl ih =>
    obtain ⟨s, hs⟩ := esize_loop q h ih q.l.length 0 1 (by omega)
    exact ⟨s, .succ (ref09_Size_eq · q) hs.diag⟩
theorem light {x : Exp} (hx : ExpSmall x) : ∃ b, Ans (fun k => law09_light k x) (b, ()) := by
  obtain ⟨s, hs⟩ := esize hx
  exact ⟨_, .succ (law09_light_eq · x) (.bind hs .const)⟩
def joinL (k : Int) : List Exp → List Exp
  | [] => []
  | x :: l => (if x.k = k then x.l else [x]) ++ joinL k l
theorem joinL_append (k : Int) : ∀ (a b : List Exp), joinL k (a ++ b) = joinL k a ++ joinL k b
  | [], b => rfl
  | x :: a, b => by rw [List.cons_append, joinL, joinL, joinL_append k a b, List.append_assoc]
theorem joinL_len (k : Int) : ∀ (l : List Exp), (joinL k l).length ≤ esizes l
  | [] => by simp [joinL]
  | x :: l => by
    rw [joinL, esizes, List.length_append]
    have h1 := joinL_len k l
    have h2 := esize_eq x
    have h3 := esizes_len x.l
    by_cases h : x.k = k
    · rw [if_pos h]; omega
    · rw [if_neg h, List.length_singleton]; omega
theorem joinL_mem (k : Int) : ∀ (l : List Exp) (d : Exp), d ∈ joinL k l → ∃ x ∈ l, d = x ∨ d ∈ x.l
  | [], d, h => by cases h
  | x :: l, d, h => by
    rw [joinL] at h
    rcases List.mem_append.1 h with h | h
    · by_cases hk : x.k = k
      · rw [if_pos hk] at h; exact ⟨x, by simp, .inr h⟩
      · rw [if_neg hk] at h; exact ⟨x, by simp, .inl (by simpa using h)⟩
    · obtain ⟨y, hy, hd⟩ := joinL_mem k l d h
      exact ⟨y, by simp [hy], hd⟩
def joinEnd (k : Int) : List Exp → Exp
  | [] => ⟨1, ⟨1, if k = 16 then 1 else 0, []⟩, [], [], []⟩
  | [x] => x
  | a :: b :: r => ⟨k, ⟨0, 0, []⟩, [], [], a :: b :: r⟩
theorem val_bool (b : Bool) : Ans (fun k => value_Bool k b) ((⟨1, if b = true then 1 else 0, []⟩ : Val), ()) := .succ (value_Bool_eq · b) (by cases b <;> exact .const)
theorem ref_bool (b : Bool) : Ans (fun k => ref06_Bool k b) ((⟨1, if b = true then 1 else 0, []⟩ : Val), ()) := .succ (ref06_Bool_eq · b) (by cases b <;> exact .const)
theorem take_joinL (k_ : Int) (l : List Exp) (hl : esizes l ≤ 1048576) (i : Nat) (hlt : i < l.length) : ((joinL k_ (l.take i)).length + (if l[i].k = k_ then l[i].l else [l[i]]).length) * 96 ≤ 140737488355328 := by
  have e : joinL k_ (l.take (i + 1) ++ l.drop (i + 1)) = joinL k_ l := by rw [List.take_append_drop]
  rw [joinL_append, List.take_succ_eq_append_getElem hlt, joinL_append] at e
  have h1 := joinL_len k_ l
  rw [← e] at h1
  simp only [joinL, List.append_nil, List.length_append] at h1
  omega
theorem take_joinL' (k_ : Int) (l : List Exp) (i : Nat) (hlt : i < l.length) : joinL k_ (l.take (i + 1)) = joinL k_ (l.take i) ++ (if l[i].k = k_ then l[i].l else [l[i]]) := by
  rw [List.take_succ_eq_append_getElem hlt, joinL_append]
  simp [joinL]
theorem join_loop (k_ : Int) (l : List Exp) (hl : esizes l ≤ 1048576) : ∀ (d i : Nat), i + d = l.length → Ans2 (fun k n => expr_Join_l0 k n k_ l (i : Int) (joinL k_ (l.take i))) (joinEnd k_ (joinL k_ l), ()) := by
  have hlen := esizes_len l
  intro d
  induction d with
  | zero =>
    intro i hi
    rw [List.take_of_length_le (by omega)]
    refine .succ (g := fun k n => _) (fun k n => by rw [expr_Join_l0_eq, nlt_nat (by omega), cond_false]) ?_
    rcases joinL k_ l with _ | ⟨a, _ | ⟨b, r⟩⟩
    · refine .yes rfl (Ans.two (.bind (val_bool (k_ == 16)) ?_))
      have e : (if (k_ == 16) = true then (1 : Int) else 0) = if k_ = 16 then 1 else 0 := by simp
      rw [e]; exact .const
    · exact .no rfl (.yes rfl (.of (fun k n => by show some ((⟨a.k, a.v, a.var, a.field, a.l⟩ : Exp), ()) = _; rw [exp_eta]; rfl) .const))
    · have e1 : ((((a :: b :: r).length : Nat) : Int) == 0) = false := by simp; omega
      have e2 : ((((a :: b :: r).length : Nat) : Int) == 1) = false := by simp; omega
      exact .no e1 (.no e2 .const)
  | succ d ih =>
    intro i hi
    have hlt : i < l.length := by omega
    have hb := take_joinL k_ l hl i hlt
    have L := ih (i + 1) (by omega)
    rw [take_joinL' k_ l i hlt] at L
    by_cases hk : l[i].k = k_
    · rw [if_pos hk] at hb L
      refine .succ (fun k n => ?_) L
      rw [expr_Join_l0_eq, lt_nat hlt, idx_nat hlt, wrap_succ hlt (by omega), cond_true, Option.bind_some, show (l[i].k == k_) = true by simp [hk], cond_true, decide_eq_true hb, cond_true]
    · rw [if_neg hk] at hb L
      refine .succ (fun k n => ?_) L
      rw [expr_Join_l0_eq, lt_nat hlt, idx_nat hlt, wrap_succ hlt (by omega), cond_true, Option.bind_some, show (l[i].k == k_) = false by simp [hk], cond_false, exp_eta, decide_eq_true hb, cond_true]
theorem rjoin_loop (k_ : Int) (l : List Exp) (hl : esizes l ≤ 1048576) : ∀ (d i : Nat), i + d = l.length → Ans2 (fun k n => ref09_Join_l0 k n k_ l (i : Int) (joinL k_ (l.take i))) (joinEnd k_ (joinL k_ l), ()) := by
  have hlen := esizes_len l
  intro d
  induction d with
  | zero =>
    intro i hi
    rw [List.take_of_length_le (by omega)]
    refine .succ (g := fun k n => _) (fun k n => by rw [ref09_Join_l0_eq, nlt_nat (by omega), cond_false]) ?_
    rcases joinL k_ l with _ | ⟨a, _ | ⟨b, r⟩⟩
    · refine .no rfl (.yes rfl (Ans.two (.bind (ref_bool (k_ == 16)) ?_)))
      have e : (if (k_ == 16) = true then (1 : Int) else 0) = if k_ = 16 then 1 else 0 := by simp
      rw [e]; exact .const
    · exact .yes rfl (.of (fun k n => by show some ((⟨a.k, a.v, a.var, a.field, a.l⟩ : Exp), ()) = _; rw [exp_eta]; rfl) .const)
    · have e1 : ((((a :: b :: r).length : Nat) : Int) == 0) = false := by simp; omega
      have e2 : ((((a :: b :: r).length : Nat) : Int) == 1) = false := by simp; omega
      exact .no e2 (.no e1 .const)
  | succ d ih =>
    intro i hi
    have hlt : i < l.length := by omega
    have hb := take_joinL k_ l hl i hlt
    have L := ih (i + 1) (by omega)
    rw [take_joinL' k_ l i hlt] at L
    by_cases hk : l[i].k = k_
    · rw [if_pos hk] at hb L
      refine .succ (fun k n => ?_) L
      rw [ref09_Join_l0_eq, lt_nat hlt, idx_nat hlt, wrap_succ hlt (by omega), cond_true, Option.bind_some, show (l[i].k == k_) = true by simp [hk], cond_true, Option.bind_some, decide_eq_true hb, cond_true]
    · rw [if_neg hk] at hb L
      refine .succ (fun k n => ?_) L
      rw [ref09_Join_l0_eq, lt_nat hlt, idx_nat hlt, wrap_succ hlt (by omega), cond_true, Option.bind_some, show (l[i].k == k_) = false by simp [hk], cond_false, Option.bind_some, exp_eta, decide_eq_true hb, cond_true]
theorem joinEnd_small (k_ : Int) (l : List Exp) (hl : esizes l ≤ 1048576) (h : ∀ x ∈ l, ExpSmall x) : ExpSmall (joinEnd k_ (joinL k_ l)) := by
  have hlen := joinL_len k_ l
  have hm : ∀ d ∈ joinL k_ l, ExpSmall d := fun d hd => by
    obtain ⟨x, hx, e⟩ := joinL_mem k_ l d hd
    rcases e with rfl | e
    · exact h _ hx
    · cases h x hx with | mk _ h2 => exact h2 d e
  generalize joinL k_ l = out at *
  rcases out with _ | ⟨a, _ | ⟨b, r⟩⟩
  · exact .mk (by simp [joinEnd]) (by simp [joinEnd])
  · exact hm a (by simp)
  · exact .mk (by simp only [joinEnd, reachBytes]; omega) hm
theorem nil_small (k : Int) (v : Val) (a b : Bytes) : ExpSmall ⟨k, v, a, b, []⟩ := .mk (by simp) (by simp)
theorem joins (k_ : Int) (l : List Exp) (hl : esizes l ≤ 1048576) (h : ∀ x ∈ l, ExpSmall x) : ∃ y, ExpSmall y ∧ Ans (fun k => expr_Join k k_ l) (y, ()) ∧ Ans (fun k => ref09_Join k k_ l) (y, ()) := by
  have J := (join_loop k_ l hl l.length 0 (by omega)).diag
  have R := (rjoin_loop k_ l hl l.length 0 (by omega)).diag
  have R0 : Ans (fun k => ref09_Join_j0 k k_ l) (joinEnd k_ (joinL k_ l), ()) := .of (ref09_Join_j0_eq · k_ l) R
  have row : ∀ {b : Bool}, (bif (k_ == 16) == false then some ((k_ == 17), ()) else some (true, ())) = some (b, ()) → Ans (fun k => expr_isRow k k_) (b, ()) := fun h => .succ (fun k => by rw [expr_isRow_eq, h]) .const
  by_cases h1 : k_ = 16
  · subst h1
    exact ⟨_, joinEnd_small _ l hl h, .succ (expr_Join_eq · _ l) (.bind (row (b := true) rfl) (.no rfl J)), .succ (ref09_Join_eq · _ l) (.no rfl R0)⟩
  · have e1 : (k_ == 16) = false := by simp [h1]
    have e1' : (k_ != 16) = true := by simp [h1]
    by_cases h2 : k_ = 17
    · subst h2
      exact ⟨_, joinEnd_small _ l hl h, .succ (expr_Join_eq · _ l) (.bind (row (b := true) rfl) (.no rfl J)), .succ (ref09_Join_eq · _ l) (.yes rfl (.no rfl R0))⟩
    · have e2 : (k_ == 17) = false := by simp [h2]
      have e2' : (k_ != 17) = true := by simp [h2]
      exact ⟨_, nil_small _ _ _ _, .succ (expr_Join_eq · _ l) (.bind (row (b := false) (by rw [e1, e2]; rfl)) (.yes rfl .const)), .succ (ref09_Join_eq · _ l) (.yes (by rw [e1']; rfl) (.yes e2' .const))⟩
theorem law_loop (x : Exp) (from_ to_ : List Bytes) (k_ : Int) (l : List Exp) (hx : ExpSmall x) (hf : from_.length ≤ 140737488351232) (hl : esizes l ≤ 1048576) (h : ∀ x ∈ l, ExpSmall x) : ∀ (d i : Nat), i + d = l.length → Ans2 (fun k n => law09_ExprMakes_l0 k n x from_ to_ k_ l (i : Int)) (true, ()) := by
  have hlen := esizes_len l
  have ha : Ans (fun k => (law09_awake k).bind fun r3 => some (r3.1, ())) (true, ()) := .bind awake .const
  intro d
  induction d with
  | zero =>
    intro i hi
    obtain ⟨y, hy, h1, h2⟩ := erenames from_ to_ hf hx
    obtain ⟨z, hz, h3, h4⟩ := joins k_ l hl h
    refine .succ (g := fun k n => _) (fun k n => by rw [law09_ExprMakes_l0_eq, nlt_nat (by omega), cond_false]) ?_
    exact Ans.two (.bind h1 (.bind h2 (.bind (esame hy) (.yes rfl (.bind h3 (.bind h4 (.bind (esame hz) (.yes rfl ha))))))))
  | succ d ih =>
    intro i hi
    have hlt : i < l.length := by omega
    obtain ⟨b, hb⟩ := light (h _ (List.getElem_mem hlt))
    refine .succ (g := fun k n => (law09_light k l[i]).bind fun r => bif !r.1 then (law09_awake k).bind fun r1 => some (r1.1, ()) else law09_ExprMakes_l0 k n x from_ to_ k_ l ((i + 1 : Nat) : Int)) (fun k n => by rw [law09_ExprMakes_l0_eq, lt_nat hlt, idx_nat hlt, wrap_succ hlt (by omega), cond_true, Option.bind_some]) (.bind hb ?_)
    cases b with
    | false => exact .yes rfl ha.two
    | true => exact .no rfl (ih (i + 1) (by omega))
theorem law (x : Exp) (from_ to_ : List Bytes) (k_ : Int) (l : List Exp) (hx : ExpSmall x) (hf : from_.length ≤ 140737488351232) (hl : esizes l ≤ 1048576) (h : ∀ x ∈ l, ExpSmall x) : ∃ k, law09_ExprMakes k x from_ to_ k_ l = some (true, ()) := by
  have ha : Ans (fun k => (law09_awake k).bind fun r3 => some (r3.1, ())) (true, ()) := .bind awake .const
  obtain ⟨b, hb⟩ := light hx
  refine Ans.ex (.succ (law09_ExprMakes_eq · x from_ to_ k_ l) (.bind hb ?_))
  cases b with
  | false => exact .no rfl ha
  | true =>
    refine .yes rfl ?_
    by_cases h30 : (((List.length l : Nat) : Int) > 30)
    · exact .yes (decide_eq_true h30) ha
    · exact .no (decide_eq_false h30) (.of (law09_ExprMakes_j0_eq · x from_ to_ k_ l) (law_loop x from_ to_ k_ l hx hf hl h l.length 0 (by omega)).diag)
end Go.Ev.HpEM
