/-
  QueryRenames, the plain law.
-/
import Derived.Test.YtjbfemmnhnomaaaHpQR
import Derived.Test.YtjbfemmnhnomaaaHpLib
set_option linter.unusedVariables false
set_option linter.unusedSimpArgs false
namespace Go.Ev.HpQR

theorem awake_eq (k : Nat) : law13_awake (k + 10) = some (true, ()) := by kernel_rfl
theorem awake : Ans (fun k => law13_awake k) (true, ()) := .plus 10 awake_eq

/-- The name that an index picks. -/
def pickN (v : Bytes) (to_ : List Bytes) (r : Int) : Bytes := if 0 ≤ r ∧ r < (to_.length : Int) then (to_[r.toNat]?).getD v else v
theorem index_name (from_ to_ : List Bytes) (v : Bytes) (hf : from_.length ≤ 140737488351232) : ∀ (d i : Nat), i + d = from_.length → ∃ r : Int, Ans2 (fun k n => slices_Index_string_l0 k n from_ v (i : Int)) (r, ()) ∧ Ans2 (fun k n => ref09_Name_l0 k n v from_ to_ (i : Int)) (pickN v to_ r, ()) := by
  intro d
  induction d with
  | zero =>
    intro i hi
    refine ⟨-1, .succ (fun k n => ?_) .const, .succ (fun k n => ?_) .const⟩
    · rw [slices_Index_string_l0_eq, nlt_nat (by omega)]; rfl
    · rw [ref09_Name_l0_eq, nlt_nat (by omega)]; simp [pickN]
  | succ d ih =>
    intro i hi
    have hlt : i < from_.length := by omega
    by_cases e : v = from_[i]
    · refine ⟨i, .succ (fun k n => ?_) .const, .succ (fun k n => ?_) .const⟩
      · rw [slices_Index_string_l0_eq, lt_nat hlt, idx_nat hlt]; simp [e]
      · rw [ref09_Name_l0_eq, lt_nat hlt, idx_nat hlt]
        by_cases ht : i < to_.length
        · simp [← e, pickN, ht, idx_nat ht]
        · simp [← e, pickN, ht]
    · obtain ⟨r, h1, h2⟩ := ih (i + 1) (by omega)
      refine ⟨r, .succ (fun k n => ?_) h1, .succ (fun k n => ?_) h2⟩
      · rw [slices_Index_string_l0_eq, lt_nat hlt, idx_nat hlt, wrap_succ hlt (by omega)]
        simp only [cond_true, Option.bind_some, beq_false_of_ne e, cond_false]
      · rw [ref09_Name_l0_eq, lt_nat hlt, idx_nat hlt, wrap_succ hlt (by omega)]
        simp only [cond_true, Option.bind_some, beq_false_of_ne (Ne.symm e), cond_false]
def leaf (p : Pat) : Bool := p.k == 1 || p.k == 5 || p.k == 6
theorem isLeaf (x : Int) : Ans (fun k => pat_isLeaf k x) (x == 1 || x == 5 || x == 6, ()) :=
  .succ (fun k => by
    rw [pat_isLeaf_eq]
    cases x == 1 <;> cases x == 5 <;> rfl) .const

theorem rename_loop (p : Pat) (from_ to_ : List Bytes) (v : Bytes) (hp : p.l.length * 80 ≤ reachBytes) (qs : List Pat) (hq : qs.length = p.l.length)
    (h : ∀ (i : Nat) (h : i < p.l.length) (h' : i < qs.length), Ans (fun k => pat_Rename k p.l[i] from_ to_) (qs[i], ())) :
    ∀ (d i : Nat) (acc : List Pat), i + d = p.l.length → acc.length = i → Ans2 (fun k n => pat_Rename_l0 k n p from_ to_ v (i : Int) acc) ((⟨p.k, v, p.type, p.lo, p.hi, acc ++ qs.drop i⟩ : Pat), ()) := by
  intro d
  have hlen := reach_small hp (by omega)
  induction d with
  | zero =>
    intro i acc hi ha
    refine .succ (fun k n => ?_) .const
    rw [pat_Rename_l0_eq, nlt_nat (by omega), List.drop_eq_nil_of_le (by omega)]; simp
  | succ d ih =>
    intro i acc hi ha
    have hlt : i < p.l.length := by omega
    have hlt' : i < qs.length := by omega
    have hb := h i hlt hlt'
    have e : acc ++ qs.drop i = (acc ++ [qs[i]]) ++ qs.drop (i + 1) := by rw [List.drop_eq_getElem_cons hlt']; simp
    rw [e]
    refine .succ (g := fun k n => (pat_Rename k p.l[i] from_ to_).bind fun r => bif decide ((List.length acc + 1) * 80 ≤ 140737488355328) then pat_Rename_l0 k n p from_ to_ v ((i + 1 : Nat) : Int) (acc ++ [r.1]) else none) (fun k n => ?_) (.bind hb ?_)
    · rw [pat_Rename_l0_eq, lt_nat hlt, idx_nat hlt, wrap_succ hlt (by omega)]
      simp only [cond_true, Option.bind_some, pat_eta, List.length_singleton]
    · have : decide ((List.length acc + 1) * 80 ≤ 140737488355328) = true := by
        simp only [reachBytes] at hp
        simp; omega
      simp only [this, cond_true]
      exact ih (i + 1) (acc ++ [qs[i]]) (by omega) (by simp [ha])
theorem ref_loop (p : Pat) (from_ to_ : List Bytes) (v : Bytes) (hp : p.l.length * 80 ≤ reachBytes) (qs : List Pat) (hq : qs.length = p.l.length)
    (h : ∀ (i : Nat) (h : i < p.l.length) (h' : i < qs.length), Ans (fun k => ref12_Rename k p.l[i] from_ to_) (qs[i], ())) :
    ∀ (d i : Nat) (acc : List Pat), i + d = p.l.length → acc.length = i → Ans2 (fun k n => ref12_Rename_l1 k n p from_ to_ v (i : Int) acc) ((⟨p.k, v, p.type, p.lo, p.hi, acc ++ qs.drop i⟩ : Pat), ()) := by
  intro d
  have hlen := reach_small hp (by omega)
  induction d with
  | zero =>
    intro i acc hi ha
    refine .succ (fun k n => ?_) .const
    rw [ref12_Rename_l1_eq, nlt_nat (by omega), List.drop_eq_nil_of_le (by omega)]; simp
  | succ d ih =>
    intro i acc hi ha
    have hlt : i < p.l.length := by omega
    have hlt' : i < qs.length := by omega
    have hb := h i hlt hlt'
    have e : acc ++ qs.drop i = (acc ++ [qs[i]]) ++ qs.drop (i + 1) := by rw [List.drop_eq_getElem_cons hlt']; simp
    rw [e]
    refine .succ (g := fun k n => (ref12_Rename k p.l[i] from_ to_).bind fun r => bif decide ((List.length acc + 1) * 80 ≤ 140737488355328) then ref12_Rename_l1 k n p from_ to_ v ((i + 1 : Nat) : Int) (acc ++ [r.1]) else none) (fun k n => ?_) (.bind hb ?_)
    · rw [ref12_Rename_l1_eq, lt_nat hlt, idx_nat hlt, wrap_succ hlt (by omega)]
      simp only [cond_true, Option.bind_some, pat_eta, List.length_singleton]
    · have : decide ((List.length acc + 1) * 80 ≤ 140737488355328) = true := by
        simp only [reachBytes] at hp
        simp; omega
      simp only [this, cond_true]
      exact ih (i + 1) (acc ++ [qs[i]]) (by omega) (by simp [ha])
theorem ref_loop0 (p : Pat) (from_ to_ : List Bytes) (v : Bytes) (hp : p.l.length * 80 ≤ reachBytes) (qs : List Pat) (hq : qs.length = p.l.length)
    (h : ∀ (i : Nat) (h : i < p.l.length) (h' : i < qs.length), Ans (fun k => ref12_Rename k p.l[i] from_ to_) (qs[i], ())) :
    Ans2 (fun k n => ref12_Rename_l0 k n p from_ to_ v) ((⟨p.k, v, p.type, p.lo, p.hi, qs⟩ : Pat), ()) := by
  by_cases h0 : 0 < p.l.length
  · have hlt' : 0 < qs.length := by omega
    have hb := h 0 h0 hlt'
    refine .succ (g := fun k n => (ref12_Rename k p.l[0] from_ to_).bind fun r => ref12_Rename_l1 k n p from_ to_ v ((1 : Nat) : Int) [r.1]) (fun k n => ?_) (.bind hb ?_)
    · rw [ref12_Rename_l0_eq]
      have e1 : decide ((0 : Int) < ((List.length p.l : Nat) : Int)) = true := by simp; exact h0
      have e2 : idx p.l 0 = some p.l[0] := idx_nat (i := 0) h0
      rw [e1, e2]
      simp only [cond_true, Option.bind_some, pat_eta, List.length_singleton]
      rfl
    · have := ref_loop p from_ to_ v hp qs hq h (p.l.length - 1) 1 [qs[0]] (by omega) rfl
      have e : [qs[0]] ++ qs.drop 1 = qs := by
        conv => rhs; rw [← List.drop_zero (l := qs), List.drop_eq_getElem_cons hlt']
        rfl
      rw [e] at this
      exact this
  · have e0 : qs = [] := List.eq_nil_of_length_eq_zero (by omega)
    subst e0
    refine .succ (fun k n => ?_) .const
    rw [ref12_Rename_l0_eq]
    have e1 : decide ((0 : Int) < ((List.length p.l : Nat) : Int)) = false := decide_eq_false (by omega)
    rw [e1]; rfl
theorem renames (from_ to_ : List Bytes) (hf : from_.length ≤ 140737488351232) {p : Pat} (hp : PatSmall p) : ∃ q, PatSmall q ∧ Ans (fun k => pat_Rename k p from_ to_) (q, ()) ∧ Ans (fun k => ref12_Rename k p from_ to_) (q, ()) := by
  induction hp with
  | @mk p h hl ih =>
    obtain ⟨qs, hq, hqs⟩ := choose_all p.l ih
    obtain ⟨r, hr1, hr2⟩ := index_name from_ to_ p.var hf from_.length 0 (by omega)
    have hi : Ans (fun k => slices_Index_string k from_ p.var) (r, ()) := .succ (slices_Index_string_eq · from_ p.var) hr1.diag
    have hn : Ans (fun k => ref09_Name k p.var from_ to_) (pickN p.var to_ r, ()) := .succ (ref09_Name_eq · p.var from_ to_) hr2.diag
    have L1 : ∀ v, Ans (fun k => pat_Rename_j1 k p from_ to_ v) ((⟨p.k, v, p.type, p.lo, p.hi, qs⟩ : Pat), ()) := fun v => by
      have := rename_loop p from_ to_ v h qs hq (fun i h1 h2 => (hqs i h1 h2).2.1) p.l.length 0 [] (by omega) rfl
      exact .of (pat_Rename_j1_eq · p from_ to_ v) this.diag
    have L2 : ∀ v, Ans (fun k => ref12_Rename_j1 k p from_ to_ v) ((⟨p.k, v, p.type, p.lo, p.hi, qs⟩ : Pat), ()) := fun v =>
      .of (ref12_Rename_j1_eq · p from_ to_ v) (ref_loop0 p from_ to_ v h qs hq fun i h1 h2 => (hqs i h1 h2).2.2).diag
    have J2 : Ans (fun k => ref12_Rename_j0 k p from_ to_ false) ((⟨p.k, p.var, p.type, p.lo, p.hi, qs⟩ : Pat), ()) := .of (ref12_Rename_j0_eq · p from_ to_ false) (.no rfl (L2 p.var))
    have J1 : Ans (fun k => ref12_Rename_j0 k p from_ to_ true) ((⟨p.k, pickN p.var to_ r, p.type, p.lo, p.hi, qs⟩ : Pat), ()) := .of (ref12_Rename_j0_eq · p from_ to_ true) (.yes rfl (.bind hn (L2 _)))
    have I2 : Ans (fun k => pat_Rename_j0 k p from_ to_ (r, ()) false) ((⟨p.k, p.var, p.type, p.lo, p.hi, qs⟩ : Pat), ()) := .of (pat_Rename_j0_eq · p from_ to_ (r, ()) false) (.no rfl (L1 p.var))
    have small : ∀ v, PatSmall ⟨p.k, v, p.type, p.lo, p.hi, qs⟩ := fun v => .mk (by rw [hq]; exact h) fun d hd => by
      obtain ⟨i, hi, rfl⟩ := List.getElem_of_mem hd
      exact (hqs i (by rw [← hq]; exact hi) hi).1
    have A : ∀ (b : Bool) {res : Pat × Unit}, (p.k == 1 || p.k == 5 || p.k == 6) = b → Ans (fun k => bif b == true then (bif decide (r ≥ 0) == true then pat_Rename_j0 k p from_ to_ (r, ()) (decide (r < ((List.length to_ : Nat) : Int))) else pat_Rename_j0 k p from_ to_ (r, ()) false) else pat_Rename_j0 k p from_ to_ (r, ()) false) res → Ans (fun k => pat_Rename k p from_ to_) res := fun b res hb hA =>
      .succ (pat_Rename_eq · p from_ to_) (.bind hi (.bind (isLeaf p.k) (by rw [hb]; exact hA)))
    have B : ∀ {res : Pat × Unit}, Ans (fun k => bif (p.k == 1) == false then (bif (p.k == 5) == false then ref12_Rename_j0 k p from_ to_ (p.k == 6) else ref12_Rename_j0 k p from_ to_ true) else ref12_Rename_j0 k p from_ to_ true) res → Ans (fun k => ref12_Rename k p from_ to_) res := fun hB => .succ (ref12_Rename_eq · p from_ to_) hB
    by_cases hlf : (p.k == 1 || p.k == 5 || p.k == 6) = true
    · refine ⟨⟨p.k, pickN p.var to_ r, p.type, p.lo, p.hi, qs⟩, small _, A true hlf (.yes rfl ?_), B ?_⟩
      · by_cases h0 : 0 ≤ r
        · refine .yes (by rw [decide_eq_true h0]; rfl) ?_
          by_cases h1 : r < (to_.length : Int)
          · have e1 : idx to_ r = some (pickN p.var to_ r) := by
              have e3 : r.toNat < to_.length := by omega
              unfold idx pickN
              rw [decide_eq_true h0, cond_true, if_pos ⟨h0, h1⟩, List.getElem?_eq_getElem e3]
              rfl
            have e2 : decide (r < ((List.length to_ : Nat) : Int)) = true := decide_eq_true h1
            rw [e2]
            have e1' : idx to_ ((r, ()) : Int × Unit).1 = some (pickN p.var to_ r) := e1
            have K : ∀ k, pat_Rename_j0 k p from_ to_ (r, ()) true = pat_Rename_j1 k p from_ to_ (pickN p.var to_ r) := fun k => by
              rw [pat_Rename_j0_eq, e1', cond_true, Option.bind_some]
            exact .of K (L1 _)
          · have e1 : pickN p.var to_ r = p.var := if_neg fun h => h1 h.2
            have e2 : decide (r < ((List.length to_ : Nat) : Int)) = false := decide_eq_false h1
            rw [e1, e2]
            exact I2
        · have e1 : pickN p.var to_ r = p.var := if_neg fun h => h0 h.1
          rw [e1]
          exact .no (by rw [decide_eq_false h0]; rfl) I2
      · cases h1 : p.k == 1 with
        | true => exact .no rfl J1
        | false =>
          refine .yes rfl ?_
          cases h5 : p.k == 5 with
          | true => exact .no rfl J1
          | false =>
            refine .yes rfl ?_
            rw [h1, h5] at hlf
            have h6 : (p.k == 6) = true := by simpa using hlf
            rw [h6]
            exact J1
    · have hlf' : (p.k == 1 || p.k == 5 || p.k == 6) = false := by simpa using hlf
      refine ⟨⟨p.k, p.var, p.type, p.lo, p.hi, qs⟩, small _, A false hlf' (.no rfl I2), B ?_⟩
      have h1 : (p.k == 1) = false := by cases hh : p.k == 1 <;> simp_all
      have h5 : (p.k == 5) = false := by cases hh : p.k == 5 <;> simp_all
      have h6 : (p.k == 6) = false := by cases hh : p.k == 6 <;> simp_all
      rw [h1, h5, h6]
      exact .yes rfl (.yes rfl J2)

theorem same_loop (q : Pat) (hq : q.l.length * 80 ≤ reachBytes) (h : ∀ d ∈ q.l, Ans (fun k => ref12_Same k d d) (true, ())) : ∀ (d i : Nat), i + d = q.l.length → Ans2 (fun k n => ref12_Same_l0 k n q q (i : Int)) (true, ()) := by
  intro d
  have hlen := reach_small hq (by omega)
  induction d with
  | zero =>
    intro i hi
    refine .succ (fun k n => ?_) .const
    have hn : decide (((i : Nat) : Int) < ((List.length q.l : Nat) : Int)) = false := nlt_nat (by omega)
    rw [ref12_Same_l0_eq, hn, show (false == true) = false from rfl, cond_false]
  | succ d ih =>
    intro i hi
    have hlt : i < q.l.length := by omega
    refine .succ (g := fun k n => (ref12_Same k q.l[i] q.l[i]).bind fun r => bif !r.1 then some (false, ()) else ref12_Same_l0 k n q q ((i + 1 : Nat) : Int)) (fun k n => ?_) (.bind (h _ (List.getElem_mem _)) (ih (i + 1) (by omega)))
    rw [ref12_Same_l0_eq, lt_nat hlt, beq_self_eq_true, cond_true, cond_true, ref12_Same_j1_eq, idx_nat hlt, wrap_succ hlt (by omega), Option.bind_some, Option.bind_some]
theorem same {q : Pat} (hq : PatSmall q) : Ans (fun k => ref12_Same k q q) (true, ()) := by
  induction hq with
  | @mk q h hl ih =>
    refine .succ (g := fun k => ref12_Same_l0 k k q q ((0 : Nat) : Int)) (fun k => ?_) (same_loop q h ih q.l.length 0 (by omega)).diag
    rw [ref12_Same_eq, ref12_Same_j0_eq]
    have e1 : (q.k != q.k) = false := by simp
    have e2 : (!(q.var == q.var)) = false := by simp
    have e3 : (!(q.type == q.type)) = false := by simp
    have e4 : (q.lo != q.lo) = false := by simp
    have e5 : (q.hi != q.hi) = false := by simp
    have e6 : (((List.length q.l : Nat) : Int) != ((List.length q.l : Nat) : Int)) = false := by simp
    rw [e1, e2, e3, e4, e5, e6]
    rfl
theorem size_loop (q : Pat) (hq : q.l.length * 80 ≤ reachBytes) (h : ∀ d ∈ q.l, ∃ s, Ans (fun k => ref12_Size k d) (s, ())) : ∀ (d i : Nat) (acc : Int), i + d = q.l.length → ∃ s, Ans2 (fun k n => ref12_Size_l0 k n q acc (i : Int)) (s, ()) := by
  intro d
  have hlen := reach_small hq (by omega)
  induction d with
  | zero =>
    intro i acc hi
    refine ⟨acc, .succ (fun k n => ?_) .const⟩
    rw [ref12_Size_l0_eq, nlt_nat (by omega), cond_false]
  | succ d ih =>
    intro i acc hi
    have hlt : i < q.l.length := by omega
    obtain ⟨s, hs⟩ := h _ (List.getElem_mem hlt)
    obtain ⟨s', hs'⟩ := ih (i + 1) (IntKind.i64.wrap (acc + s)) (by omega)
    refine ⟨s', .succ (g := fun k n => (ref12_Size k q.l[i]).bind fun r => ref12_Size_l0 k n q (IntKind.i64.wrap (acc + r.1)) ((i + 1 : Nat) : Int)) (fun k n => ?_) (.bind hs hs')⟩
    rw [ref12_Size_l0_eq, lt_nat hlt, idx_nat hlt, wrap_succ hlt (by omega), cond_true, Option.bind_some]
theorem size {q : Pat} (hq : PatSmall q) : ∃ s, Ans (fun k => ref12_Size k q) (s, ()) := by
  induction hq with
  | @mk q h hl ih =>
    obtain ⟨s, hs⟩ := size_loop q h ih q.l.length 0 1 (by omega)
    exact ⟨s, .succ (ref12_Size_eq · q) hs.diag⟩


/-! ### Names -/
theorem named_ (v : Bytes) (from_ to_ : List Bytes) (hf : from_.length ≤ 140737488351232) : ∃ r : Int, Ans (fun k => slices_Index_string k from_ v) (r, ()) ∧ Ans (fun k => ref09_Name k v from_ to_) (pickN v to_ r, ()) := by
  obtain ⟨r, h1, h2⟩ := index_name from_ to_ v hf from_.length 0 (by omega)
  exact ⟨r, .succ (slices_Index_string_eq · from_ v) h1.diag, .succ (ref09_Name_eq · v from_ to_) h2.diag⟩
theorem pick_idx {v : Bytes} {to_ : List Bytes} {r : Int} (h0 : 0 ≤ r) (h1 : r < (to_.length : Int)) : idx to_ r = some (pickN v to_ r) := by
  have e3 : r.toNat < to_.length := by omega
  unfold idx pickN
  rw [decide_eq_true h0, cond_true, if_pos ⟨h0, h1⟩, List.getElem?_eq_getElem e3]
  rfl
theorem expr_named_ans (v : Bytes) (from_ to_ : List Bytes) {r : Int} (hi : Ans (fun k => slices_Index_string k from_ v) (r, ())) : Ans (fun k => expr_named k v from_ to_) (pickN v to_ r, ()) := by
  have I2 : Ans (fun k => expr_named_j0 k v from_ to_ (r, ()) false) (v, ()) := .of (expr_named_j0_eq · v from_ to_ (r, ()) false) (.no rfl .const)
  refine .succ (expr_named_eq · v from_ to_) (.bind hi ?_)
  by_cases h0 : 0 ≤ r
  · refine .yes (by rw [decide_eq_true h0]; rfl) ?_
    by_cases h1 : r < (to_.length : Int)
    · have e1' : idx to_ ((r, ()) : Int × Unit).1 = some (pickN v to_ r) := pick_idx h0 h1
      have e2 : decide (r < ((List.length to_ : Nat) : Int)) = true := decide_eq_true h1
      rw [e2]
      have K : ∀ k, expr_named_j0 k v from_ to_ (r, ()) true = some (pickN v to_ r, ()) := fun k => by
        rw [expr_named_j0_eq, e1', cond_true, Option.bind_some]
      exact .of K .const
    · have e1 : pickN v to_ r = v := if_neg fun h => h1 h.2
      have e2 : decide (r < ((List.length to_ : Nat) : Int)) = false := decide_eq_false h1
      rw [e1, e2]
      exact I2
  · have e1 : pickN v to_ r = v := if_neg fun h => h0 h.1
    rw [e1]
    exact .no (by rw [decide_eq_false h0]; rfl) I2

/-! ### Conditions -/
theorem erenames (from_ to_ : List Bytes) (hf : from_.length ≤ 140737488351232) {x : Exp} (hx : ExpSmall x) : ∃ y, ExpSmall y ∧ Ans (fun k => expr_Rename k x from_ to_) (y, ()) ∧ Ans (fun k => ref09_Rename k x from_ to_) (y, ()) := by
  induction hx with
  | @mk x h hl ih =>
    obtain ⟨ys, hy, hys⟩ := choose_all x.l ih
    have hlen := reach_small h (by omega)
    obtain ⟨r, hr1, hr2⟩ := named_ x.var from_ to_ hf
    have L1 : ∀ v, Ans (fun k => expr_Rename_j0 k x from_ to_ v) ((⟨x.k, x.v, v, x.field, ys⟩ : Exp), ()) := fun v => by
      have := loop_map (loop := fun k n i acc => expr_Rename_l0 k n x from_ to_ v i acc) (f := fun k d => expr_Rename k d from_ to_) (g := fun _ (r : Exp × Unit) => r.1) (fin := fun _ acc => some ((⟨x.k, x.v, v, x.field, acc⟩ : Exp), ())) (c := 96) (qs := ys) (res := ((⟨x.k, x.v, v, x.field, ys⟩ : Exp), ()))
        (fun k n i hi acc => by
          rw [expr_Rename_l0_eq, lt_nat hi, idx_nat hi, wrap_succ hi (by omega)]
          simp only [cond_true, Option.bind_some, exp_eta, List.length_singleton])
        (fun k n acc => by rw [expr_Rename_l0_eq, nlt_nat (Nat.le_refl _), cond_false]) h hy (fun i h1 h2 => ⟨_, (hys i h1 h2).2.1, rfl⟩) .const x.l.length 0 [] (by omega) rfl
      exact .of (expr_Rename_j0_eq · x from_ to_ v) this.diag
    have L2 : ∀ v, Ans (fun k => ref09_Rename_j0 k x from_ to_ v) ((⟨x.k, x.v, v, x.field, ys⟩ : Exp), ()) := fun v => by
      have M := loop_map (loop := fun k n i acc => ref09_Rename_l1 k n x from_ to_ v i acc) (f := fun k d => ref09_Rename k d from_ to_) (g := fun _ (r : Exp × Unit) => r.1) (fin := fun _ acc => some ((⟨x.k, x.v, v, x.field, acc⟩ : Exp), ())) (c := 96) (qs := ys) (res := ((⟨x.k, x.v, v, x.field, ys⟩ : Exp), ()))
        (fun k n i hi acc => by
          rw [ref09_Rename_l1_eq, lt_nat hi, idx_nat hi, wrap_succ hi (by omega)]
          simp only [cond_true, Option.bind_some, exp_eta, List.length_singleton])
        (fun k n acc => by rw [ref09_Rename_l1_eq, nlt_nat (Nat.le_refl _), cond_false]) h hy (fun i h1 h2 => ⟨_, (hys i h1 h2).2.2, rfl⟩) .const
      have N : Ans2 (fun k n => ref09_Rename_l0 k n x from_ to_ v) ((⟨x.k, x.v, v, x.field, ys⟩ : Exp), ()) := by
        by_cases h0 : 0 < x.l.length
        · have hlt' : 0 < ys.length := by omega
          refine .succ (g := fun k n => (ref09_Rename k x.l[0] from_ to_).bind fun r => ref09_Rename_l1 k n x from_ to_ v ((1 : Nat) : Int) [r.1]) (fun k n => ?_) (.bind (hys 0 h0 hlt').2.2 (M (x.l.length - 1) 1 [ys[0]] (by omega) (by rw [List.take_succ_eq_append_getElem hlt']; rfl)))
          rw [ref09_Rename_l0_eq]
          have e1 : decide ((0 : Int) < ((List.length x.l : Nat) : Int)) = true := decide_eq_true (by omega)
          have e2 : idx x.l 0 = some x.l[0] := idx_nat (i := 0) h0
          rw [e1, e2]
          simp only [cond_true, Option.bind_some, exp_eta, List.length_singleton]
          rfl
        · have e0 : ys = [] := List.eq_nil_of_length_eq_zero (by omega)
          subst e0
          refine .succ (fun k n => ?_) .const
          rw [ref09_Rename_l0_eq]
          have e1 : decide ((0 : Int) < ((List.length x.l : Nat) : Int)) = false := decide_eq_false (by omega)
          rw [e1]; rfl
      exact .of (ref09_Rename_j0_eq · x from_ to_ v) N.diag
    have small : ∀ v, ExpSmall ⟨x.k, x.v, v, x.field, ys⟩ := fun v => .mk (by rw [hy]; exact h) fun d hd => by
      obtain ⟨i, hi, rfl⟩ := List.getElem_of_mem hd
      exact (hys i (by rw [← hy]; exact hi) hi).1
    cases h2 : x.k == 2 with
    | true =>
      refine ⟨⟨x.k, x.v, pickN x.var to_ r, x.field, ys⟩, small _, .succ (expr_Rename_eq · x from_ to_) (.yes h2 (.bind (expr_named_ans x.var from_ to_ hr1) (L1 _))), .succ (ref09_Rename_eq · x from_ to_) (.yes h2 (.bind hr2 (L2 _)))⟩
    | false =>
      exact ⟨⟨x.k, x.v, x.var, x.field, ys⟩, small _, .succ (expr_Rename_eq · x from_ to_) (.no h2 (L1 _)), .succ (ref09_Rename_eq · x from_ to_) (.no h2 (L2 _))⟩

theorem number_same (x : Int) : Ans (fun k => ref09_Number k x x) (0, ()) := .succ (ref09_Number_eq · x x) (.yes (by simp) .const)
theorem compare_same (x : Bytes) : Ans (fun k => ref09_compare k x x) (0, ()) := .succ (ref09_compare_eq · x x) (.yes (by simp) .const)
theorem value_same (x : Val) : Ans (fun k => ref06_Order k x x) (0, ()) := .succ (ref06_Order_eq · x x) (.yes (by simp) .const)
theorem order_loop (x : Exp) (hx : x.l.length * 96 ≤ reachBytes) (h : ∀ d ∈ x.l, Ans (fun k => ref09_Order k d d) (0, ())) : ∀ (d i : Nat), i + d = x.l.length → Ans2 (fun k n => ref09_Order_l1 k n x x (i : Int)) (0, ()) := by
  intro d
  have hlen := reach_small hx (by omega)
  induction d with
  | zero =>
    intro i hi
    refine .succ (fun k n => ?_) .const
    have hn : decide (((i : Nat) : Int) < ((List.length x.l : Nat) : Int)) = false := nlt_nat (by omega)
    rw [ref09_Order_l1_eq, hn, show (false == true) = false from rfl, cond_false]
  | succ d ih =>
    intro i hi
    have hlt : i < x.l.length := by omega
    refine .succ (g := fun k n => (ref09_Order k x.l[i] x.l[i]).bind fun r => bif r.1 != 0 then some (r.1, ()) else ref09_Order_l1 k n x x ((i + 1 : Nat) : Int)) (fun k n => ?_) (.bind (h _ (List.getElem_mem _)) (.no rfl (ih (i + 1) (by omega))))
    rw [ref09_Order_l1_eq, lt_nat hlt, beq_self_eq_true, cond_true, cond_true, ref09_Order_j0_eq, idx_nat hlt, wrap_succ hlt (by omega), Option.bind_some, Option.bind_some]
theorem order_same {x : Exp} (hx : ExpSmall x) : Ans (fun k => ref09_Order k x x) (0, ()) := by
  induction hx with
  | @mk x h hl ih =>
    have L := (order_loop x h ih x.l.length 0 (by omega)).diag
    have z : ∀ (k n : Nat) (i j : Int), (i = 0 ∧ j = 1 ∨ i = 1 ∧ j = 2 ∨ i = 2 ∧ j = 3 ∨ i = 3 ∧ j = 4 ∨ i = 4 ∧ j = 5) → ref09_Order_l0 k (n + 1) x x (0, ()) (0, ()) (0, ()) (0, ()) (0, ()) i = ref09_Order_l0 k n x x (0, ()) (0, ()) (0, ()) (0, ()) (0, ()) j := fun k n i j hij => by
      rw [ref09_Order_l0_eq]
      rcases hij with ⟨rfl, rfl⟩ | ⟨rfl, rfl⟩ | ⟨rfl, rfl⟩ | ⟨rfl, rfl⟩ | ⟨rfl, rfl⟩ <;> kernel_rfl
    have z5 : ∀ (k n : Nat), ref09_Order_l0 k (n + 1) x x (0, ()) (0, ()) (0, ()) (0, ()) (0, ()) 5 = ref09_Order_l1 k k x x 0 := fun k n => by
      rw [ref09_Order_l0_eq]
      kernel_rfl
    have L5 : Ans2 (fun k n => ref09_Order_l0 k n x x (0, ()) (0, ()) (0, ()) (0, ()) (0, ()) 5) (0, ()) := by
      obtain ⟨N, hN⟩ := L
      exact .succ z5 ⟨N, fun k n hk _ => hN k hk⟩
    have L4 := Ans2.succ (f := fun k n => ref09_Order_l0 k n x x (0, ()) (0, ()) (0, ()) (0, ()) (0, ()) 4) (z · · 4 5 (by omega)) L5
    have L3 := Ans2.succ (f := fun k n => ref09_Order_l0 k n x x (0, ()) (0, ()) (0, ()) (0, ()) (0, ()) 3) (z · · 3 4 (by omega)) L4
    have L2 := Ans2.succ (f := fun k n => ref09_Order_l0 k n x x (0, ()) (0, ()) (0, ()) (0, ()) (0, ()) 2) (z · · 2 3 (by omega)) L3
    have L1 := Ans2.succ (f := fun k n => ref09_Order_l0 k n x x (0, ()) (0, ()) (0, ()) (0, ()) (0, ()) 1) (z · · 1 2 (by omega)) L2
    have L0 := Ans2.succ (f := fun k n => ref09_Order_l0 k n x x (0, ()) (0, ()) (0, ()) (0, ()) (0, ()) 0) (z · · 0 1 (by omega)) L1
    exact .succ (ref09_Order_eq · x x) (.bind (number_same x.k) (.bind (value_same x.v) (.bind (compare_same x.var) (.bind (compare_same x.field) (.bind (number_same _) L0.diag)))))
theorem esame {x : Exp} (hx : ExpSmall x) : Ans (fun k => ref09_Same k x x) (true, ()) := .succ (ref09_Same_eq · x x) (.bind (order_same hx) .const)

theorem esize_loop (q : Exp) (hq : q.l.length * 96 ≤ reachBytes) (h : ∀ d ∈ q.l, ∃ s, Ans (fun k => ref09_Size k d) (s, ())) : ∀ (d i : Nat) (acc : Int), i + d = q.l.length → ∃ s, Ans2 (fun k n => ref09_Size_l0 k n q acc (i : Int)) (s, ()) := by
  intro d
  have hlen := reach_small hq (by omega)
  induction d with
  | zero =>
    intro i acc hi
    refine ⟨acc, .succ (fun k n => ?_) .const⟩
    rw [ref09_Size_l0_eq, nlt_nat (by omega), cond_false]
  | succ d ih =>
    intro i acc hi
    have hlt : i < q.l.length := by omega
    obtain ⟨s, hs⟩ := h _ (List.getElem_mem hlt)
    obtain ⟨s', hs'⟩ := ih (i + 1) (IntKind.i64.wrap (acc + s)) (by omega)
    refine ⟨s', .succ (g := fun k n => (ref09_Size k q.l[i]).bind fun r => ref09_Size_l0 k n q (IntKind.i64.wrap (acc + r.1)) ((i + 1 : Nat) : Int)) (fun k n => ?_) (.bind hs hs')⟩
    rw [ref09_Size_l0_eq, lt_nat hlt, idx_nat hlt, wrap_succ hlt (by omega), cond_true, Option.bind_some]
theorem esize {q : Exp} (hq : ExpSmall q) : ∃ s, Ans (fun k => ref09_Size k q) (s, ()) := by
  induction hq with
  | @mk q h hl ih =>
    obtain ⟨s, hs⟩ := esize_loop q h ih q.l.length 0 1 (by omega)
    exact ⟨s, .succ (ref09_Size_eq · q) hs.diag⟩
theorem light_loop (q : Qry) (hq : q.where_.length * 96 ≤ reachBytes) (h : ∀ d ∈ q.where_, ExpSmall d) : ∀ (d i : Nat) (acc : Int), i + d = q.where_.length → ∃ b, Ans2 (fun k n => ref13_Light_l0 k n q acc (i : Int)) (b, ()) := by
  intro d
  have hlen := reach_small hq (by omega)
  induction d with
  | zero =>
    intro i acc hi
    cases hb : decide (acc ≤ 600) with
    | true =>
      refine ⟨decide (((List.length q.items : Nat) : Int) ≤ 60), .succ (fun k n => ?_) .const⟩
      rw [ref13_Light_l0_eq, nlt_nat (by omega), cond_false, hb, beq_self_eq_true, cond_true]
    | false =>
      refine ⟨false, .succ (fun k n => ?_) .const⟩
      rw [ref13_Light_l0_eq, nlt_nat (by omega), cond_false, hb, show (false == true) = false from rfl, cond_false]
  | succ d ih =>
    intro i acc hi
    have hlt : i < q.where_.length := by omega
    obtain ⟨s, hs⟩ := esize (h _ (List.getElem_mem hlt))
    obtain ⟨s', hs'⟩ := ih (i + 1) (IntKind.i64.wrap (acc + s)) (by omega)
    refine ⟨s', .succ (g := fun k n => (ref09_Size k q.where_[i]).bind fun r => ref13_Light_l0 k n q (IntKind.i64.wrap (acc + r.1)) ((i + 1 : Nat) : Int)) (fun k n => ?_) (.bind hs hs')⟩
    rw [ref13_Light_l0_eq, lt_nat hlt, idx_nat hlt, wrap_succ hlt (by omega), cond_true, Option.bind_some]
theorem light {q : Qry} (hq : QrySmall q) : ∃ b, Ans (fun k => ref13_Light k q) (b, ()) := by
  obtain ⟨s, hs⟩ := size hq.p
  obtain ⟨b, hb⟩ := light_loop q hq.wl hq.w q.where_.length 0 s (by omega)
  exact ⟨b, .succ (ref13_Light_eq · q) (.bind hs hb.diag)⟩

/-! ### Queries -/
def itemOf (to_ : List Bytes) (d : Itm) (r : Int × Unit) : Itm := ⟨d.name, d.k, pickN d.var to_ r.1, d.field⟩
theorem q_items (q : Qry) (from_ to_ : List Bytes) (p : Pat) (w : List Exp) (hl : q.items.length * 56 ≤ reachBytes) (its : List Itm) (hi : its.length = q.items.length)
    (h : ∀ (i : Nat) (h : i < q.items.length) (h' : i < its.length), ∃ r, Ans (fun k => slices_Index_string k from_ q.items[i].var) r ∧ itemOf to_ q.items[i] r = its[i]) :
    Ans2 (fun k n => query_Rename_l1 k n q from_ to_ (p, ()) 0 w []) ((⟨p, w, q.key, q.mode, q.within_, its⟩ : Qry), ()) := by
  have hlen := reach_small hl (by omega)
  refine loop_map (loop := fun k n i acc => query_Rename_l1 k n q from_ to_ (p, ()) i w acc) (f := fun k (d : Itm) => slices_Index_string k from_ d.var) (g := itemOf to_) (fin := fun _ acc => some ((⟨p, w, q.key, q.mode, q.within_, acc⟩ : Qry), ())) (c := 56) (qs := its)
    (fun k n i hi acc => ?_) (fun k n acc => ?_) hl hi h .const q.items.length 0 [] (by omega) rfl
  · rw [query_Rename_l1_eq, lt_nat hi, idx_nat hi, cond_true, Option.bind_some]
    refine congrArg _ (funext fun r => ?_)
    have J : ∀ v, query_Rename_j1 k n q from_ to_ (p, ()) w q.items[i] (i : Int) acc v = bif decide ((acc.length + 1) * 56 ≤ 140737488355328) then query_Rename_l1 k n q from_ to_ (p, ()) ((i + 1 : Nat) : Int) w (acc ++ [⟨q.items[i].name, q.items[i].k, v, q.items[i].field⟩]) else none := fun v => by
      rw [query_Rename_j1_eq, wrap_succ hi (by omega)]
      rfl
    by_cases h0 : 0 ≤ r.1
    · have e0 : (decide (r.1 ≥ 0) == true) = true := by rw [decide_eq_true h0]; rfl
      rw [e0, cond_true, query_Rename_j0_eq]
      by_cases h1 : r.1 < (to_.length : Int)
      · rw [decide_eq_true h1, cond_true, pick_idx (v := q.items[i].var) h0 h1, Option.bind_some, J]
        rfl
      · have e1 : pickN q.items[i].var to_ r.1 = q.items[i].var := if_neg fun h => h1 h.2
        rw [decide_eq_false h1, cond_false, J]
        unfold itemOf
        rw [e1]
    · have e0 : (decide (r.1 ≥ 0) == true) = false := by rw [decide_eq_false h0]; rfl
      have e1 : pickN q.items[i].var to_ r.1 = q.items[i].var := if_neg fun h => h0 h.1
      rw [e0, cond_false, query_Rename_j0_eq, cond_false, J]
      unfold itemOf
      rw [e1]
  · rw [query_Rename_l1_eq, nlt_nat (Nat.le_refl _), cond_false]
    cases p
    rfl
theorem r_items (q : Qry) (from_ to_ : List Bytes) (p : Pat) (w : List Exp) (hl : q.items.length * 56 ≤ reachBytes) (its : List Itm) (hi : its.length = q.items.length)
    (h : ∀ (i : Nat) (h : i < q.items.length) (h' : i < its.length), ∃ r, Ans (fun k => ref09_Name k q.items[i].var from_ to_) r ∧ (⟨q.items[i].name, q.items[i].k, r.1, q.items[i].field⟩ : Itm) = its[i]) :
    Ans2 (fun k n => ref13_Rename_l3 k n q from_ to_ (p, ()) w) ((⟨p, w, q.key, q.mode, q.within_, its⟩ : Qry), ()) := by
  have hlen := reach_small hl (by omega)
  refine loop_first (loop := fun k n i acc => ref13_Rename_l5 k n q from_ to_ (p, ()) w i acc) (f := fun k (d : Itm) => ref09_Name k d.var from_ to_) (g := fun d (r : Bytes × Unit) => (⟨d.name, d.k, r.1, d.field⟩ : Itm)) (fin := fun _ acc => some ((⟨p, w, q.key, q.mode, q.within_, acc⟩ : Qry), ())) (c := 56) (qs := its)
    (fun k n h0 => ?_) (fun k n h0 => ?_) (fun k n i hi acc => ?_) (fun k n acc => ?_) hl hi h .const
  · have e1 : decide ((0 : Int) < ((List.length q.items : Nat) : Int)) = true := decide_eq_true (by omega)
    have e2 : idx q.items 0 = some q.items[0] := idx_nat (i := 0) h0
    rw [ref13_Rename_l3_eq, e1, e2, cond_true, Option.bind_some]
    rfl
  · have e1 : decide ((0 : Int) < ((List.length q.items : Nat) : Int)) = false := decide_eq_false (by omega)
    rw [ref13_Rename_l3_eq, e1, cond_false]
    cases p
    rfl
  · rw [ref13_Rename_l5_eq, lt_nat hi, idx_nat hi, wrap_succ hi (by omega), cond_true, Option.bind_some]
    rfl
  · rw [ref13_Rename_l5_eq, nlt_nat (Nat.le_refl _), cond_false]
    cases p
    rfl
theorem r_items0 (q : Qry) (from_ to_ : List Bytes) (p : Pat) (hl : q.items.length * 56 ≤ reachBytes) (its : List Itm) (hi : its.length = q.items.length)
    (h : ∀ (i : Nat) (h : i < q.items.length) (h' : i < its.length), ∃ r, Ans (fun k => ref09_Name k q.items[i].var from_ to_) r ∧ (⟨q.items[i].name, q.items[i].k, r.1, q.items[i].field⟩ : Itm) = its[i]) :
    Ans2 (fun k n => ref13_Rename_l2 k n q from_ to_ (p, ())) ((⟨p, [], q.key, q.mode, q.within_, its⟩ : Qry), ()) := by
  have hlen := reach_small hl (by omega)
  refine loop_first (loop := fun k n i acc => ref13_Rename_l4 k n q from_ to_ (p, ()) i acc) (f := fun k (d : Itm) => ref09_Name k d.var from_ to_) (g := fun d (r : Bytes × Unit) => (⟨d.name, d.k, r.1, d.field⟩ : Itm)) (fin := fun _ acc => some ((⟨p, [], q.key, q.mode, q.within_, acc⟩ : Qry), ())) (c := 56) (qs := its)
    (fun k n h0 => ?_) (fun k n h0 => ?_) (fun k n i hi acc => ?_) (fun k n acc => ?_) hl hi h .const
  · have e1 : decide ((0 : Int) < ((List.length q.items : Nat) : Int)) = true := decide_eq_true (by omega)
    have e2 : idx q.items 0 = some q.items[0] := idx_nat (i := 0) h0
    rw [ref13_Rename_l2_eq, e1, e2, cond_true, Option.bind_some]
    rfl
  · have e1 : decide ((0 : Int) < ((List.length q.items : Nat) : Int)) = false := decide_eq_false (by omega)
    rw [ref13_Rename_l2_eq, e1, cond_false]
    cases p
    rfl
  · rw [ref13_Rename_l4_eq, lt_nat hi, idx_nat hi, wrap_succ hi (by omega), cond_true, Option.bind_some]
    rfl
  · rw [ref13_Rename_l4_eq, nlt_nat (Nat.le_refl _), cond_false]
    cases p
    rfl

theorem qrenames (from_ to_ : List Bytes) (hf : from_.length ≤ 140737488351232) {q : Qry} (hq : QrySmall q) : ∃ y, QrySmall y ∧ Ans (fun k => query_Rename k q from_ to_) (y, ()) ∧ Ans (fun k => ref13_Rename k q from_ to_) (y, ()) := by
  obtain ⟨p, hp, hp1, hp2⟩ := renames from_ to_ hf hq.p
  obtain ⟨ws, hw, hws⟩ := choose_all q.where_ fun d hd => erenames from_ to_ hf (hq.w d hd)
  obtain ⟨rs, hr, hrs⟩ := choose_all q.items fun d _ => named_ d.var from_ to_ hf
  have hlen := reach_small hq.wl (by omega)
  let its : List Itm := (List.range q.items.length).map fun i => itemOf to_ ((q.items[i]?).getD ⟨[], 0, [], []⟩) ((rs[i]?).getD 0, ())
  have hi : its.length = q.items.length := by simp [its]
  have hit : ∀ (i : Nat) (h : i < q.items.length) (h' : i < its.length) (h2 : i < rs.length), its[i] = itemOf to_ q.items[i] (rs[i], ()) := fun i h h' h2 => by simp [its, h, h2]
  have I1 := fun w => q_items q from_ to_ p w hq.il its hi fun i h h' => ⟨_, (hrs i h (by omega)).1, (hit i h h' (by omega)).symm⟩
  have I2 := fun w => r_items q from_ to_ p w hq.il its hi fun i h h' => ⟨_, (hrs i h (by omega)).2, (hit i h h' (by omega)).symm⟩
  have I3 := r_items0 q from_ to_ p hq.il its hi fun i h h' => ⟨_, (hrs i h (by omega)).2, (hit i h h' (by omega)).symm⟩
  have small : QrySmall ⟨p, ws, q.key, q.mode, q.within_, its⟩ := ⟨hp, by rw [hw]; exact hq.wl, fun d hd => by
    obtain ⟨i, hi, rfl⟩ := List.getElem_of_mem hd
    exact (hws i (by rw [← hw]; exact hi) hi).1, by rw [hi]; exact hq.il⟩
  refine ⟨⟨p, ws, q.key, q.mode, q.within_, its⟩, small, ?_, ?_⟩
  · have L := loop_map (loop := fun k n i acc => query_Rename_l0 k n q from_ to_ (p, ()) i acc) (f := fun k d => expr_Rename k d from_ to_) (g := fun _ (r : Exp × Unit) => r.1) (fin := fun k acc => query_Rename_l1 k k q from_ to_ (p, ()) 0 acc []) (c := 96) (qs := ws) (res := ((⟨p, ws, q.key, q.mode, q.within_, its⟩ : Qry), ()))
      (fun k n i hi acc => by
        rw [query_Rename_l0_eq, lt_nat hi, idx_nat hi, wrap_succ hi (by omega)]
        simp only [cond_true, Option.bind_some, exp_eta, List.length_singleton])
      (fun k n acc => by rw [query_Rename_l0_eq, nlt_nat (Nat.le_refl _), cond_false]) hq.wl hw (fun i h1 h2 => ⟨_, (hws i h1 h2).2.1, rfl⟩) (I1 ws).diag q.where_.length 0 [] (by omega) rfl
    exact .succ (query_Rename_eq · q from_ to_) (.bind hp1 L.diag)
  · have M := loop_map (loop := fun k n i acc => ref13_Rename_l1 k n q from_ to_ (p, ()) i acc) (f := fun k d => ref09_Rename k d from_ to_) (g := fun _ (r : Exp × Unit) => r.1) (fin := fun k acc => ref13_Rename_l3 k k q from_ to_ (p, ()) acc) (c := 96) (qs := ws) (res := ((⟨p, ws, q.key, q.mode, q.within_, its⟩ : Qry), ()))
      (fun k n i hi acc => by
        rw [ref13_Rename_l1_eq, lt_nat hi, idx_nat hi, wrap_succ hi (by omega)]
        simp only [cond_true, Option.bind_some, exp_eta, List.length_singleton])
      (fun k n acc => by rw [ref13_Rename_l1_eq, nlt_nat (Nat.le_refl _), cond_false]) hq.wl hw (fun i h1 h2 => ⟨_, (hws i h1 h2).2.2, rfl⟩) (I2 ws).diag
    have N : Ans2 (fun k n => ref13_Rename_l0 k n q from_ to_ (p, ())) ((⟨p, ws, q.key, q.mode, q.within_, its⟩ : Qry), ()) := by
      by_cases h0 : 0 < q.where_.length
      · have hlt' : 0 < ws.length := by omega
        refine .succ (g := fun k n => (ref09_Rename k q.where_[0] from_ to_).bind fun r => ref13_Rename_l1 k n q from_ to_ (p, ()) ((1 : Nat) : Int) [r.1]) (fun k n => ?_) (.bind (hws 0 h0 hlt').2.2 (M (q.where_.length - 1) 1 [ws[0]] (by omega) (by rw [List.take_succ_eq_append_getElem hlt']; rfl)))
        rw [ref13_Rename_l0_eq]
        have e1 : decide ((0 : Int) < ((List.length q.where_ : Nat) : Int)) = true := decide_eq_true (by omega)
        have e2 : idx q.where_ 0 = some q.where_[0] := idx_nat (i := 0) h0
        rw [e1, e2]
        simp only [cond_true, Option.bind_some, exp_eta, List.length_singleton]
        rfl
      · have e0 : ws = [] := List.eq_nil_of_length_eq_zero (by omega)
        subst e0
        refine .succ (g := fun k _ => ref13_Rename_l2 k k q from_ to_ (p, ())) (fun k n => ?_) (Ans.two I3.diag)
        rw [ref13_Rename_l0_eq]
        have e1 : decide ((0 : Int) < ((List.length q.where_ : Nat) : Int)) = false := decide_eq_false (by omega)
        rw [e1, cond_false]
    exact .succ (ref13_Rename_eq · q from_ to_) (.bind hp2 N.diag)

theorem qsame_items (q : Qry) (hq : q.items.length * 56 ≤ reachBytes) : ∀ (d i : Nat), i + d = q.items.length → Ans2 (fun k n => ref13_Same_l1 k n q q (i : Int)) (true, ()) := by
  intro d
  have hlen := reach_small hq (by omega)
  induction d with
  | zero =>
    intro i hi
    refine .succ (fun k n => ?_) .const
    have hn : decide (((i : Nat) : Int) < ((List.length q.items : Nat) : Int)) = false := nlt_nat (by omega)
    rw [ref13_Same_l1_eq, hn, show (false == true) = false from rfl, cond_false]
  | succ d ih =>
    intro i hi
    have hlt : i < q.items.length := by omega
    refine .succ (g := fun k n => ref13_Same_l1 k n q q ((i + 1 : Nat) : Int)) (fun k n => ?_) (ih (i + 1) (by omega))
    have e : (!((q.items[i].name == q.items[i].name) && ((q.items[i].k == q.items[i].k) && ((q.items[i].var == q.items[i].var) && (q.items[i].field == q.items[i].field))))) = false := by simp
    rw [ref13_Same_l1_eq, lt_nat hlt, beq_self_eq_true, cond_true, cond_true, ref13_Same_j3_eq, idx_nat hlt, wrap_succ hlt (by omega), Option.bind_some, Option.bind_some, e, cond_false]
theorem qsame_where (q : Qry) (hq : QrySmall q) : ∀ (d i : Nat), i + d = q.where_.length → Ans2 (fun k n => ref13_Same_l0 k n q q (i : Int)) (true, ()) := by
  intro d
  have hlen := reach_small hq.wl (by omega)
  induction d with
  | zero =>
    intro i hi
    have L := (qsame_items q hq.il q.items.length 0 (by omega)).diag
    refine .succ (g := fun k _ => ref13_Same_j2 k q q) (fun k n => ?_) (Ans.two (.of (ref13_Same_j2_eq · q q) L))
    have hn : decide (((i : Nat) : Int) < ((List.length q.where_ : Nat) : Int)) = false := nlt_nat (by omega)
    rw [ref13_Same_l0_eq, hn, show (false == true) = false from rfl, cond_false]
  | succ d ih =>
    intro i hi
    have hlt : i < q.where_.length := by omega
    refine .succ (g := fun k n => (ref09_Same k q.where_[i] q.where_[i]).bind fun r => bif !r.1 then some (false, ()) else ref13_Same_l0 k n q q ((i + 1 : Nat) : Int)) (fun k n => ?_) (.bind (esame (hq.w _ (List.getElem_mem _))) (ih (i + 1) (by omega)))
    rw [ref13_Same_l0_eq, lt_nat hlt, beq_self_eq_true, cond_true, cond_true, ref13_Same_j1_eq, idx_nat hlt, wrap_succ hlt (by omega), Option.bind_some, Option.bind_some]
theorem qsame {q : Qry} (hq : QrySmall q) : Ans (fun k => ref13_Same k q q) (true, ()) := by
  have L := (qsame_where q hq q.where_.length 0 (by omega)).diag
  have J : Ans (fun k => ref13_Same_j0 k q q) (true, ()) := .of (ref13_Same_j0_eq · q q) L
  have e2 : ((!(q.key == q.key)) == false) = true := by simp
  have e3 : ((q.mode != q.mode) == false) = true := by simp
  have e4 : ((q.within_ != q.within_) == false) = true := by simp
  have e5 : ((((List.length q.where_ : Nat) : Int) != ((List.length q.where_ : Nat) : Int)) == false) = true := by simp
  have e6 : (((List.length q.items : Nat) : Int) != ((List.length q.items : Nat) : Int)) = false := by simp
  exact .succ (ref13_Same_eq · q q) (.bind (same hq.p) (.yes rfl (.yes e2 (.yes e3 (.yes e4 (.yes e5 (.no e6 J)))))))

theorem law (q : Qry) (from_ to_ : List Bytes) (hq : QrySmall q) (hf : from_.length ≤ 140737488351232) : ∃ k, law13_QueryRenames k q from_ to_ = some (true, ()) := by
  obtain ⟨b, hb⟩ := light hq
  obtain ⟨y, hy, h1, h2⟩ := qrenames from_ to_ hf hq
  refine Ans.ex (.succ (law13_QueryRenames_eq · q from_ to_) (.bind hb ?_))
  have ha : Ans (fun k => (law13_awake k).bind fun r1 => some (r1.1, ())) (true, ()) := .bind awake .const
  cases b with
  | false => exact ha
  | true => exact .bind h1 (.bind h2 (.bind (qsame hy) ha))
end Go.Ev.HpQR
