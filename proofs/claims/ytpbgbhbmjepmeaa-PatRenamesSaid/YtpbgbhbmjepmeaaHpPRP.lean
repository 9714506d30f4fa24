/-
  PatRenames, the plain law.
-/
import Derived.Test.YtpbgbhbmjepmeaaHpPR
import Derived.Test.YtpbgbhbmjepmeaaHpLib
set_option linter.unusedVariables false
set_option linter.unusedSimpArgs false
namespace Go.Ev.HpPR

theorem awake_eq (k : Nat) : law12_awake (k + 10) = some (true, ()) := by kernel_rfl
theorem awake : Ans (fun k => law12_awake k) (true, ()) := .plus 10 awake_eq

/-- The name that an index picks. -/
def pickN (v : Bytes) (to_ : List Bytes) (r : Int) : Bytes := if 0 ≤ r ∧ r < (to_.length : Int) then (to_[r.toNat]?).getD v else v
theorem index_name (from_ to_ : List Bytes) (v : Bytes) (hf : from_.length ≤ 140737488351232) : ∀ (d i : Nat), i + d = from_.length → ∃ r : Int, Ans2 (fun k n => slices_Index_string_l0 k n from_ v (i : Int)) (r, ()) ∧ Ans2 (fun k n => ref09_Name_l0 k n v from_ to_ (i : Int)) (pickN v to_ r, ()) := by
  intro d
  induction d with
  | zero =>
    intro i hi
    refine ⟨-1, .succ (fun k n => ?_) .const, .succ (fun k n => ?_) .const⟩
    · rw [slices_Index_string_l0_eq, nlt_nat (by omega)]; rfl
    · rw [ref09_Name_l0_eq, nlt_nat (by omega)]; simp [pickN]
  | succ d ih =>
    intro i hi
    have hlt : i < from_.length := by omega
    by_cases e : v = from_[i]
    · refine ⟨i, .succ (fun k n => ?_) .const, .succ (fun k n => ?_) .const⟩
      · rw [slices_Index_string_l0_eq, lt_nat hlt, idx_nat hlt]; simp [e]
      · rw [ref09_Name_l0_eq, lt_nat hlt, idx_nat hlt]
        by_cases ht : i < to_.length
        · simp [← e, pickN, ht, idx_nat ht]
        · simp [← e, pickN, ht]
    · obtain ⟨r, h1, h2⟩ := ih (i + 1) (by omega)
      refine ⟨r, .succ (fun k n => ?_) h1, .succ (fun k n => ?_) h2⟩
      · rw [slices_Index_string_l0_eq, lt_nat hlt, idx_nat hlt, wrap_succ hlt (by omega)]
        simp only [cond_true, Option.bind_some, beq_false_of_ne e, cond_false]
      · rw [ref09_Name_l0_eq, lt_nat hlt, idx_nat hlt, wrap_succ hlt (by omega)]
        simp only [cond_true, Option.bind_some, beq_false_of_ne (Ne.symm e), cond_false]
def leaf (p : Pat) : Bool := p.k == 1 || p.k == 5 || p.k == 6
theorem isLeaf (x : Int) : Ans (fun k => pat_isLeaf k x) (x == 1 || x == 5 || x == 6, ()) :=
  .succ (fun k => by
    rw [pat_isLeaf_eq]
    cases x == 1 <;> cases x == 5 <;> rfl) .const

theorem rename_loop (p : Pat) (from_ to_ : List Bytes) (v : Bytes) (hp : p.l.length * 80 ≤ reachBytes) (qs : List Pat) (hq : qs.length = p.l.length)
    (h : ∀ (i : Nat) (h : i < p.l.length) (h' : i < qs.length), Ans (fun k => pat_Rename k p.l[i] from_ to_) (qs[i], ())) :
    ∀ (d i : Nat) (acc : List Pat), i + d = p.l.length → acc.length = i → Ans2 (fun k n => pat_Rename_l0 k n p from_ to_ v (i : Int) acc) ((⟨p.k, v, p.type, p.lo, p.hi, acc ++ qs.drop i⟩ : Pat), ()) := by
  intro d
  have hlen := reach_small hp (by omega)
  induction d with
  | zero =>
    intro i acc hi ha
    refine .succ (fun k n => ?_) .const
    rw [pat_Rename_l0_eq, nlt_nat (by omega), List.drop_eq_nil_of_le (by omega)]; simp
  | succ d ih =>
    intro i acc hi ha
    have hlt : i < p.l.length := by omega
    have hlt' : i < qs.length := by omega
    have hb := h i hlt hlt'
    have e : acc ++ qs.drop i = (acc ++ [qs[i]]) ++ qs.drop (i + 1) := by rw [List.drop_eq_getElem_cons hlt']; simp
    rw [e]
    refine .succ (g := fun k n => (pat_Rename k p.l[i] from_ to_).bind fun r => bif decide ((List.length acc + 1) * 80 ≤ 140737488355328) then pat_Rename_l0 k n p from_ to_ v ((i + 1 : Nat) : Int) (acc ++ [r.1]) else none) (fun k n => ?_) (.bind hb ?_)
    · rw [pat_Rename_l0_eq, lt_nat hlt, idx_nat hlt, wrap_succ hlt (by omega)]
      simp only [cond_true, Option.bind_some, pat_eta, List.length_singleton]
    · have : decide ((List.length acc + 1) * 80 ≤ 140737488355328) = true := by
        simp only [reachBytes] at hp
        simp; omega
      simp only [this, cond_true]
      exact ih (i + 1) (acc ++ [qs[i]]) (by omega) (by simp [ha])
theorem ref_loop (p : Pat) (from_ to_ : List Bytes) (v : Bytes) (hp : p.l.length * 80 ≤ reachBytes) (qs : List Pat) (hq : qs.length = p.l.length)
    (h : ∀ (i : Nat) (h : i < p.l.length) (h' : i < qs.length), Ans (fun k => ref12_Rename k p.l[i] from_ to_) (qs[i], ())) :
    ∀ (d i : Nat) (acc : List Pat), i + d = p.l.length → acc.length = i → Ans2 (fun k n => ref12_Rename_l1 k n p from_ to_ v (i : Int) acc) ((⟨p.k, v, p.type, p.lo, p.hi, acc ++ qs.drop i⟩ : Pat), ()) := by
  intro d
  have hlen := reach_small hp (by omega)
  induction d with
  | zero =>
    intro i acc hi ha
    refine .succ (fun k n => ?_) .const
    rw [ref12_Rename_l1_eq, nlt_nat (by omega), List.drop_eq_nil_of_le (by omega)]; simp
  | succ d ih =>
    intro i acc hi ha
    have hlt : i < p.l.length := by omega
    have hlt' : i < qs.length := by omega
    have hb := h i hlt hlt'
    have e : acc ++ qs.drop i = (acc ++ [qs[i]]) ++ qs.drop (i + 1) := by rw [List.drop_eq_getElem_cons hlt']; simp
    rw [e]
    refine .succ (g := fun k n => (ref12_Rename k p.l[i] from_ to_).bind fun r => bif decide ((List.length acc + 1) * 80 ≤ 140737488355328) then ref12_Rename_l1 k n p from_ to_ v ((i + 1 : Nat) : Int) (acc ++ [r.1]) else none) (fun k n => ?_) (.bind hb ?_)
    · rw [ref12_Rename_l1_eq, lt_nat hlt, idx_nat hlt, wrap_succ hlt (by omega)]
      simp only [cond_true, Option.bind_some, pat_eta, List.length_singleton]
    · have : decide ((List.length acc + 1) * 80 ≤ 140737488355328) = true := by
        simp only [reachBytes] at hp
        simp; omega
      simp only [this, cond_true]
      exact ih (i + 1) (acc ++ [qs[i]]) (by omega) (by simp [ha])
theorem ref_loop0 (p : Pat) (from_ to_ : List Bytes) (v : Bytes) (hp : p.l.length * 80 ≤ reachBytes) (qs : List Pat) (hq : qs.length = p.l.length)
    (h : ∀ (i : Nat) (h : i < p.l.length) (h' : i < qs.length), Ans (fun k => ref12_Rename k p.l[i] from_ to_) (qs[i], ())) :
    Ans2 (fun k n => ref12_Rename_l0 k n p from_ to_ v) ((⟨p.k, v, p.type, p.lo, p.hi, qs⟩ : Pat), ()) := by
  by_cases h0 : 0 < p.l.length
  · have hlt' : 0 < qs.length := by omega
    have hb := h 0 h0 hlt'
    refine .succ (g := fun k n => (ref12_Rename k p.l[0] from_ to_).bind fun r => ref12_Rename_l1 k n p from_ to_ v ((1 : Nat) : Int) [r.1]) (fun k n => ?_) (.bind hb ?_)
    · rw [ref12_Rename_l0_eq]
      have e1 : decide ((0 : Int) < ((List.length p.l : Nat) : Int)) = true := by simp; exact h0
      have e2 : idx p.l 0 = some p.l[0] := idx_nat (i := 0) h0
      rw [e1, e2]
      simp only [cond_true, Option.bind_some, pat_eta, List.length_singleton]
      rfl
    · have := ref_loop p from_ to_ v hp qs hq h (p.l.length - 1) 1 [qs[0]] (by omega) rfl
      have e : [qs[0]] ++ qs.drop 1 = qs := by
        conv => rhs; rw [← List.drop_zero (l := qs), List.drop_eq_getElem_cons hlt']
        rfl
      rw [e] at this
      exact this
  · have e0 : qs = [] := List.eq_nil_of_length_eq_zero (by omega)
    subst e0
    refine .succ (fun k n => ?_) .const
    rw [ref12_Rename_l0_eq]
    have e1 : decide ((0 : Int) < ((List.length p.l : Nat) : Int)) = false := decide_eq_false (by omega)
    rw [e1]; rfl
theorem renames (from_ to_ : List Bytes) (hf : from_.length ≤ 140737488351232) {p : Pat} (hp : PatSmall p) : ∃ q, PatSmall q ∧ Ans (fun k => pat_Rename k p from_ to_) (q, ()) ∧ Ans (fun k => ref12_Rename k p from_ to_) (q, ()) := by
  induction hp with
  | @mk p h hl ih =>
    obtain ⟨qs, hq, hqs⟩ := choose_all p.l ih
    obtain ⟨r, hr1, hr2⟩ := index_name from_ to_ p.var hf from_.length 0 (by omega)
    have hi : Ans (fun k => slices_Index_string k from_ p.var) (r, ()) := .succ (slices_Index_string_eq · from_ p.var) hr1.diag
    have hn : Ans (fun k => ref09_Name k p.var from_ to_) (pickN p.var to_ r, ()) := .succ (ref09_Name_eq · p.var from_ to_) hr2.diag
    have L1 : ∀ v, Ans (fun k => pat_Rename_j1 k p from_ to_ v) ((⟨p.k, v, p.type, p.lo, p.hi, qs⟩ : Pat), ()) := fun v => by
      have := rename_loop p from_ to_ v h qs hq (fun i h1 h2 => (hqs i h1 h2).2.1) p.l.length 0 [] (by omega) rfl
      exact .of (pat_Rename_j1_eq · p from_ to_ v) this.diag
    have L2 : ∀ v, Ans (fun k => ref12_Rename_j1 k p from_ to_ v) ((⟨p.k, v, p.type, p.lo, p.hi, qs⟩ : Pat), ()) := fun v =>
      .of (ref12_Rename_j1_eq · p from_ to_ v) (ref_loop0 p from_ to_ v h qs hq fun i h1 h2 => (hqs i h1 h2).2.2).diag
    have J2 : Ans (fun k => ref12_Rename_j0 k p from_ to_ false) ((⟨p.k, p.var, p.type, p.lo, p.hi, qs⟩ : Pat), ()) := .of (ref12_Rename_j0_eq · p from_ to_ false) (.no rfl (L2 p.var))
    have J1 : Ans (fun k => ref12_Rename_j0 k p from_ to_ true) ((⟨p.k, pickN p.var to_ r, p.type, p.lo, p.hi, qs⟩ : Pat), ()) := .of (ref12_Rename_j0_eq · p from_ to_ true) (.yes rfl (.bind hn (L2 _)))
    have I2 : Ans (fun k => pat_Rename_j0 k p from_ to_ (r, ()) false) ((⟨p.k, p.var, p.type, p.lo, p.hi, qs⟩ : Pat), ()) := .of (pat_Rename_j0_eq · p from_ to_ (r, ()) false) (.no rfl (L1 p.var))
    have small : ∀ v, PatSmall ⟨p.k, v, p.type, p.lo, p.hi, qs⟩ := fun v => .mk (by rw [hq]; exact h) fun d hd => by
      obtain ⟨i, hi, rfl⟩ := List.getElem_of_mem hd
      exact (hqs i (by rw [← hq]; exact hi) hi).1
    have A : ∀ (b : Bool) {res : Pat × Unit}, (p.k == 1 || p.k == 5 || p.k == 6) = b → Ans (fun k => bif b == true then (bif decide (r ≥ 0) == true then pat_Rename_j0 k p from_ to_ (r, ()) (decide (r < ((List.length to_ : Nat) : Int))) else pat_Rename_j0 k p from_ to_ (r, ()) false) else pat_Rename_j0 k p from_ to_ (r, ()) false) res → Ans (fun k => pat_Rename k p from_ to_) res := fun b res hb hA =>
      .succ (pat_Rename_eq · p from_ to_) (.bind hi (.bind (isLeaf p.k) (by rw [hb]; exact hA)))
    have B : ∀ {res : Pat × Unit}, Ans (fun k => bif (p.k == 1) == false then (bif (p.k == 5) == false then ref12_Rename_j0 k p from_ to_ (p.k == 6) else ref12_Rename_j0 k p from_ to_ true) else ref12_Rename_j0 k p from_ to_ true) res → Ans (fun k => ref12_Rename k p from_ to_) res := fun hB => .succ (ref12_Rename_eq · p from_ to_) hB
    by_cases hlf : (p.k == 1 || p.k == 5 || p.k == 6) = true
    · refine ⟨⟨p.k, pickN p.var to_ r, p.type, p.lo, p.hi, qs⟩, small _, A true hlf (.yes rfl ?_), B ?_⟩
      · by_cases h0 : 0 ≤ r
        · refine .yes (by rw [decide_eq_true h0]; rfl) ?_
          by_cases h1 : r < (to_.length : Int)
          · have e1 : idx to_ r = some (pickN p.var to_ r) := by
              have e3 : r.toNat < to_.length := by omega
              unfold idx pickN
              rw [decide_eq_true h0, cond_true, if_pos ⟨h0, h1⟩, List.getElem?_eq_getElem e3]
              rfl
            have e2 : decide (r < ((List.length to_ : Nat) : Int)) = true := decide_eq_true h1
            rw [e2]
            have e1' : idx to_ ((r, ()) : Int × Unit).1 = some (pickN p.var to_ r) := e1
            have K : ∀ k, pat_Rename_j0 k p from_ to_ (r, ()) true = pat_Rename_j1 k p from_ to_ (pickN p.var to_ r) := fun k => by
              rw [pat_Rename_j0_eq, e1', cond_true, Option.bind_some]
            exact .of K (L1 _)
          · have e1 : pickN p.var to_ r = p.var := if_neg fun h => h1 h.2
            have e2 : decide (r < ((List.length to_ : Nat) : Int)) = false := decide_eq_false h1
            rw [e1, e2]
            exact I2
        · have e1 : pickN p.var to_ r = p.var := if_neg fun h => h0 h.1
          rw [e1]
          exact .no (by rw [decide_eq_false h0]; rfl) I2
      · cases h1 : p.k == 1 with
        | true => exact .no rfl J1
        | false =>
          refine .yes rfl ?_
          cases h5 : p.k == 5 with
          | true => exact .no rfl J1
          | false =>
            refine .yes rfl ?_
            rw [h1, h5] at hlf
            have h6 : (p.k == 6) = true := by simpa using hlf
            rw [h6]
            exact J1
    · have hlf' : (p.k == 1 || p.k == 5 || p.k == 6) = false := by simpa using hlf
      refine ⟨⟨p.k, p.var, p.type, p.lo, p.hi, qs⟩, small _, A false hlf' (.no rfl I2), B ?_⟩
      have h1 : (p.k == 1) = false := by cases hh : p.k == 1 <;> simp_all
      have h5 : (p.k == 5) = false := by cases hh : p.k == 5 <;> simp_all
      have h6 : (p.k == 6) = false := by cases hh : p.k == 6 <;> simp_all
      rw [h1, h5, h6]
      exact .yes rfl (.yes rfl J2)

theorem same_loop (q : Pat) (hq : q.l.length * 80 ≤ reachBytes) (h : ∀ d ∈ q.l, Ans (fun k => ref12_Same k d d) (true, ())) : ∀ (d i : Nat), i + d = q.l.length → Ans2 (fun k n => ref12_Same_l0 k n q q (i : Int)) (true, ()) := by
  intro d
  have hlen := reach_small hq (by omega)
  induction d with
  | zero =>
    intro i hi
    refine .succ (fun k n => ?_) .const
    have hn : decide (((i : Nat) : Int) < ((List.length q.l : Nat) : Int)) = false := nlt_nat (by omega)
    rw [ref12_Same_l0_eq, hn, show (false == true) = false from rfl, cond_false]
  | succ d ih =>
    intro i hi
    have hlt : i < q.l.length := by omega
    refine .succ (g := fun k n => (ref12_Same k q.l[i] q.l[i]).bind fun r => bif !r.1 then some (false, ()) else ref12_Same_l0 k n q q ((i + 1 : Nat) : Int)) (fun k n => ?_) (.bind (h _ (List.getElem_mem _)) (ih (i + 1) (by omega)))
    rw [ref12_Same_l0_eq, lt_nat hlt, beq_self_eq_true, cond_true, cond_true, ref12_Same_j1_eq, idx_nat hlt, wrap_succ hlt (by omega), Option.bind_some, Option.bind_some]
theorem same {q : Pat} (hq : PatSmall q) : Ans (fun k => ref12_Same k q q) (true, ()) := by
  induction hq with
  | @mk q h hl ih =>
    refine .succ (g := fun k => ref12_Same_l0 k k q q ((0 : Nat) : Int)) (fun k => ?_) (same_loop q h ih q.l.length 0 (by omega)).diag
    rw [ref12_Same_eq, ref12_Same_j0_eq]
    have e1 : (q.k != q.k) = false := by simp
    have e2 : (!(q.var == q.var)) = false := by simp
    have e3 : (!(q.type == q.type)) = false := by simp
    have e4 : (q.lo != q.lo) = false := by simp
    have e5 : (q.hi != q.hi) = false := by simp
    have e6 : (((List.length q.l : Nat) : Int) != ((List.length q.l : Nat) : Int)) = false := by simp
    rw [e1, e2, e3, e4, e5, e6]
    rfl
theorem size_loop (q : Pat) (hq : q.l.length * 80 ≤ reachBytes) (h : ∀ d ∈ q.l, ∃ s, Ans (fun k => ref12_Size k d) (s, ())) : ∀ (d i : Nat) (acc : Int), i + d = q.l.length → ∃ s, Ans2 (fun k n => ref12_Size_l0 k n q acc (i : Int)) (s, ()) := by
  intro d
  have hlen := reach_small hq (by omega)
  induction d with
  | zero =>
    intro i acc hi
    refine ⟨acc, .succ (fun k n => ?_) .const⟩
    rw [ref12_Size_l0_eq, nlt_nat (by omega), cond_false]
  | succ d ih =>
    intro i acc hi
    have hlt : i < q.l.length := by omega
    obtain ⟨s, hs⟩ := h _ (List.getElem_mem hlt)
    obtain ⟨s', hs'⟩ := ih (i + 1) (IntKind.i64.wrap (acc + s)) (by omega)
    refine ⟨s', .succ (g := fun k n => (ref12_Size k q.l[i]).bind fun r => ref12_Size_l0 k n q (IntKind.i64.wrap (acc + r.1)) ((i + 1 : Nat) : Int)) (fun k n => ?_) (.bind hs hs')⟩
    rw [ref12_Size_l0_eq, lt_nat hlt, idx_nat hlt, wrap_succ hlt (by omega), cond_true, Option.bind_some]
theorem size {q : Pat} (hq : PatSmall q) : ∃ s, Ans (fun k => ref12_Size k q) (s, ()) := by
  induction hq with
  | @mk q h hl ih =>
    obtain ⟨s, hs⟩ := size_loop q h ih q.l.length 0 1 (by omega)
    exact ⟨s, .succ (ref12_Size_eq · q) hs.diag⟩

theorem law (p : Pat) (from_ to_ : List Bytes) (hp : PatSmall p) (hf : from_.length ≤ 140737488351232) : ∃ k, law12_PatRenames k p from_ to_ = some (true, ()) := by
  obtain ⟨s, hs⟩ := size hp
  obtain ⟨q, hq, h1, h2⟩ := renames from_ to_ hf hp
  refine Ans.ex (.succ (law12_PatRenames_eq · p from_ to_) (.bind (.succ (law12_light_eq · p) (.bind hs .const)) ?_))
  have ha : Ans (fun k => (law12_awake k).bind fun r1 => some (r1.1, ())) (true, ()) := .bind awake .const
  cases decide (s ≤ 300) with
  | false => exact ha
  | true => exact .bind h1 (.bind h2 (.bind (same hq) ha))
end Go.Ev.HpPR
