/-
  BindWays, BindCounts: the plain laws.
-/
import Derived.Test.YtpkhhaolkfaoaaaHpBWQ
set_option linter.unusedVariables false
set_option linter.unusedSectionVars false
set_option linter.unusedSimpArgs false
namespace Go.Ev.HpBW
open Go
theorem awake : Ans (fun k => law27_awake k) (true, ()) := .plus 10 fun k => by kernel_rfl
theorem awakes : Ans (fun k => (law27_awake k).bind fun r => some (r.1, ())) (true, ()) := .bind awake .const
theorem prod_take {ps : List (List Int)} (h : someNone ps = false) (i : Nat) : prodL (ps.take i) ≤ prodL ps := by
  have e : ∀ a b, prodL (a ++ b) = prodL a * prodL b := by
    intro a b
    induction a with
    | nil => simp [prodL]
    | cons x a ih => simp [prodL, ih, Nat.mul_assoc]
  have h1 := e (ps.take i) (ps.drop i)
  rw [List.take_append_drop] at h1
  have h2 : someNone (ps.drop i) = false := by
    cases hh : someNone (ps.drop i) with
    | false => rfl
    | true =>
      simp only [someNone, List.any_eq_true] at hh
      obtain ⟨p, hp, he⟩ := hh
      rw [some_mem (List.mem_of_mem_drop hp) he] at h
      cases h
  rw [h1]
  exact Nat.le_mul_of_pos_right _ (prod_pos h2)
section
variable {l : List Bnd} (hl : l.length ≤ 300) {vars : List Bytes} (hv : vars.length ≤ 12)
include hl
theorem lens : ∀ p ∈ vars.map (ofL l), p.length ≤ 300 := by
  intro p hp
  obtain ⟨v, _, rfl⟩ := List.mem_map.1 hp
  have := ofL_len l v
  omega
include hv
theorem Ways : Ans (fun k => bind_Ways k l vars) (waysR (vars.map (ofL l))) := by
  have hps : (vars.map (ofL l)).length ≤ 12 := by simpa using hv
  refine .succ (fun k => bind_Ways_eq k l vars) (.bind (.succ (fun k => bind_places_eq k l vars) (places1 hl vars hv vars.length 0 (by omega) rfl).diag) ?_)
  unfold waysR
  cases hs : someNone (vars.map (ofL l)) with
  | true => exact .no rfl (.of (fun k => bind_Ways_j0_eq k l vars _ _) (.yes rfl .const))
  | false =>
    refine .yes rfl (.of (fun k => bind_Ways_j0_eq k l vars _ _) ?_)
    cases hd : decide (4096 < prodL (vars.map (ofL l))) with
    | true =>
      have hd' := of_decide_eq_true hd
      exact .yes (decide_eq_true (by show ((min (prodL (vars.map (ofL l))) 4097 : Nat) : Int) > 4096; omega)) .const
    | false =>
      have hd' := of_decide_eq_false hd
      refine .no (decide_eq_false (by show ¬ ((min (prodL (vars.map (ofL l))) 4097 : Nat) : Int) > 4096; omega)) (.of (fun k => bind_Ways_j1_eq k l vars _) (.bind (.succ (fun k => bind_ways_eq k _) .const) ?_))
      obtain ⟨w', r, h1, h2, h3, h4⟩ := steps hps (lens hl) (vars.map (ofL l)).length 0 (by omega) (List.replicate (Int.toNat (((vars.map (ofL l)).length : Nat) : Int)) (0 : Int)) [] (by simp) (by rw [List.drop_zero, ways_len]; simp; omega)
      have e : (([] : List (List Int)) ++ (ways ((vars.map (ofL l)).drop 0)).map fun x => (List.replicate (Int.toNat (((vars.map (ofL l)).length : Nat) : Int)) (0 : Int)).take 0 ++ x) = ways (vars.map (ofL l)) := by simp
      rw [e] at h4
      have hc : ((decide (0 ≤ ((List.length (vars.map (ofL l)) : Nat) : Int)) && decide (((List.length (vars.map (ofL l)) : Nat) : Int) ≤ ((List.length (vars.map (ofL l)) : Nat) : Int))) && decide (((List.length (vars.map (ofL l)) : Nat) : Int) * 8 ≤ 140737488355328)) = true := by simp; omega
      rcases h4 with rfl | rfl
      · exact elimL1 (.succ (fun k => bind_ways_1_eq k _ _) (.yes hc (elimL1 h3 .const))) .const
      · exact elimR1 (.succ (fun k => bind_ways_1_eq k _ _) (.yes hc (elimR1 h3 .const))) .const
omit hv
theorem r3 {p : List Int} {i j : Nat} {out : List (List Int)} (hj : j < out.length) (ho : out.length ≤ 4096) (hoj : (out[j]).length ≤ 12) (hp : p.length ≤ 300) (k r0 r1 : Nat) : ∀ (e m n : Nat) (next : List (List Int)), m + e = p.length → next.length + e ≤ 1300000 →
    ref27_Ways_l3 k r0 r1 (n + e + 1) l vars (p, ()) ((i : Nat) : Int) ((j : Nat) : Int) ((m : Nat) : Int) out next = ref27_Ways_l2 k r0 r1 l vars (p, ()) ((i : Nat) : Int) ((j + 1 : Nat) : Int) out (next ++ (p.drop m).map fun a => out[j] ++ [a]) := by
  intro e
  induction e with
  | zero =>
    intro m n next hm hn
    rw [ref27_Ways_l3_eq, nlt_nat (by show p.length ≤ m; omega), cond_false, wrap_succ hj (by omega), List.drop_of_length_le (by omega), List.map_nil, List.append_nil]
  | succ e ih =>
    intro m n next hm hn
    have h : m < p.length := by omega
    rw [show n + (e + 1) + 1 = (n + e + 1) + 1 from rfl, ref27_Ways_l3_eq, lt_nat (show m < (p, ()).1.length from h), cond_true, idx_nat hj, Option.bind_some, show out[Int.toNat ((j : Nat) : Int)]? = some out[j] from List.getElem?_eq_getElem hj, Option.bind_some,
      decide_eq_true (by simp; omega), cond_true, idx_nat (show m < (p, ()).1.length from h), Option.bind_some, decide_eq_true (by simp; omega), cond_true, decide_eq_true (by simp; omega), cond_true, wrap_succ h (by omega), ih (m + 1) n _ (by omega) (by simp; omega), List.drop_eq_getElem_cons h]
    simp only [List.map_cons, List.append_assoc, List.cons_append, List.nil_append]
theorem r2 {p : List Int} {i : Nat} (hi : i < vars.length) (hv : vars.length ≤ 12) {out : List (List Int)} (ho : out.length ≤ 4096) (hoj : ∀ w ∈ out, w.length ≤ 12) (hp : p.length ≤ 300) (k r0 : Nat) (hk : 301 ≤ k) : ∀ (e j n : Nat) (next : List (List Int)), j + e = out.length → next.length + e * p.length ≤ 1300000 →
    ref27_Ways_l2 k r0 (n + e + 1) l vars (p, ()) ((i : Nat) : Int) ((j : Nat) : Int) out next = ref27_Ways_l1 k r0 l vars ((i + 1 : Nat) : Int) (next ++ (out.drop j).flatMap fun w => p.map fun a => w ++ [a]) := by
  intro e
  induction e with
  | zero =>
    intro j n next hm hn
    rw [ref27_Ways_l2_eq, nlt_nat (by omega), cond_false, wrap_succ hi (by omega), List.drop_of_length_le (by omega), List.flatMap_nil, List.append_nil]
  | succ e ih =>
    intro j n next hm hn
    have h : j < out.length := by omega
    have hmul : (e + 1) * p.length = e * p.length + p.length := by rw [Nat.succ_mul]
    obtain ⟨q, rfl⟩ : ∃ q, k = q + p.length + 1 := ⟨k - p.length - 1, by omega⟩
    rw [show n + (e + 1) + 1 = (n + e + 1) + 1 from rfl, ref27_Ways_l2_eq, lt_nat h, cond_true]
    have := r3 (l := l) (vars := vars) (i := i) hl h ho (hoj _ (List.getElem_mem h)) hp (q + p.length + 1) r0 (n + e + 1) p.length 0 q next (by omega) (by omega)
    refine this.trans ?_
    rw [ih (j + 1) n _ (by omega) (by simp; omega), List.drop_eq_getElem_cons h]
    simp only [List.flatMap_cons, List.append_assoc, List.drop_zero]
include hv
theorem ref1 (hs : someNone (vars.map (ofL l)) = false) (hP : prodL (vars.map (ofL l)) ≤ 4096) : ∀ d i, i + d = vars.length → (∀ w ∈ ((vars.map (ofL l)).take i).foldl grow [[]], w.length = i) →
    Ans2 (fun k n => ref27_Ways_l1 k n l vars ((i : Nat) : Int) (((vars.map (ofL l)).take i).foldl grow [[]])) (ways (vars.map (ofL l)), true, ()) := by
  intro d
  induction d with
  | zero =>
    intro i hi hw
    refine .succ (fun k n => ref27_Ways_l1_eq k n l vars _ _) (.no (nlt_nat (by omega)) ?_)
    rw [List.take_of_length_le (by simp; omega), foldl_ways]
    simp only [List.flatMap_cons, List.flatMap_nil, List.nil_append, List.map_id', List.append_nil]
    exact .const
  | succ d ih =>
    intro i hi hw
    have h : i < vars.length := by omega
    have e1 : ((vars.map (ofL l)).take (i + 1)).foldl grow [[]] = grow (((vars.map (ofL l)).take i).foldl grow [[]]) (ofL l vars[i]) := by
      rw [List.take_succ_eq_append_getElem (by simpa using h), List.foldl_append]
      simp
    have hlen : (((vars.map (ofL l)).take i).foldl grow [[]]).length ≤ 4096 := by
      rw [foldl_len]
      have := prod_take hs i
      simp; omega
    have ih := ih (i + 1) (by omega) (by
      rw [e1]
      intro w hx
      simp only [grow, List.mem_flatMap, List.mem_map] at hx
      obtain ⟨w0, h0, a, _, rfl⟩ := hx
      simp [hw w0 h0])
    rw [e1] at ih
    refine .succ (fun k n => ref27_Ways_l1_eq k n l vars _ _) (.yes (lt_nat h) (.bind (idxA h) (.bind (OfR hl _) ?_)))
    obtain ⟨N, hN⟩ := ih
    generalize ((vars.map (ofL l)).take i).foldl grow [[]] = out at *
    have hol := ofL_len l vars[i]
    refine ⟨max N 4400, fun k n hk hn => ?_⟩
    obtain ⟨q, hq⟩ : ∃ q, k = q + out.length + 1 := ⟨k - out.length - 1, by omega⟩
    have hm : out.length * (ofL l vars[i]).length ≤ 4096 * 300 := Nat.mul_le_mul hlen (by omega)
    have := r2 (l := l) (vars := vars) (p := ofL l vars[i]) hl h hv hlen (fun w hx => by rw [hw w hx]; omega) (by omega) k n (by omega) out.length 0 q [] (by omega) (by simp; omega)
    show ref27_Ways_l2 k n k l vars (ofL l vars[i], ()) _ _ out [] = _
    rw [show ref27_Ways_l2 k n k l vars (ofL l vars[i], ()) ((i : Nat) : Int) 0 out [] = ref27_Ways_l2 k n (q + out.length + 1) l vars (ofL l vars[i], ()) ((i : Nat) : Int) ((0 : Nat) : Int) out [] by rw [← hq]; rfl, this]
    exact hN k n (by omega) (by omega)
theorem WaysR : Ans (fun k => ref27_Ways k l vars) (waysR (vars.map (ofL l))) :=
  .succ (fun k => ref27_Ways_eq k l vars) (refW1 hl vars hv (res := waysR (vars.map (ofL l))) (fun hP hs => (ref1 hl hv hs hP vars.length 0 (by omega) (by simp)).diag) vars.length 0 (by omega) rfl).diag
end
/-! ### BindWays -/
theorem same1 (a : List Int) (ha : a.length ≤ 300) : ∀ d i, i + d = a.length → Ans2 (fun k n => law27_numbers_l0 k n a a ((i : Nat) : Int)) (true, ()) := by
  intro d
  induction d with
  | zero => exact fun i hi => .succ (fun k n => law27_numbers_l0_eq k n a a _) (.no (nlt_nat (by omega)) .const)
  | succ d ih =>
    intro i hi
    have h : i < a.length := by omega
    exact .succ (fun k n => law27_numbers_l0_eq k n a a _) (.yes (lt_nat h) (.bind (idxA h) (.bind (idxA h) (.no (by simp) (.of (fun k n => by rw [wrap_succ h (by omega)]) (ih (i + 1) (by omega)))))))
theorem same (a : List Int) (ha : a.length ≤ 300) : Ans (fun k => law27_numbers k a a) (true, ()) :=
  .succ (fun k => law27_numbers_eq k a a) (.no (by simp) (same1 a ha a.length 0 (by omega)).diag)
theorem waysR_len {ps : List (List Int)} (h : ps.length ≤ 12) : ((waysR ps).1.length ≤ 4096) ∧ ∀ w ∈ (waysR ps).1, w.length ≤ 12 := by
  unfold waysR
  cases someNone ps with
  | true => simp
  | false =>
    cases hd : decide (4096 < prodL ps) with
    | true => simp
    | false =>
      have hd' := of_decide_eq_false hd
      simp only [cond_false]
      rw [ways_len]
      refine ⟨by omega, fun w hw => ?_⟩
      rw [(ways_mem ps w hw).1]; exact h
theorem all1 (l : List Bnd) (vars : List Bytes) (r : List (List Int) × Bool × Unit) (h1 : r.1.length ≤ 4096) (h2 : ∀ w ∈ r.1, w.length ≤ 12) : ∀ d i, i + d = r.1.length → Ans2 (fun k n => law27_BindWays_l0 k n l vars r r ((i : Nat) : Int)) (true, ()) := by
  intro d
  induction d with
  | zero => exact fun i hi => .succ (fun k n => law27_BindWays_l0_eq k n l vars r r _) (.no (nlt_nat (by omega)) awakes.two)
  | succ d ih =>
    intro i hi
    have h : i < r.1.length := by omega
    have := h2 _ (List.getElem_mem h)
    exact .succ (fun k n => law27_BindWays_l0_eq k n l vars r r _) (.yes (lt_nat h) (.bind (idxA h) (.bind (idxA h) (.bind (same _ (by omega)) (.no rfl (.of (fun k n => by rw [wrap_succ h (by omega)]) (ih (i + 1) (by omega))))))))
theorem lawWays (l : List Bnd) (vars : List Bytes) : ∃ k, law27_BindWays k l vars = some (true, ()) := by
  refine Ans.ex (.succ (fun k => law27_BindWays_eq k l vars) ?_)
  by_cases h : l.length ≤ 300
  · refine .yes (by simp; omega) ?_
    by_cases hv : vars.length ≤ 12
    · refine .no (decide_eq_false (by omega)) (.of (fun k => law27_BindWays_j0_eq k l vars) (.bind (Ways h hv) (.bind (WaysR h hv) (.yes (by simp) (.no (by simp) (.of (fun k => law27_BindWays_j1_eq k l vars _ _) ?_))))))
      obtain ⟨h1, h2⟩ := waysR_len (ps := vars.map (ofL l)) (by simpa using hv)
      exact (all1 l vars _ h1 h2 (waysR (vars.map (ofL l))).1.length 0 (by omega)).diag
    · exact .yes (decide_eq_true (by omega)) awakes
  · exact .no (by simp; omega) awakes
end Go.Ev.HpBW
