/-
  BindCounts: the plain law.
-/
import Derived.Test.YtpkhhaolkfaoaaaHpBWL
set_option linter.unusedVariables false
set_option linter.unusedSectionVars false
set_option linter.unusedSimpArgs false
namespace Go.Ev.HpBW
open Go
theorem prod_le {c : Nat} (hc : 1 ≤ c) : ∀ (ps : List (List Int)), (∀ p ∈ ps, p.length ≤ c) → prodL ps ≤ c ^ ps.length
  | [], _ => by simp [prodL]
  | p :: ps, h => by
    have := prod_le hc ps fun q hq => h q (by simp [hq])
    rw [prodL, List.length_cons, Nat.pow_succ, Nat.mul_comm]
    exact Nat.mul_le_mul this (h p (by simp))
section
variable {l : List Bnd} (hl : l.length ≤ 40) {vars : List Bytes} (hv : vars.length ≤ 3)
include hl
theorem lens40 : ∀ p ∈ vars.map (ofL l), p.length ≤ 40 := by
  intro p hp
  obtain ⟨v, _, rfl⟩ := List.mem_map.1 hp
  have := ofL_len l v
  omega
theorem allOf : ∀ vs : List Bytes, ∃ N, ∀ k, N ≤ k → ∀ v ∈ vs, bind_Of k l v = some (ofL l v, ())
  | [] => ⟨0, fun _ _ _ h => by cases h⟩
  | v :: vs => by
    obtain ⟨N, hN⟩ := allOf vs
    obtain ⟨M, hM⟩ := Of (l := l) (by omega) v
    refine ⟨max N M, fun k hk x hx => ?_⟩
    rcases List.mem_cons.1 hx with rfl | hx
    · exact hM k (by omega)
    · exact hN k (by omega) x hx
include hv
theorem prod40 (i : Nat) : prodL ((vars.take i).map (ofL l)) ≤ 64000 := by
  have h1 := prod_le (c := 40) (by omega) ((vars.take i).map (ofL l)) (fun p hp => by
    obtain ⟨v, _, rfl⟩ := List.mem_map.1 hp
    have := ofL_len l v
    omega)
  have h2 : ((vars.take i).map (ofL l)).length ≤ 3 := by simp; omega
  exact Nat.le_trans h1 (Nat.pow_le_pow_right (by omega) h2)
omit hv
theorem is1 {r : List (List Int) × Bool × Unit} {i kk : Nat} (hi : i < r.1.length) (hk : kk < (r.1[i]).length) (p : List Int) (hp : p.length ≤ 40) (hkk : kk < 300) (k r0 r1 : Nat) : ∀ (e m n : Nat) (is : Bool), m + e = p.length →
    law27_BindCounts_l3 k r0 r1 (n + e + 1) l vars r ((i : Nat) : Int) (p, ()) ((kk : Nat) : Int) is ((m : Nat) : Int) = bif (is || (p.drop m).any fun x => x == (r.1[i])[kk]) then law27_BindCounts_l2 k r0 r1 l vars r ((i : Nat) : Int) ((kk + 1 : Nat) : Int) else some (false, ()) := by
  intro e
  induction e with
  | zero =>
    intro m n is hm
    rw [law27_BindCounts_l3_eq, nlt_nat (by show p.length ≤ m; omega), cond_false, List.drop_of_length_le (by omega), List.any_nil, Bool.or_false, wrap_succ (m := 300) hkk (by omega)]
    cases is with
    | true => rw [show (!true) = false from rfl, cond_false, cond_true]
    | false => rw [show (!false) = true from rfl, cond_true, cond_false]
  | succ e ih =>
    intro m n is hm
    have h : m < p.length := by omega
    rw [show n + (e + 1) + 1 = (n + e + 1) + 1 from rfl, law27_BindCounts_l3_eq, lt_nat (show m < (p, ()).1.length from h), cond_true, List.drop_eq_getElem_cons h, List.any_cons]
    cases is with
    | true => rw [show (true == false) = false from rfl, cond_false, wrap_succ h (by omega), ih (m + 1) n true (by omega), Bool.true_or, Bool.true_or]
    | false => rw [show (false == false) = true from rfl, cond_true, idx_nat (show m < (p, ()).1.length from h), Option.bind_some, idx_nat hi, Option.bind_some, idx_nat hk, Option.bind_some, wrap_succ h (by omega), ih (m + 1) n _ (by omega), Bool.false_or]
include hv
theorem each1 {r : List (List Int) × Bool × Unit} (hr : r.1.length ≤ 4096) {i : Nat} (hi : i < r.1.length) (hw : (r.1[i]).length = vars.length) (hm : ∀ (k : Nat) (h : k < (r.1[i]).length) (h' : k < vars.length), (r.1[i])[k] ∈ ofL l vars[k]) (k r0 : Nat) (hk : 50 ≤ k) (hOf : ∀ v ∈ vars, bind_Of k l v = some (ofL l v, ())) : ∀ (e kk n : Nat), kk + e = vars.length →
    law27_BindCounts_l2 k r0 (n + e + 1) l vars r ((i : Nat) : Int) ((kk : Nat) : Int) = law27_BindCounts_l1 k r0 l vars r ((i + 1 : Nat) : Int) := by
  intro e
  induction e with
  | zero =>
    intro kk n hkk
    rw [law27_BindCounts_l2_eq, nlt_nat (by omega), show (false == true) = false from rfl, cond_false, wrap_succ hi (by omega)]
  | succ e ih =>
    intro kk n hkk
    have h : kk < vars.length := by omega
    have h' : kk < (r.1[i]).length := by omega
    have hol := ofL_len l vars[kk]
    obtain ⟨q, hq⟩ : ∃ q, k = q + (ofL l vars[kk]).length + 1 := ⟨k - (ofL l vars[kk]).length - 1, by omega⟩
    rw [show n + (e + 1) + 1 = (n + e + 1) + 1 from rfl, law27_BindCounts_l2_eq, lt_nat h, show (true == true) = true from rfl, cond_true, idx_nat hi, Option.bind_some, lt_nat h', cond_true, law27_BindCounts_j2_eq, idx_nat h, Option.bind_some, hOf _ (List.getElem_mem h), Option.bind_some]
    have := is1 (l := l) (vars := vars) (r := r) hl hi h' (ofL l vars[kk]) (by omega) (by omega) k r0 (n + e + 1) (ofL l vars[kk]).length 0 q false (by omega)
    rw [← hq] at this
    refine this.trans ?_
    have hany : ((ofL l vars[kk]).drop 0).any (fun x => x == (r.1[i])[kk]) = true := List.any_eq_true.2 ⟨_, hm kk h' h, by simp⟩
    rw [hany, Bool.or_true, cond_true, ih (kk + 1) n (by omega)]
theorem rows1 {r : List (List Int) × Bool × Unit} (hr : r.1.length ≤ 4096) (hw : ∀ w ∈ r.1, w.length = vars.length ∧ ∀ (k : Nat) (h : k < w.length) (h' : k < vars.length), w[k] ∈ ofL l vars[k]) : ∀ d i, i + d = r.1.length →
    Ans2 (fun k n => law27_BindCounts_l1 k n l vars r ((i : Nat) : Int)) (true, ()) := by
  intro d
  induction d with
  | zero => exact fun i hi => .succ (fun k n => law27_BindCounts_l1_eq k n l vars r _) (.no (nlt_nat (by omega)) awakes.two)
  | succ d ih =>
    intro i hi
    have h : i < r.1.length := by omega
    obtain ⟨h1, h2⟩ := hw _ (List.getElem_mem h)
    obtain ⟨N, hN⟩ := ih (i + 1) (by omega)
    obtain ⟨M, hM⟩ := allOf hl vars
    refine .succ (fun k n => law27_BindCounts_l1_eq k n l vars r _) (.yes (lt_nat h) (.bind (idxA h) (.no (by rw [h1]; simp) ⟨max (max N M) 50, fun k n hk hn => ?_⟩)))
    obtain ⟨q, hq⟩ : ∃ q, k = q + vars.length + 1 := ⟨k - vars.length - 1, by omega⟩
    have := each1 hl hv hr h h1 h2 k n (by omega) (hM k (by omega)) vars.length 0 q (by omega)
    rw [← hq] at this
    exact this.trans (hN k n (by omega) (by omega))
theorem fin (hP : True) : Ans (fun k => (bind_Ways k l vars).bind fun r => (bif decide ((((prodL (vars.map (ofL l)) : Nat) : Int)) > 4096) then (bif (r.2.1 == true) then (bif ((((List.length r.1 : Nat) : Int) == 0) == true) then ((law27_awake k).bind fun r10 => some (r10.1, ())) else some (false, ())) else some (false, ())) else (bif ((((List.length r.1 : Nat) : Int) != ((prodL (vars.map (ofL l)) : Nat) : Int)) == false) then (bif (!(r.2.1 == decide (((prodL (vars.map (ofL l)) : Nat) : Int) > 0))) then some (false, ()) else law27_BindCounts_j1 k l vars r) else some (false, ())))) (true, ()) := by
  refine .bind (Ways (by omega) (by omega)) ?_
  have hlast : ∀ r : List (List Int) × Bool × Unit, r.1.length ≤ 4096 → (∀ w ∈ r.1, w.length = vars.length ∧ ∀ (k : Nat) (h : k < w.length) (h' : k < vars.length), w[k] ∈ ofL l vars[k]) → Ans (fun k => law27_BindCounts_j1 k l vars r) (true, ()) :=
    fun r h1 h2 => .of (fun k => law27_BindCounts_j1_eq k l vars r) (rows1 hl hv h1 h2 r.1.length 0 (by omega)).diag
  unfold waysR
  cases hs : someNone (vars.map (ofL l)) with
  | true =>
    rw [prod_zero hs]
    exact .no rfl (.yes rfl (.no rfl (hlast _ (by simp) (by simp))))
  | false =>
    have hpos := prod_pos hs
    cases hd : decide (4096 < prodL (vars.map (ofL l))) with
    | true =>
      have hd' := of_decide_eq_true hd
      exact .yes (decide_eq_true (by omega)) (.yes rfl (.yes rfl awakes))
    | false =>
      have hd' := of_decide_eq_false hd
      refine .no (decide_eq_false (by omega)) (.yes ?_ (.no ?_ (hlast _ ?_ fun w hw => ?_)))
      · show ((((ways (vars.map (ofL l))).length : Nat) : Int) != _) == false
        rw [ways_len]; simp
      · show (!(true == decide (((prodL (vars.map (ofL l)) : Nat) : Int) > 0))) = false
        rw [decide_eq_true (by omega)]; rfl
      · show (ways (vars.map (ofL l))).length ≤ 4096
        rw [ways_len]; omega
      · obtain ⟨h1, h2⟩ := ways_mem _ w hw
        refine ⟨by rw [h1]; simp, fun k h h' => ?_⟩
        have := h2 k h (by simpa using h')
        simpa using this
theorem count1 : ∀ d i, i + d = vars.length → Ans2 (fun k n => law27_BindCounts_l0 k n l vars ((prodL ((vars.take i).map (ofL l)) : Nat) : Int) ((i : Nat) : Int)) (true, ()) := by
  intro d
  induction d with
  | zero =>
    intro i hi
    rw [List.take_of_length_le (by omega)]
    exact .succ (fun k n => law27_BindCounts_l0_eq k n l vars _ _) (.no (nlt_nat (by omega)) (fin hl hv trivial).two)
  | succ d ih =>
    intro i hi
    have h : i < vars.length := by omega
    have ih := ih (i + 1) (by omega)
    have hb := prod40 hl hv (i + 1)
    rw [List.take_succ_eq_append_getElem h, List.map_append, List.map_cons, List.map_nil, prodL_append] at ih hb
    refine .succ (fun k n => law27_BindCounts_l0_eq k n l vars _ _) (.yes (lt_nat h) (.bind (idxA h) (.bind (Of (by omega) _) (.of (fun k n => ?_) ih))))
    have e : ((prodL ((vars.take i).map (ofL l)) : Nat) : Int) * (((ofL l vars[i]).length : Nat) : Int) = ((prodL ((vars.take i).map (ofL l)) * (ofL l vars[i]).length : Nat) : Int) := by push_cast; rfl
    rw [wrap_succ h (by omega), e, wrap_id (by omega) (by omega)]
end
theorem lawCounts (l : List Bnd) (vars : List Bytes) : ∃ k, law27_BindCounts k l vars = some (true, ()) := by
  refine Ans.ex (.succ (fun k => law27_BindCounts_eq k l vars) ?_)
  by_cases h : l.length ≤ 40
  · refine .yes (by simp; omega) ?_
    by_cases hv : vars.length ≤ 3
    · exact .no (decide_eq_false (by omega)) (.of (fun k => law27_BindCounts_j0_eq k l vars) (count1 h hv vars.length 0 (by omega)).diag)
    · exact .yes (decide_eq_true (by omega)) awakes
  · exact .no (by simp; omega) awakes
end Go.Ev.HpBW
