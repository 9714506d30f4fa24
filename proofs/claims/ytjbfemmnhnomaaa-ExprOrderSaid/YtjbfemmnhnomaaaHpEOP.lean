/-
  ExprOrder, the plain law.
-/
import Derived.Test.YtjbfemmnhnomaaaHpEO
import Derived.Test.YtjbfemmnhnomaaaHpOrd
set_option linter.unusedVariables false
namespace Go.Ev.HpEO
theorem awake_eq (k : Nat) : law09_awake (k + 14) = some (true, ()) := by kernel_rfl
theorem awake : Ans (fun k => law09_awake k) (true, ()) := .plus 14 awake_eq
theorem nan_int (x : Int) : Ans (fun k => cmp_isNaN_int k x) (false, ()) := .succ (fun k => by rw [cmp_isNaN_int_eq]; simp) .const
theorem nan_int64 (x : Int) : Ans (fun k => cmp_isNaN_int64 k x) (false, ()) := .succ (fun k => by rw [cmp_isNaN_int64_eq]; simp) .const
theorem nan_str (x : Bytes) : Ans (fun k => cmp_isNaN_string k x) (false, ()) := .succ (fun k => by rw [cmp_isNaN_string_eq]; simp) .const
theorem comp_int (x y : Int) : Ans (fun k => cmp_Compare_int k x y) (cmpI x y, ()) := by
  refine .succ (cmp_Compare_int_eq · x y) (.bind (nan_int x) (.bind (nan_int y) (.no rfl (.no rfl ?_))))
  by_cases h : x < y
  · rw [show cmpI x y = -1 from if_pos h]; exact .yes (decide_eq_true h) .const
  · by_cases h' : x > y
    · rw [show cmpI x y = 1 from (if_neg h).trans (if_pos h')]; exact .no (decide_eq_false h) (.yes (decide_eq_true h') .const)
    · rw [show cmpI x y = 0 from (if_neg h).trans (if_neg h')]; exact .no (decide_eq_false h) (.no (decide_eq_false h') .const)
theorem comp_int64 (x y : Int) : Ans (fun k => cmp_Compare_int64 k x y) (cmpI x y, ()) := by
  refine .succ (cmp_Compare_int64_eq · x y) (.bind (nan_int64 x) (.bind (nan_int64 y) (.no rfl (.no rfl ?_))))
  by_cases h : x < y
  · rw [show cmpI x y = -1 from if_pos h]; exact .yes (decide_eq_true h) .const
  · by_cases h' : x > y
    · rw [show cmpI x y = 1 from (if_neg h).trans (if_pos h')]; exact .no (decide_eq_false h) (.yes (decide_eq_true h') .const)
    · rw [show cmpI x y = 0 from (if_neg h).trans (if_neg h')]; exact .no (decide_eq_false h) (.no (decide_eq_false h') .const)
theorem comp_str (x y : Bytes) : Ans (fun k => cmp_Compare_string k x y) (cmpS x y, ()) := by
  refine .succ (cmp_Compare_string_eq · x y) (.bind (nan_str x) (.bind (nan_str y) (.no rfl (.no rfl ?_))))
  by_cases h : Op.bytesLess x y = true
  · rw [show cmpS x y = -1 from if_pos h]; exact .yes h .const
  · have hf : Op.bytesLess x y = false := by simpa using h
    by_cases h' : x = y
    · rw [show cmpS x y = 0 from (if_neg h).trans (if_pos h')]; exact .no hf (.no (by simp [h']) .const)
    · rw [show cmpS x y = 1 from (if_neg h).trans (if_neg h')]; exact .no hf (.yes (by simp [hf, h']) .const)
theorem comp_val (a b : Val) : Ans (fun k => value_Order k a b) (ordV a b, ()) := by
  refine .succ (value_Order_eq · a b) (.bind (comp_int a.k b.k) ?_)
  by_cases h : cmpI a.k b.k = 0
  · refine .no (by simp [h]) (.bind (comp_int64 a.n b.n) ?_)
    by_cases h' : cmpI a.n b.n = 0
    · rw [show ordV a b = cmpS a.s b.s by simp [ordV, orElse, h, h']]
      exact .no (by simp [h']) (.bind (comp_str a.s b.s) .const)
    · rw [show ordV a b = cmpI a.n b.n by simp [ordV, orElse, h, h']]
      exact .yes (by simp [h']) .const
  · rw [show ordV a b = cmpI a.k b.k by simp [ordV, orElse, h]]
    exact .yes (by simp [h]) .const
def orL : List Int → Int
  | [] => 0
  | x :: l => orElse x (orL l)
theorem or_loop (vals : List Int) (hv : vals.length ≤ 140737488351232) : ∀ (d i : Nat), i + d = vals.length → Ans2 (fun k n => cmp_Or_int_l0 k n vals (i : Int)) (orL (vals.drop i), ()) := by
  intro d
  induction d with
  | zero =>
    intro i hi
    rw [List.drop_eq_nil_of_le (by omega)]
    exact .succ (fun k n => by rw [cmp_Or_int_l0_eq, nlt_nat (by omega), cond_false]; rfl) .const
  | succ d ih =>
    intro i hi
    have hlt : i < vals.length := by omega
    rw [List.drop_eq_getElem_cons hlt]
    refine .succ (g := fun k n => bif vals[i] != 0 then some (vals[i], ()) else cmp_Or_int_l0 k n vals ((i + 1 : Nat) : Int)) (fun k n => by rw [cmp_Or_int_l0_eq, lt_nat hlt, idx_nat hlt, wrap_succ hlt (by omega), cond_true, Option.bind_some]) ?_
    by_cases h : vals[i] = 0
    · rw [show orL (vals[i] :: vals.drop (i + 1)) = orL (vals.drop (i + 1)) by simp [orL, orElse, h]]
      exact .no (by simp [h]) (ih (i + 1) (by omega))
    · rw [show orL (vals[i] :: vals.drop (i + 1)) = vals[i] by simp [orL, orElse, h]]
      exact .yes (by simp [h]) .const
theorem node (a b : Exp) : Ans (fun k => expr_node k a b) (nodeE a b, ()) := by
  have e : nodeE a b = orL [cmpI a.k b.k, ordV a.v b.v, cmpS a.var b.var, cmpS a.field b.field, cmpI (a.l.length : Int) (b.l.length : Int)] := by
    have : ∀ x, orElse x 0 = x := fun x => by unfold orElse; split <;> omega
    simp only [nodeE, orL, this]
  rw [e]
  have L := (or_loop [cmpI a.k b.k, ordV a.v b.v, cmpS a.var b.var, cmpS a.field b.field, cmpI (a.l.length : Int) (b.l.length : Int)] (by simp) 5 0 (by rfl)).diag
  exact .succ (expr_node_eq · a b) (.bind (comp_int _ _) (.bind (comp_val _ _) (.bind (comp_str _ _) (.bind (comp_str _ _) (.bind (comp_int _ _) (.bind (.succ (cmp_Or_int_eq · _) L) .const))))))
theorem ord_loop (a b : Exp) (ha : a.l.length * 96 ≤ reachBytes) (hl : a.l.length = b.l.length) (h : ∀ d ∈ a.l, ∀ e ∈ b.l, Ans (fun k => expr_Order k d e) (ordE d e, ())) : ∀ (d i : Nat), i + d = a.l.length → Ans2 (fun k n => expr_Order_l0 k n a b (i : Int)) (ordL (a.l.drop i) (b.l.drop i), ()) := by
  intro d
  have hlen := reach_small ha (by omega)
  induction d with
  | zero =>
    intro i hi
    rw [List.drop_eq_nil_of_le (by omega)]
    exact .succ (fun k n => by rw [expr_Order_l0_eq, nlt_nat (by omega), cond_false, ordL]) .const
  | succ d ih =>
    intro i hi
    have hlt : i < a.l.length := by omega
    have hlt' : i < b.l.length := by omega
    rw [List.drop_eq_getElem_cons hlt, List.drop_eq_getElem_cons hlt', ordL]
    refine .succ (g := fun k n => (expr_Order k a.l[i] b.l[i]).bind fun r => bif r.1 != 0 then some (r.1, ()) else expr_Order_l0 k n a b ((i + 1 : Nat) : Int)) (fun k n => by rw [expr_Order_l0_eq, lt_nat hlt, idx_nat hlt, idx_nat hlt', wrap_succ hlt (by omega), cond_true, Option.bind_some, Option.bind_some]) (.bind (h _ (List.getElem_mem _) _ (List.getElem_mem _)) ?_)
    by_cases h0 : ordE a.l[i] b.l[i] = 0
    · rw [show orElse (ordE a.l[i] b.l[i]) (ordL (a.l.drop (i + 1)) (b.l.drop (i + 1))) = ordL (a.l.drop (i + 1)) (b.l.drop (i + 1)) by simp [orElse, h0]]
      exact .no (by simp [h0]) (ih (i + 1) (by omega))
    · rw [show orElse (ordE a.l[i] b.l[i]) (ordL (a.l.drop (i + 1)) (b.l.drop (i + 1))) = ordE a.l[i] b.l[i] by simp [orElse, h0]]
      exact .yes (by simp [h0]) .const
theorem ord {a : Exp} (ha : ExpSmall a) : ∀ b : Exp, Ans (fun k => expr_Order k a b) (ordE a b, ()) := by
  induction ha with
  | @mk a h hl ih =>
    intro b
    rw [ordE_eq]
    refine .succ (expr_Order_eq · a b) (.bind (node a b) ?_)
    by_cases h0 : nodeE a b = 0
    · rw [show orElse (nodeE a b) (ordL a.l b.l) = ordL a.l b.l by simp [orElse, h0]]
      exact .no (by simp [h0]) (ord_loop a b h (nodeE_len h0) (fun d hd e _ => ih d hd e) a.l.length 0 (by omega)).diag
    · rw [show orElse (nodeE a b) (ordL a.l b.l) = nodeE a b by simp [orElse, h0]]
      exact .yes (by simp [h0]) .const
theorem esize_loop (q : Exp) (hq : q.l.length * 96 ≤ reachBytes) (h : ∀ d ∈ q.l, ∃ s, Ans (fun k => ref09_Size k d) (s, ())) : ∀ (d i : Nat) (acc : Int), i + d = q.l.length → ∃ s, Ans2 (fun k n => ref09_Size_l0 k n q acc (i : Int)) (s, ()) := by
  intro d
  have hlen := reach_small hq (by omega)
  induction d with
  | zero =>
    intro i acc hi
    refine ⟨acc, .succ (fun k n => ?_) .const⟩
    rw [ref09_Size_l0_eq, nlt_nat (by omega), cond_false]
  | succ d ih =>
    intro i acc hi
    have hlt : i < q.l.length := by omega
    obtain ⟨s, hs⟩ := h _ (List.getElem_mem hlt)
    obtain ⟨s', hs'⟩ := ih (i + 1) (IntKind.i64.wrap (acc + s)) (by omega)
    refine ⟨s', .succ (g := fun k n => (ref09_Size k q.l[i]).bind fun r => ref09_Size_l0 k n q (IntKind.i64.wrap (acc + r.1)) ((i + 1 : Nat) : Int)) (fun k n => ?_) (.bind hs hs')⟩
    rw [ref09_Size_l0_eq, lt_nat hlt, idx_nat hlt, wrap_succ hlt (by omega), cond_true, Option.bind_some]
theorem esize {q : Exp} (hq : ExpSmall q) : ∃ s, Ans (fun k => ref09_Size k q) (s, ()) := by
  induction hq with
  | @mk q h hl ih =>
    obtain ⟨s, hs⟩ := esize_loop q h ih q.l.length 0 1 (by omega)
    exact ⟨s, .succ (ref09_Size_eq · q) hs.diag⟩
theorem light {x : Exp} (hx : ExpSmall x) : ∃ b, Ans (fun k => law09_light k x) (b, ()) := by
  obtain ⟨s, hs⟩ := esize hx
  exact ⟨_, .succ (law09_light_eq · x) (.bind hs .const)⟩
theorem law (x y z : Exp) (hx : ExpSmall x) (hy : ExpSmall y) (hz : ExpSmall z) : ∃ k, law09_ExprOrder k x y z = some (true, ()) := by
  obtain ⟨bx, hbx⟩ := light hx
  obtain ⟨by_, hby⟩ := light hy
  obtain ⟨bz, hbz⟩ := light hz
  have ha : Ans (fun k => (law09_awake k).bind fun r3 => some (r3.1, ())) (true, ()) := .bind awake .const
  refine Ans.ex (.succ (law09_ExprOrder_eq · x y z) (.bind hbx ?_))
  cases bx with
  | false => exact ha
  | true =>
    refine .yes rfl (.bind hby ?_)
    cases by_ with
    | false => exact ha
    | true =>
      refine .yes rfl (.bind hbz ?_)
      cases bz with
      | false => exact ha
      | true =>
        refine .no rfl (.of (law09_ExprOrder_j0_eq · x y z) (.bind (ord hx y) (.bind (ord hy z) (.bind (.succ (expr_Same_eq · x y) (.bind (ord hx y) .const)) (.yes (by simp) (.bind (ord hy x) (.yes ?_ ?_)))))))
        · have hr := ordE_range x y
          have : IntKind.i64.wrap (0 - ordE x y) = - ordE x y := by rw [wrap_id (by omega) (by omega)]; omega
          simp only [this, ordE_swap x y]
          simp
        · have fin : Ans (fun k => (expr_Order k x x).bind fun r4 => bif (r4.1 == 0) == true then (law09_awake k).bind fun r5 => some (r5.1, ()) else some (false, ())) (true, ()) := .bind (ord hx x) (.yes (by simp [ordE_refl]) ha)
          by_cases h1 : ordE x y > 0
          · exact .no (by simp [h1]) fin
          · refine .yes (by simp; omega) ?_
            by_cases h2 : ordE y z > 0
            · exact .no (by simp [h2]) fin
            · refine .yes (by simp; omega) (.bind (ord hx z) (.yes ?_ fin))
              have := (ordE_tri x y z (by omega) (by omega)).1
              simp [this]
end Go.Ev.HpEO
