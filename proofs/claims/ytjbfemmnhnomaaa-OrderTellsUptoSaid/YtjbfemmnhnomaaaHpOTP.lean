/-
  OrderTells, the plain law.
-/
import Derived.Test.YtjbfemmnhnomaaaHpOT
import Derived.Test.YtjbfemmnhnomaaaHpOrdP
set_option linter.unusedVariables false
namespace Go.Ev.HpOT
theorem awake_eq (k : Nat) : law15_awake (k + 14) = some (true, ()) := by kernel_rfl
theorem awake : Ans (fun k => law15_awake k) (true, ()) := .plus 14 awake_eq
theorem nan_int (x : Int) : Ans (fun k => cmp_isNaN_int k x) (false, ()) := .succ (fun k => by rw [cmp_isNaN_int_eq]; simp) .const
theorem nan_str (x : Bytes) : Ans (fun k => cmp_isNaN_string k x) (false, ()) := .succ (fun k => by rw [cmp_isNaN_string_eq]; simp) .const
theorem comp_int (x y : Int) : Ans (fun k => cmp_Compare_int k x y) (cmpI x y, ()) := by
  refine .succ (cmp_Compare_int_eq · x y) (.bind (nan_int x) (.bind (nan_int y) (.no rfl (.no rfl ?_))))
  by_cases h : x < y
  · rw [show cmpI x y = -1 from if_pos h]; exact .yes (decide_eq_true h) .const
  · by_cases h' : x > y
    · rw [show cmpI x y = 1 from (if_neg h).trans (if_pos h')]; exact .no (decide_eq_false h) (.yes (decide_eq_true h') .const)
    · rw [show cmpI x y = 0 from (if_neg h).trans (if_neg h')]; exact .no (decide_eq_false h) (.no (decide_eq_false h') .const)
theorem comp_str (x y : Bytes) : Ans (fun k => cmp_Compare_string k x y) (cmpS x y, ()) := by
  refine .succ (cmp_Compare_string_eq · x y) (.bind (nan_str x) (.bind (nan_str y) (.no rfl (.no rfl ?_))))
  by_cases h : Op.bytesLess x y = true
  · rw [show cmpS x y = -1 from if_pos h]; exact .yes h .const
  · have hf : Op.bytesLess x y = false := by simpa using h
    by_cases h' : x = y
    · rw [show cmpS x y = 0 from (if_neg h).trans (if_pos h')]; exact .no hf (.no (by simp [h']) .const)
    · rw [show cmpS x y = 1 from (if_neg h).trans (if_neg h')]; exact .no hf (.yes (by simp [hf, h']) .const)
theorem number (x y : Int) : Ans (fun k => ref09_Number k x y) (cmpI x y, ()) := by
  refine .succ (ref09_Number_eq · x y) ?_
  by_cases h : x = y
  · rw [(cmpI_zero x y).2 h]; exact .yes (by simp [h]) .const
  · refine .no (by simp [h]) ?_
    by_cases h' : x < y
    · rw [show cmpI x y = -1 from if_pos h']; exact .yes (decide_eq_true h') .const
    · rw [show cmpI x y = 1 by unfold cmpI; rw [if_neg h', if_pos (by omega)]]; exact .no (decide_eq_false h') .const
theorem text (x y : Bytes) : Ans (fun k => ref15_text k x y) (cmpS x y, ()) := by
  refine .succ (ref15_text_eq · x y) ?_
  by_cases h : x = y
  · rw [(cmpS_zero x y).2 h]; exact .yes (by simp [h]) .const
  · refine .no (by simp [h]) ?_
    by_cases h' : Op.bytesLess x y = true
    · rw [show cmpS x y = -1 from if_pos h']; exact .yes h' .const
    · rw [show cmpS x y = 1 by unfold cmpS; rw [if_neg h', if_neg h]]; exact .no (by simpa using h') .const
def orL : List Int → Int
  | [] => 0
  | x :: l => orElse x (orL l)
theorem or_loop (vals : List Int) (hv : vals.length ≤ 140737488351232) : ∀ (d i : Nat), i + d = vals.length → Ans2 (fun k n => cmp_Or_int_l0 k n vals (i : Int)) (orL (vals.drop i), ()) := by
  intro d
  induction d with
  | zero =>
    intro i hi
    rw [List.drop_eq_nil_of_le (by omega)]
    exact .succ (fun k n => by rw [cmp_Or_int_l0_eq, nlt_nat (by omega), cond_false]; rfl) .const
  | succ d ih =>
    intro i hi
    have hlt : i < vals.length := by omega
    rw [List.drop_eq_getElem_cons hlt]
    refine .succ (g := fun k n => bif vals[i] != 0 then some (vals[i], ()) else cmp_Or_int_l0 k n vals ((i + 1 : Nat) : Int)) (fun k n => by rw [cmp_Or_int_l0_eq, lt_nat hlt, idx_nat hlt, wrap_succ hlt (by omega), cond_true, Option.bind_some]) ?_
    by_cases h : vals[i] = 0
    · rw [show orL (vals[i] :: vals.drop (i + 1)) = orL (vals.drop (i + 1)) by simp [orL, orElse, h]]
      exact .no (by simp [h]) (ih (i + 1) (by omega))
    · rw [show orL (vals[i] :: vals.drop (i + 1)) = vals[i] by simp [orL, orElse, h]]
      exact .yes (by simp [h]) .const
theorem nodeP_orL (a b : Pat) : nodeP a b = orL [cmpI a.k b.k, cmpS a.type b.type, cmpI a.lo b.lo, cmpI a.hi b.hi, cmpI (a.l.length : Int) (b.l.length : Int)] := by
  have : ∀ x, orElse x 0 = x := fun x => by unfold orElse; split <;> omega
  simp only [nodeP, orL, this]
theorem node (a b : Pat) : Ans (fun k => order_node k a b) (nodeP a b, ()) := by
  rw [nodeP_orL]
  have L := (or_loop [cmpI a.k b.k, cmpS a.type b.type, cmpI a.lo b.lo, cmpI a.hi b.hi, cmpI (a.l.length : Int) (b.l.length : Int)] (by simp) 5 0 (by rfl)).diag
  exact .succ (order_node_eq · a b) (.bind (comp_int _ _) (.bind (comp_str _ _) (.bind (comp_int _ _) (.bind (comp_int _ _) (.bind (comp_int _ _) (.bind (.succ (cmp_Or_int_eq · _) L) .const))))))
theorem ord_loop (a b : Pat) (ha : a.l.length * 80 ≤ reachBytes) (hl : a.l.length = b.l.length) (h : ∀ d ∈ a.l, ∀ e ∈ b.l, Ans (fun k => order_Form k d e) (ordP d e, ())) : ∀ (d i : Nat), i + d = a.l.length → Ans2 (fun k n => order_Form_l0 k n a b (i : Int)) (ordPL (a.l.drop i) (b.l.drop i), ()) := by
  intro d
  have hlen := reach_small ha (by omega)
  induction d with
  | zero =>
    intro i hi
    rw [List.drop_eq_nil_of_le (by omega)]
    exact .succ (fun k n => by rw [order_Form_l0_eq, nlt_nat (by omega), cond_false, ordPL]) .const
  | succ d ih =>
    intro i hi
    have hlt : i < a.l.length := by omega
    have hlt' : i < b.l.length := by omega
    rw [List.drop_eq_getElem_cons hlt, List.drop_eq_getElem_cons hlt', ordPL]
    refine .succ (g := fun k n => (order_Form k a.l[i] b.l[i]).bind fun r => bif r.1 != 0 then some (r.1, ()) else order_Form_l0 k n a b ((i + 1 : Nat) : Int)) (fun k n => by rw [order_Form_l0_eq, lt_nat hlt, idx_nat hlt, idx_nat hlt', wrap_succ hlt (by omega), cond_true, Option.bind_some, Option.bind_some]) (.bind (h _ (List.getElem_mem _) _ (List.getElem_mem _)) ?_)
    by_cases h0 : ordP a.l[i] b.l[i] = 0
    · rw [show orElse (ordP a.l[i] b.l[i]) (ordPL (a.l.drop (i + 1)) (b.l.drop (i + 1))) = ordPL (a.l.drop (i + 1)) (b.l.drop (i + 1)) by simp [orElse, h0]]
      exact .no (by simp [h0]) (ih (i + 1) (by omega))
    · rw [show orElse (ordP a.l[i] b.l[i]) (ordPL (a.l.drop (i + 1)) (b.l.drop (i + 1))) = ordP a.l[i] b.l[i] by simp [orElse, h0]]
      exact .yes (by simp [h0]) .const
theorem ord {a : Pat} (ha : PatSmall a) : ∀ b : Pat, Ans (fun k => order_Form k a b) (ordP a b, ()) := by
  induction ha with
  | @mk a h hl ih =>
    intro b
    rw [ordP_eq]
    refine .succ (order_Form_eq · a b) (.bind (node a b) ?_)
    by_cases h0 : nodeP a b = 0
    · rw [show orElse (nodeP a b) (ordPL a.l b.l) = ordPL a.l b.l by simp [orElse, h0]]
      exact .no (by simp [h0]) (ord_loop a b h (nodeP_len h0) (fun d hd e _ => ih d hd e) a.l.length 0 (by omega)).diag
    · rw [show orElse (nodeP a b) (ordPL a.l b.l) = nodeP a b by simp [orElse, h0]]
      exact .yes (by simp [h0]) .const
theorem vars (p : Pat) (hp : psize p ≤ 1048576) : Ans (fun k => order_vars k p) (varsP p, ()) := vars_ans order_vars_eq order_vars_l0_eq _ p (Nat.le_refl _) hp
theorem rvars (p : Pat) (hp : psize p ≤ 1048576) : Ans (fun k => ref15_vars k p) (varsP p, ()) := vars_ans ref15_vars_eq ref15_vars_l0_eq _ p (Nat.le_refl _) hp
theorem comps_loop (a b : List Bytes) (ha : a.length ≤ 1048576) (hl : a.length = b.length) : ∀ (d i : Nat), i + d = a.length → Ans2 (fun k n => slices_Compare_string_l0 k n a b (i : Int)) (ordS (a.drop i) (b.drop i), ()) := by
  intro d
  induction d with
  | zero =>
    intro i hi
    rw [List.drop_eq_nil_of_le (by omega)]
    exact .succ (fun k n => by rw [slices_Compare_string_l0_eq, nlt_nat (by omega), cond_false, decide_eq_false (by omega), cond_false, ordS]) .const
  | succ d ih =>
    intro i hi
    have hlt : i < a.length := by omega
    have hlt' : i < b.length := by omega
    rw [List.drop_eq_getElem_cons hlt, List.drop_eq_getElem_cons hlt', ordS]
    refine .succ (g := fun k n => (cmp_Compare_string k a[i] b[i]).bind fun r => bif r.1 != 0 then some (r.1, ()) else slices_Compare_string_l0 k n a b ((i + 1 : Nat) : Int)) (fun k n => by rw [slices_Compare_string_l0_eq, lt_nat hlt, idx_nat hlt, cond_true, Option.bind_some, decide_eq_false (by omega), cond_false, idx_nat hlt', wrap_succ hlt (by omega), Option.bind_some]) (.bind (comp_str _ _) ?_)
    by_cases h0 : cmpS a[i] b[i] = 0
    · rw [show orElse (cmpS a[i] b[i]) (ordS (a.drop (i + 1)) (b.drop (i + 1))) = ordS (a.drop (i + 1)) (b.drop (i + 1)) by simp [orElse, h0]]
      exact .no (by simp [h0]) (ih (i + 1) (by omega))
    · rw [show orElse (cmpS a[i] b[i]) (ordS (a.drop (i + 1)) (b.drop (i + 1))) = cmpS a[i] b[i] by simp [orElse, h0]]
      exact .yes (by simp [h0]) .const
theorem whole (a b : Pat) (ha : psize a ≤ 1048576) (hb : psize b ≤ 1048576) : Ans (fun k => order_Whole k a b) (ordW a b, ()) := by
  refine .succ (order_Whole_eq · a b) (.bind (ord (small_of_size _ a (Nat.le_refl _) ha) b) ?_)
  unfold ordW
  by_cases h0 : ordP a b = 0
  · rw [show orElse (ordP a b) (ordS (varsP a) (varsP b)) = ordS (varsP a) (varsP b) by simp [orElse, h0]]
    exact .no (by simp [h0]) (.bind (vars a ha) (.bind (vars b hb) (.bind (.succ (slices_Compare_string_eq · _ _) (comps_loop (varsP a) (varsP b) (by rw [varsP_len]; exact ha) (varsP_len_of h0) (varsP a).length 0 (by omega)).diag) .const)))
  · rw [show orElse (ordP a b) (ordS (varsP a) (varsP b)) = ordP a b by simp [orElse, h0]]
    exact .yes (by simp [h0]) .const
theorem rform_l1 (a b : Pat) (ha : a.l.length * 80 ≤ reachBytes) (h : ∀ d ∈ a.l, ∀ e ∈ b.l, Ans (fun k => ref15_Form k d e) (ordP d e, ())) : ∀ (d i : Nat), i + d = a.l.length → Ans2 (fun k n => ref15_Form_l1 k n a b (i : Int)) (ordPL (a.l.drop i) (b.l.drop i), ()) := by
  intro d
  have hlen := reach_small ha (by omega)
  induction d with
  | zero =>
    intro i hi
    rw [List.drop_eq_nil_of_le (by omega)]
    exact .succ (fun k n => by rw [ref15_Form_l1_eq, nlt_nat (by omega), ordPL]; rfl) .const
  | succ d ih =>
    intro i hi
    have hlt : i < a.l.length := by omega
    rw [List.drop_eq_getElem_cons hlt]
    by_cases hlt' : i < b.l.length
    · rw [List.drop_eq_getElem_cons hlt', ordPL]
      refine .succ (g := fun k n => (ref15_Form k a.l[i] b.l[i]).bind fun r => bif r.1 != 0 then some (r.1, ()) else ref15_Form_l1 k n a b ((i + 1 : Nat) : Int)) (fun k n => by rw [ref15_Form_l1_eq, lt_nat hlt, lt_nat hlt', beq_self_eq_true, cond_true, cond_true, ref15_Form_j0_eq, idx_nat hlt, idx_nat hlt', wrap_succ hlt (by omega), Option.bind_some, Option.bind_some]) (.bind (h _ (List.getElem_mem _) _ (List.getElem_mem _)) ?_)
      by_cases h0 : ordP a.l[i] b.l[i] = 0
      · rw [show orElse (ordP a.l[i] b.l[i]) (ordPL (a.l.drop (i + 1)) (b.l.drop (i + 1))) = ordPL (a.l.drop (i + 1)) (b.l.drop (i + 1)) by simp [orElse, h0]]
        exact .no (by simp [h0]) (ih (i + 1) (by omega))
      · rw [show orElse (ordP a.l[i] b.l[i]) (ordPL (a.l.drop (i + 1)) (b.l.drop (i + 1))) = ordP a.l[i] b.l[i] by simp [orElse, h0]]
        exact .yes (by simp [h0]) .const
    · have e0 : b.l.drop i = [] := List.drop_eq_nil_of_le (by omega)
      rw [e0, ordPL]
      exact .succ (fun k n => by rw [ref15_Form_l1_eq, lt_nat hlt, nlt_nat (by omega), beq_self_eq_true, cond_true, cond_false]) .const
theorem rform_l0 (a b : Pat) (r r1 r2 r3 r4 : Int × Unit) (res : Int) (hl : Ans (fun k => ref15_Form_l1 k k a b 0) (res, ())) : ∀ (d i : Nat), i + d = 5 → Ans2 (fun k n => ref15_Form_l0 k n a b r r1 r2 r3 r4 (i : Int)) (orElse (orL (([r.1, r1.1, r2.1, r3.1, r4.1] : List Int).drop i)) res, ()) := by
  intro d
  induction d with
  | zero =>
    intro i hi
    obtain rfl : i = 5 := by omega
    exact .succ (g := fun k n => ref15_Form_l1 k k a b 0) (fun k n => by rw [ref15_Form_l0_eq]; rfl) hl.two
  | succ d ih =>
    intro i hi
    have hlt : i < ([r.1, r1.1, r2.1, r3.1, r4.1] : List Int).length := by simp; omega
    have L := ih (i + 1) (by omega)
    have hd := lt_nat hlt
    have e5 : ((([r.1, r1.1, r2.1, r3.1, r4.1] : List Int).length : Nat) : Int) = 5 := rfl
    rw [e5] at hd
    rw [List.drop_eq_getElem_cons hlt]
    generalize hv : ([r.1, r1.1, r2.1, r3.1, r4.1] : List Int) = vals at *
    refine .succ (g := fun k n => bif vals[i] != 0 then some (vals[i], ()) else ref15_Form_l0 k n a b r r1 r2 r3 r4 ((i + 1 : Nat) : Int)) (fun k n => ?_) ?_
    · rw [ref15_Form_l0_eq, hv, hd, cond_true, idx_nat hlt, Option.bind_some, Int.toNat_natCast, List.getElem?_eq_getElem hlt, Option.bind_some, Option.bind_some, Option.bind_some, wrap_succ (m := 5) (by omega) (by omega)]
    · by_cases h : vals[i] = 0
      · rw [show orElse (orL (vals[i] :: vals.drop (i + 1))) res = orElse (orL (vals.drop (i + 1))) res by simp [orL, orElse, h]]
        exact .no (by simp [h]) L
      · rw [show orElse (orL (vals[i] :: vals.drop (i + 1))) res = vals[i] by simp [orL, orElse, h]]
        exact .yes (by simp [h]) .const
theorem rform {a : Pat} (ha : PatSmall a) : ∀ b : Pat, Ans (fun k => ref15_Form k a b) (ordP a b, ()) := by
  induction ha with
  | @mk a h hl ih =>
    intro b
    rw [ordP_eq, nodeP_orL]
    have L := (rform_l1 a b h (fun d hd e _ => ih d hd e) a.l.length 0 (by omega)).diag
    exact .succ (ref15_Form_eq · a b) (.bind (number _ _) (.bind (text _ _) (.bind (number _ _) (.bind (number _ _) (.bind (number _ _) (rform_l0 a b _ _ _ _ _ _ L 5 0 (by omega)).diag)))))
theorem rcomps_loop (p q : Pat) (a b : List Bytes) (ha : a.length ≤ 1048576) (hl : a.length = b.length) : ∀ (d i : Nat), i + d = a.length → Ans2 (fun k n => ref15_Whole_l0 k n p q (a, ()) (b, ()) (i : Int)) (ordS (a.drop i) (b.drop i), ()) := by
  intro d
  induction d with
  | zero =>
    intro i hi
    rw [List.drop_eq_nil_of_le (by omega)]
    exact .succ (fun k n => by rw [ref15_Whole_l0_eq, nlt_nat (by show a.length ≤ i; omega), ordS]; rfl) .const
  | succ d ih =>
    intro i hi
    have hlt : i < a.length := by omega
    have hlt' : i < b.length := by omega
    rw [List.drop_eq_getElem_cons hlt, List.drop_eq_getElem_cons hlt', ordS]
    refine .succ (g := fun k n => (ref15_text k a[i] b[i]).bind fun r => bif r.1 != 0 then some (r.1, ()) else ref15_Whole_l0 k n p q (a, ()) (b, ()) ((i + 1 : Nat) : Int)) (fun k n => by rw [ref15_Whole_l0_eq, lt_nat hlt, lt_nat hlt', beq_self_eq_true, cond_true, cond_true, ref15_Whole_j0_eq, idx_nat hlt, idx_nat hlt', wrap_succ hlt (by omega), Option.bind_some, Option.bind_some]) (.bind (text _ _) ?_)
    by_cases h0 : cmpS a[i] b[i] = 0
    · rw [show orElse (cmpS a[i] b[i]) (ordS (a.drop (i + 1)) (b.drop (i + 1))) = ordS (a.drop (i + 1)) (b.drop (i + 1)) by simp [orElse, h0]]
      exact .no (by simp [h0]) (ih (i + 1) (by omega))
    · rw [show orElse (cmpS a[i] b[i]) (ordS (a.drop (i + 1)) (b.drop (i + 1))) = cmpS a[i] b[i] by simp [orElse, h0]]
      exact .yes (by simp [h0]) .const
theorem rwhole (a b : Pat) (ha : psize a ≤ 1048576) (hb : psize b ≤ 1048576) : Ans (fun k => ref15_Whole k a b) (ordW a b, ()) := by
  refine .succ (ref15_Whole_eq · a b) (.bind (rform (small_of_size _ a (Nat.le_refl _) ha) b) ?_)
  unfold ordW
  by_cases h0 : ordP a b = 0
  · rw [show orElse (ordP a b) (ordS (varsP a) (varsP b)) = ordS (varsP a) (varsP b) by simp [orElse, h0]]
    exact .no (by simp [h0]) (.bind (rvars a ha) (.bind (rvars b hb) (rcomps_loop a b (varsP a) (varsP b) (by rw [varsP_len]; exact ha) (varsP_len_of h0) (varsP a).length 0 (by omega)).diag))
  · rw [show orElse (ordP a b) (ordS (varsP a) (varsP b)) = ordP a b by simp [orElse, h0]]
    exact .yes (by simp [h0]) .const
theorem size_loop (q : Pat) (hq : q.l.length * 80 ≤ reachBytes) (h : ∀ d ∈ q.l, ∃ s, Ans (fun k => ref12_Size k d) (s, ())) : ∀ (d i : Nat) (acc : Int), i + d = q.l.length → ∃ s, Ans2 (fun k n => ref12_Size_l0 k n q acc (i : Int)) (s, ()) := by
  intro d
  have hlen := reach_small hq (by omega)
  induction d with
  | zero =>
    intro i acc hi
    refine ⟨acc, .succ (fun k n => ?_) .const⟩
    rw [ref12_Size_l0_eq, nlt_nat (by omega), cond_false]
  | succ d ih =>
    intro i acc hi
    have hlt : i < q.l.length := by omega
    obtain ⟨s, hs⟩ := h _ (List.getElem_mem hlt)
    obtain ⟨s', hs'⟩ := ih (i + 1) (IntKind.i64.wrap (acc + s)) (by omega)
    refine ⟨s', .succ (g := fun k n => (ref12_Size k q.l[i]).bind fun r => ref12_Size_l0 k n q (IntKind.i64.wrap (acc + r.1)) ((i + 1 : Nat) : Int)) (fun k n => ?_) (.bind hs hs')⟩
    rw [ref12_Size_l0_eq, lt_nat hlt, idx_nat hlt, wrap_succ hlt (by omega), cond_true, Option.bind_some]
theorem size {q : Pat} (hq : PatSmall q) : ∃ s, Ans (fun k => ref12_Size k q) (s, ()) := by
  induction hq with
  | @mk q h hl ih =>
    obtain ⟨s, hs⟩ := size_loop q h ih q.l.length 0 1 (by omega)
    exact ⟨s, .succ (ref12_Size_eq · q) hs.diag⟩
theorem light_loop (l : List Pat) (hl : l.length ≤ 1048576) (h : ∀ d ∈ l, PatSmall d) : ∀ (d i : Nat) (acc : Int), i + d = l.length → ∃ b, Ans2 (fun k n => law15_light_l0 k n l acc (i : Int)) (b, ()) := by
  intro d
  induction d with
  | zero =>
    intro i acc hi
    refine ⟨decide (acc ≤ 600), .succ (fun k n => ?_) .const⟩
    rw [law15_light_l0_eq, nlt_nat (by omega)]; rfl
  | succ d ih =>
    intro i acc hi
    have hlt : i < l.length := by omega
    by_cases h6 : acc ≤ 600
    · obtain ⟨s, hs⟩ := size (h _ (List.getElem_mem hlt))
      obtain ⟨s', hs'⟩ := ih (i + 1) (IntKind.i64.wrap (acc + s)) (by omega)
      refine ⟨s', .succ (g := fun k n => (ref12_Size k l[i]).bind fun r => law15_light_l0 k n l (IntKind.i64.wrap (acc + r.1)) ((i + 1 : Nat) : Int)) (fun k n => ?_) (.bind hs hs')⟩
      rw [law15_light_l0_eq, lt_nat hlt, beq_self_eq_true, cond_true, decide_eq_true h6, cond_true, law15_light_j0_eq, idx_nat hlt, wrap_succ hlt (by omega), Option.bind_some]
    · refine ⟨decide (acc ≤ 600), .succ (fun k n => ?_) .const⟩
      rw [law15_light_l0_eq, lt_nat hlt, beq_self_eq_true, cond_true, decide_eq_false h6, cond_false]
theorem light (l : List Pat) (hl : l.length ≤ 1048576) (h : ∀ d ∈ l, PatSmall d) : ∃ b, Ans (fun k => law15_light k l) (b, ()) := by
  obtain ⟨b, hb⟩ := light_loop l hl h l.length 0 0 (by omega)
  exact ⟨b, .succ (law15_light_eq · l) hb.diag⟩
theorem law (a b : Pat) (ha : psize a ≤ 1048576) (hb : psize b ≤ 1048576) : ∃ k, law15_OrderTells k a b = some (true, ()) := by
  have sa := small_of_size _ a (Nat.le_refl _) ha
  have sb := small_of_size _ b (Nat.le_refl _) hb
  obtain ⟨x, hx⟩ := light [a, b] (by simp) (by simp [sa, sb])
  have hw : Ans (fun k => (law15_awake k).bind fun r3 => some (r3.1, ())) (true, ()) := .bind awake .const
  refine Ans.ex (.succ (fun k => by rw [law15_OrderTells_eq, pat_eta, pat_eta]) (.bind hx ?_))
  cases x with
  | false => exact hw
  | true => exact .no rfl (.bind (ord sa b) (.bind (rform sa b) (.yes (by simp) (.bind (whole a b ha hb) (.bind (rwhole a b ha hb) (.yes (by simp) hw))))))
end Go.Ev.HpOT
