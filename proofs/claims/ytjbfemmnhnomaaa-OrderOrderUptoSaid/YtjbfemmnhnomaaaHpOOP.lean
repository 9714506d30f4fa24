/-
  OrderOrder, the plain law.
-/
import Derived.Test.YtjbfemmnhnomaaaHpOO
import Derived.Test.YtjbfemmnhnomaaaHpOrdP
set_option linter.unusedVariables false
namespace Go.Ev.HpOO
theorem awake_eq (k : Nat) : law15_awake (k + 14) = some (true, ()) := by kernel_rfl
theorem awake : Ans (fun k => law15_awake k) (true, ()) := .plus 14 awake_eq
theorem nan_int (x : Int) : Ans (fun k => cmp_isNaN_int k x) (false, ()) := .succ (fun k => by rw [cmp_isNaN_int_eq]; simp) .const
theorem nan_str (x : Bytes) : Ans (fun k => cmp_isNaN_string k x) (false, ()) := .succ (fun k => by rw [cmp_isNaN_string_eq]; simp) .const
theorem comp_int (x y : Int) : Ans (fun k => cmp_Compare_int k x y) (cmpI x y, ()) := by
  refine .succ (cmp_Compare_int_eq · x y) (.bind (nan_int x) (.bind (nan_int y) (.no rfl (.no rfl ?_))))
  by_cases h : x < y
  · rw [show cmpI x y = -1 from if_pos h]; exact .yes (decide_eq_true h) .const
  · by_cases h' : x > y
    · rw [show cmpI x y = 1 from (if_neg h).trans (if_pos h')]; exact .no (decide_eq_false h) (.yes (decide_eq_true h') .const)
    · rw [show cmpI x y = 0 from (if_neg h).trans (if_neg h')]; exact .no (decide_eq_false h) (.no (decide_eq_false h') .const)
theorem comp_str (x y : Bytes) : Ans (fun k => cmp_Compare_string k x y) (cmpS x y, ()) := by
  refine .succ (cmp_Compare_string_eq · x y) (.bind (nan_str x) (.bind (nan_str y) (.no rfl (.no rfl ?_))))
  by_cases h : Op.bytesLess x y = true
  · rw [show cmpS x y = -1 from if_pos h]; exact .yes h .const
  · have hf : Op.bytesLess x y = false := by simpa using h
    by_cases h' : x = y
    · rw [show cmpS x y = 0 from (if_neg h).trans (if_pos h')]; exact .no hf (.no (by simp [h']) .const)
    · rw [show cmpS x y = 1 from (if_neg h).trans (if_neg h')]; exact .no hf (.yes (by simp [hf, h']) .const)
def orL : List Int → Int
  | [] => 0
  | x :: l => orElse x (orL l)
theorem or_loop (vals : List Int) (hv : vals.length ≤ 140737488351232) : ∀ (d i : Nat), i + d = vals.length → Ans2 (fun k n => cmp_Or_int_l0 k n vals (i : Int)) (orL (vals.drop i), ()) := by
  intro d
  induction d with
  | zero =>
    intro i hi
    rw [List.drop_eq_nil_of_le (by omega)]
    exact .succ (fun k n => by rw [cmp_Or_int_l0_eq, nlt_nat (by omega), cond_false]; rfl) .const
  | succ d ih =>
    intro i hi
    have hlt : i < vals.length := by omega
    rw [List.drop_eq_getElem_cons hlt]
    refine .succ (g := fun k n => bif vals[i] != 0 then some (vals[i], ()) else cmp_Or_int_l0 k n vals ((i + 1 : Nat) : Int)) (fun k n => by rw [cmp_Or_int_l0_eq, lt_nat hlt, idx_nat hlt, wrap_succ hlt (by omega), cond_true, Option.bind_some]) ?_
    by_cases h : vals[i] = 0
    · rw [show orL (vals[i] :: vals.drop (i + 1)) = orL (vals.drop (i + 1)) by simp [orL, orElse, h]]
      exact .no (by simp [h]) (ih (i + 1) (by omega))
    · rw [show orL (vals[i] :: vals.drop (i + 1)) = vals[i] by simp [orL, orElse, h]]
      exact .yes (by simp [h]) .const
theorem nodeP_orL (a b : Pat) : nodeP a b = orL [cmpI a.k b.k, cmpS a.type b.type, cmpI a.lo b.lo, cmpI a.hi b.hi, cmpI (a.l.length : Int) (b.l.length : Int)] := by
  have : ∀ x, orElse x 0 = x := fun x => by unfold orElse; split <;> omega
  simp only [nodeP, orL, this]
theorem node (a b : Pat) : Ans (fun k => order_node k a b) (nodeP a b, ()) := by
  rw [nodeP_orL]
  have L := (or_loop [cmpI a.k b.k, cmpS a.type b.type, cmpI a.lo b.lo, cmpI a.hi b.hi, cmpI (a.l.length : Int) (b.l.length : Int)] (by simp) 5 0 (by rfl)).diag
  exact .succ (order_node_eq · a b) (.bind (comp_int _ _) (.bind (comp_str _ _) (.bind (comp_int _ _) (.bind (comp_int _ _) (.bind (comp_int _ _) (.bind (.succ (cmp_Or_int_eq · _) L) .const))))))
theorem ord_loop (a b : Pat) (ha : a.l.length * 80 ≤ reachBytes) (hl : a.l.length = b.l.length) (h : ∀ d ∈ a.l, ∀ e ∈ b.l, Ans (fun k => order_Form k d e) (ordP d e, ())) : ∀ (d i : Nat), i + d = a.l.length → Ans2 (fun k n => order_Form_l0 k n a b (i : Int)) (ordPL (a.l.drop i) (b.l.drop i), ()) := by
  intro d
  have hlen := reach_small ha (by omega)
  induction d with
  | zero =>
    intro i hi
    rw [List.drop_eq_nil_of_le (by omega)]
    exact .succ (fun k n => by rw [order_Form_l0_eq, nlt_nat (by omega), cond_false, ordPL]) .const
  | succ d ih =>
    intro i hi
    have hlt : i < a.l.length := by omega
    have hlt' : i < b.l.length := by omega
    rw [List.drop_eq_getElem_cons hlt, List.drop_eq_getElem_cons hlt', ordPL]
    refine .succ (g := fun k n => (order_Form k a.l[i] b.l[i]).bind fun r => bif r.1 != 0 then some (r.1, ()) else order_Form_l0 k n a b ((i + 1 : Nat) : Int)) (fun k n => by rw [order_Form_l0_eq, lt_nat hlt, idx_nat hlt, idx_nat hlt', wrap_succ hlt (by omega), cond_true, Option.bind_some, Option.bind_some]) (.bind (h _ (List.getElem_mem _) _ (List.getElem_mem _)) ?_)
    by_cases h0 : ordP a.l[i] b.l[i] = 0
    · rw [show orElse (ordP a.l[i] b.l[i]) (ordPL (a.l.drop (i + 1)) (b.l.drop (i + 1))) = ordPL (a.l.drop (i + 1)) (b.l.drop (i + 1)) by simp [orElse, h0]]
      exact .no (by simp [h0]) (ih (i + 1) (by omega))
    · rw [show orElse (ordP a.l[i] b.l[i]) (ordPL (a.l.drop (i + 1)) (b.l.drop (i + 1))) = ordP a.l[i] b.l[i] by simp [orElse, h0]]
      exact .yes (by simp [h0]) .const
theorem ord {a : Pat} (ha : PatSmall a) : ∀ b : Pat, Ans (fun k => order_Form k a b) (ordP a b, ()) := by
  induction ha with
  | @mk a h hl ih =>
    intro b
    rw [ordP_eq]
    refine .succ (order_Form_eq · a b) (.bind (node a b) ?_)
    by_cases h0 : nodeP a b = 0
    · rw [show orElse (nodeP a b) (ordPL a.l b.l) = ordPL a.l b.l by simp [orElse, h0]]
      exact .no (by simp [h0]) (ord_loop a b h (nodeP_len h0) (fun d hd e _ => ih d hd e) a.l.length 0 (by omega)).diag
    · rw [show orElse (nodeP a b) (ordPL a.l b.l) = nodeP a b by simp [orElse, h0]]
      exact .yes (by simp [h0]) .const
theorem vars (p : Pat) (hp : psize p ≤ 1048576) : Ans (fun k => order_vars k p) (varsP p, ()) := vars_ans order_vars_eq order_vars_l0_eq _ p (Nat.le_refl _) hp
theorem comps_loop (a b : List Bytes) (ha : a.length ≤ 1048576) (hl : a.length = b.length) : ∀ (d i : Nat), i + d = a.length → Ans2 (fun k n => slices_Compare_string_l0 k n a b (i : Int)) (ordS (a.drop i) (b.drop i), ()) := by
  intro d
  induction d with
  | zero =>
    intro i hi
    rw [List.drop_eq_nil_of_le (by omega)]
    exact .succ (fun k n => by rw [slices_Compare_string_l0_eq, nlt_nat (by omega), cond_false, decide_eq_false (by omega), cond_false, ordS]) .const
  | succ d ih =>
    intro i hi
    have hlt : i < a.length := by omega
    have hlt' : i < b.length := by omega
    rw [List.drop_eq_getElem_cons hlt, List.drop_eq_getElem_cons hlt', ordS]
    refine .succ (g := fun k n => (cmp_Compare_string k a[i] b[i]).bind fun r => bif r.1 != 0 then some (r.1, ()) else slices_Compare_string_l0 k n a b ((i + 1 : Nat) : Int)) (fun k n => by rw [slices_Compare_string_l0_eq, lt_nat hlt, idx_nat hlt, cond_true, Option.bind_some, decide_eq_false (by omega), cond_false, idx_nat hlt', wrap_succ hlt (by omega), Option.bind_some]) (.bind (comp_str _ _) ?_)
    by_cases h0 : cmpS a[i] b[i] = 0
    · rw [show orElse (cmpS a[i] b[i]) (ordS (a.drop (i + 1)) (b.drop (i + 1))) = ordS (a.drop (i + 1)) (b.drop (i + 1)) by simp [orElse, h0]]
      exact .no (by simp [h0]) (ih (i + 1) (by omega))
    · rw [show orElse (cmpS a[i] b[i]) (ordS (a.drop (i + 1)) (b.drop (i + 1))) = cmpS a[i] b[i] by simp [orElse, h0]]
      exact .yes (by simp [h0]) .const
theorem whole (a b : Pat) (ha : psize a ≤ 1048576) (hb : psize b ≤ 1048576) : Ans (fun k => order_Whole k a b) (ordW a b, ()) := by
  refine .succ (order_Whole_eq · a b) (.bind (ord (small_of_size _ a (Nat.le_refl _) ha) b) ?_)
  unfold ordW
  by_cases h0 : ordP a b = 0
  · rw [show orElse (ordP a b) (ordS (varsP a) (varsP b)) = ordS (varsP a) (varsP b) by simp [orElse, h0]]
    exact .no (by simp [h0]) (.bind (vars a ha) (.bind (vars b hb) (.bind (.succ (slices_Compare_string_eq · _ _) (comps_loop (varsP a) (varsP b) (by rw [varsP_len]; exact ha) (varsP_len_of h0) (varsP a).length 0 (by omega)).diag) .const)))
  · rw [show orElse (ordP a b) (ordS (varsP a) (varsP b)) = ordP a b by simp [orElse, h0]]
    exact .yes (by simp [h0]) .const
theorem size_loop (q : Pat) (hq : q.l.length * 80 ≤ reachBytes) (h : ∀ d ∈ q.l, ∃ s, Ans (fun k => ref12_Size k d) (s, ())) : ∀ (d i : Nat) (acc : Int), i + d = q.l.length → ∃ s, Ans2 (fun k n => ref12_Size_l0 k n q acc (i : Int)) (s, ()) := by
  intro d
  have hlen := reach_small hq (by omega)
  induction d with
  | zero =>
    intro i acc hi
    refine ⟨acc, .succ (fun k n => ?_) .const⟩
    rw [ref12_Size_l0_eq, nlt_nat (by omega), cond_false]
  | succ d ih =>
    intro i acc hi
    have hlt : i < q.l.length := by omega
    obtain ⟨s, hs⟩ := h _ (List.getElem_mem hlt)
    obtain ⟨s', hs'⟩ := ih (i + 1) (IntKind.i64.wrap (acc + s)) (by omega)
    refine ⟨s', .succ (g := fun k n => (ref12_Size k q.l[i]).bind fun r => ref12_Size_l0 k n q (IntKind.i64.wrap (acc + r.1)) ((i + 1 : Nat) : Int)) (fun k n => ?_) (.bind hs hs')⟩
    rw [ref12_Size_l0_eq, lt_nat hlt, idx_nat hlt, wrap_succ hlt (by omega), cond_true, Option.bind_some]
theorem size {q : Pat} (hq : PatSmall q) : ∃ s, Ans (fun k => ref12_Size k q) (s, ()) := by
  induction hq with
  | @mk q h hl ih =>
    obtain ⟨s, hs⟩ := size_loop q h ih q.l.length 0 1 (by omega)
    exact ⟨s, .succ (ref12_Size_eq · q) hs.diag⟩
theorem light_loop (l : List Pat) (hl : l.length ≤ 1048576) (h : ∀ d ∈ l, PatSmall d) : ∀ (d i : Nat) (acc : Int), i + d = l.length → ∃ b, Ans2 (fun k n => law15_light_l0 k n l acc (i : Int)) (b, ()) := by
  intro d
  induction d with
  | zero =>
    intro i acc hi
    refine ⟨decide (acc ≤ 600), .succ (fun k n => ?_) .const⟩
    rw [law15_light_l0_eq, nlt_nat (by omega)]; rfl
  | succ d ih =>
    intro i acc hi
    have hlt : i < l.length := by omega
    by_cases h6 : acc ≤ 600
    · obtain ⟨s, hs⟩ := size (h _ (List.getElem_mem hlt))
      obtain ⟨s', hs'⟩ := ih (i + 1) (IntKind.i64.wrap (acc + s)) (by omega)
      refine ⟨s', .succ (g := fun k n => (ref12_Size k l[i]).bind fun r => law15_light_l0 k n l (IntKind.i64.wrap (acc + r.1)) ((i + 1 : Nat) : Int)) (fun k n => ?_) (.bind hs hs')⟩
      rw [law15_light_l0_eq, lt_nat hlt, beq_self_eq_true, cond_true, decide_eq_true h6, cond_true, law15_light_j0_eq, idx_nat hlt, wrap_succ hlt (by omega), Option.bind_some]
    · refine ⟨decide (acc ≤ 600), .succ (fun k n => ?_) .const⟩
      rw [law15_light_l0_eq, lt_nat hlt, beq_self_eq_true, cond_true, decide_eq_false h6, cond_false]
theorem light (l : List Pat) (hl : l.length ≤ 1048576) (h : ∀ d ∈ l, PatSmall d) : ∃ b, Ans (fun k => law15_light k l) (b, ()) := by
  obtain ⟨b, hb⟩ := light_loop l hl h l.length 0 0 (by omega)
  exact ⟨b, .succ (law15_light_eq · l) hb.diag⟩
theorem ref_loop (p : Pat) (from_ to_ : List Bytes) (v : Bytes) (hp : p.l.length * 80 ≤ reachBytes) (qs : List Pat) (hq : qs.length = p.l.length)
    (h : ∀ (i : Nat) (h : i < p.l.length) (h' : i < qs.length), Ans (fun k => ref12_Rename k p.l[i] from_ to_) (qs[i], ())) :
    ∀ (d i : Nat) (acc : List Pat), i + d = p.l.length → acc.length = i → Ans2 (fun k n => ref12_Rename_l1 k n p from_ to_ v (i : Int) acc) ((⟨p.k, v, p.type, p.lo, p.hi, acc ++ qs.drop i⟩ : Pat), ()) := by
  intro d
  have hlen := reach_small hp (by omega)
  induction d with
  | zero =>
    intro i acc hi ha
    refine .succ (fun k n => ?_) .const
    rw [ref12_Rename_l1_eq, nlt_nat (by omega), List.drop_eq_nil_of_le (by omega)]; simp
  | succ d ih =>
    intro i acc hi ha
    have hlt : i < p.l.length := by omega
    have hlt' : i < qs.length := by omega
    have hb := h i hlt hlt'
    have e : acc ++ qs.drop i = (acc ++ [qs[i]]) ++ qs.drop (i + 1) := by rw [List.drop_eq_getElem_cons hlt']; simp
    rw [e]
    refine .succ (g := fun k n => (ref12_Rename k p.l[i] from_ to_).bind fun r => bif decide ((List.length acc + 1) * 80 ≤ 140737488355328) then ref12_Rename_l1 k n p from_ to_ v ((i + 1 : Nat) : Int) (acc ++ [r.1]) else none) (fun k n => ?_) (.bind hb ?_)
    · rw [ref12_Rename_l1_eq, lt_nat hlt, idx_nat hlt, wrap_succ hlt (by omega)]
      simp only [cond_true, Option.bind_some, pat_eta, List.length_singleton]
    · have : decide ((List.length acc + 1) * 80 ≤ 140737488355328) = true := by
        simp only [reachBytes] at hp
        simp; omega
      simp only [this, cond_true]
      exact ih (i + 1) (acc ++ [qs[i]]) (by omega) (by simp [ha])
theorem ref_loop0 (p : Pat) (from_ to_ : List Bytes) (v : Bytes) (hp : p.l.length * 80 ≤ reachBytes) (qs : List Pat) (hq : qs.length = p.l.length)
    (h : ∀ (i : Nat) (h : i < p.l.length) (h' : i < qs.length), Ans (fun k => ref12_Rename k p.l[i] from_ to_) (qs[i], ())) :
    Ans2 (fun k n => ref12_Rename_l0 k n p from_ to_ v) ((⟨p.k, v, p.type, p.lo, p.hi, qs⟩ : Pat), ()) := by
  by_cases h0 : 0 < p.l.length
  · have hlt' : 0 < qs.length := by omega
    have hb := h 0 h0 hlt'
    refine .succ (g := fun k n => (ref12_Rename k p.l[0] from_ to_).bind fun r => ref12_Rename_l1 k n p from_ to_ v ((1 : Nat) : Int) [r.1]) (fun k n => ?_) (.bind hb ?_)
    · rw [ref12_Rename_l0_eq]
      have e1 : decide ((0 : Int) < ((List.length p.l : Nat) : Int)) = true := by simp; exact h0
      have e2 : idx p.l 0 = some p.l[0] := idx_nat (i := 0) h0
      rw [e1, e2]
      simp only [cond_true, Option.bind_some, pat_eta, List.length_singleton]
      rfl
    · have := ref_loop p from_ to_ v hp qs hq h (p.l.length - 1) 1 [qs[0]] (by omega) rfl
      have e : [qs[0]] ++ qs.drop 1 = qs := by
        conv => rhs; rw [← List.drop_zero (l := qs), List.drop_eq_getElem_cons hlt']
        rfl
      rw [e] at this
      exact this
  · have e0 : qs = [] := List.eq_nil_of_length_eq_zero (by omega)
    subst e0
    refine .succ (fun k n => ?_) .const
    rw [ref12_Rename_l0_eq]
    have e1 : decide ((0 : Int) < ((List.length p.l : Nat) : Int)) = false := decide_eq_false (by omega)
    rw [e1]; rfl
theorem name_loop (from_ to_ : List Bytes) (v : Bytes) (hf : from_.length ≤ 140737488351232) : ∀ (d i : Nat), i + d = from_.length → ∃ r : Bytes, Ans2 (fun k n => ref09_Name_l0 k n v from_ to_ (i : Int)) (r, ()) := by
  intro d
  induction d with
  | zero =>
    intro i hi
    exact ⟨v, .succ (fun k n => by rw [ref09_Name_l0_eq, nlt_nat (by omega)]; rfl) .const⟩
  | succ d ih =>
    intro i hi
    have hlt : i < from_.length := by omega
    by_cases e : from_[i] = v
    · have hb : (from_[i] == v) = true := by simp [e]
      by_cases ht : i < to_.length
      · exact ⟨to_[i], .succ (fun k n => by rw [ref09_Name_l0_eq, lt_nat hlt, idx_nat hlt, cond_true, Option.bind_some, hb, cond_true, lt_nat ht, cond_true, idx_nat ht, Option.bind_some]) .const⟩
      · exact ⟨v, .succ (fun k n => by rw [ref09_Name_l0_eq, lt_nat hlt, idx_nat hlt, cond_true, Option.bind_some, hb, cond_true, nlt_nat (by omega), cond_false]) .const⟩
    · obtain ⟨r, h⟩ := ih (i + 1) (by omega)
      exact ⟨r, .succ (fun k n => by rw [ref09_Name_l0_eq, lt_nat hlt, idx_nat hlt, wrap_succ hlt (by omega), cond_true, Option.bind_some, beq_false_of_ne e, cond_false]) h⟩
theorem ordPL_alike : ∀ (l qs : List Pat), qs.length = l.length → (∀ (i : Nat) (h : i < l.length) (h' : i < qs.length), ∀ b, ordP qs[i] b = ordP l[i] b) → ∀ m, ordPL qs m = ordPL l m
  | [], [], _, _, m => rfl
  | a :: l, q :: qs, h, hi, m => by
    cases m with
    | nil => rfl
    | cons b m =>
      rw [ordPL, ordPL, ordPL_alike l qs (by simpa using h) (fun i h1 h2 => hi (i + 1) (by simp; omega) (by simp; omega)) m]
      have := hi 0 (by simp) (by simp) b
      simp only [List.getElem_cons_zero] at this
      rw [this]
  | [], _ :: _, h, _, _ => by simp at h
  | _ :: _, [], h, _, _ => by simp at h
theorem renames (from_ to_ : List Bytes) (hf : from_.length ≤ 140737488351232) {p : Pat} (hp : PatSmall p) : ∃ q, PatSmall q ∧ (∀ b, ordP q b = ordP p b) ∧ Ans (fun k => ref12_Rename k p from_ to_) (q, ()) := by
  induction hp with
  | @mk p h hl ih =>
    obtain ⟨qs, hq, hqs⟩ := choose_all p.l ih
    obtain ⟨r, hr⟩ := name_loop from_ to_ p.var hf from_.length 0 (by omega)
    have hn : Ans (fun k => ref09_Name k p.var from_ to_) (r, ()) := .succ (ref09_Name_eq · p.var from_ to_) hr.diag
    have L2 : ∀ v, Ans (fun k => ref12_Rename_j1 k p from_ to_ v) ((⟨p.k, v, p.type, p.lo, p.hi, qs⟩ : Pat), ()) := fun v =>
      .of (ref12_Rename_j1_eq · p from_ to_ v) (ref_loop0 p from_ to_ v h qs hq fun i h1 h2 => (hqs i h1 h2).2.2).diag
    have J2 : Ans (fun k => ref12_Rename_j0 k p from_ to_ false) ((⟨p.k, p.var, p.type, p.lo, p.hi, qs⟩ : Pat), ()) := .of (ref12_Rename_j0_eq · p from_ to_ false) (.no rfl (L2 p.var))
    have J1 : Ans (fun k => ref12_Rename_j0 k p from_ to_ true) ((⟨p.k, r, p.type, p.lo, p.hi, qs⟩ : Pat), ()) := .of (ref12_Rename_j0_eq · p from_ to_ true) (.yes rfl (.bind hn (L2 _)))
    have small : ∀ v, PatSmall ⟨p.k, v, p.type, p.lo, p.hi, qs⟩ := fun v => .mk (by rw [hq]; exact h) fun d hd => by
      obtain ⟨i, hi, rfl⟩ := List.getElem_of_mem hd
      exact (hqs i (by rw [← hq]; exact hi) hi).1
    have like : ∀ v b, ordP ⟨p.k, v, p.type, p.lo, p.hi, qs⟩ b = ordP p b := fun v b => by
      rw [ordP_eq, ordP_eq p]
      have e : nodeP ⟨p.k, v, p.type, p.lo, p.hi, qs⟩ b = nodeP p b := by simp only [nodeP, hq]
      rw [e, ordPL_alike p.l qs hq (fun i h1 h2 => (hqs i h1 h2).2.1)]
    have fin : ∀ {v}, Ans (fun k => bif (p.k == 1) == false then (bif (p.k == 5) == false then ref12_Rename_j0 k p from_ to_ (p.k == 6) else ref12_Rename_j0 k p from_ to_ true) else ref12_Rename_j0 k p from_ to_ true) ((⟨p.k, v, p.type, p.lo, p.hi, qs⟩ : Pat), ()) → ∃ q, PatSmall q ∧ (∀ b, ordP q b = ordP p b) ∧ Ans (fun k => ref12_Rename k p from_ to_) (q, ()) :=
      fun hB => ⟨_, small _, like _, .succ (ref12_Rename_eq · p from_ to_) hB⟩
    cases h1 : p.k == 1 with
    | true => rw [h1] at fin; exact fin (.no rfl J1)
    | false =>
      rw [h1] at fin
      cases h5 : p.k == 5 with
      | true => rw [h5] at fin; exact fin (.yes rfl (.no rfl J1))
      | false =>
        rw [h5] at fin
        cases h6 : p.k == 6 with
        | true => rw [h6] at fin; exact fin (.yes rfl (.yes rfl J1))
        | false => rw [h6] at fin; exact fin (.yes rfl (.yes rfl J2))
theorem same_loop (a b : Pat) (ha : a.l.length * 80 ≤ reachBytes) (hl : a.l.length = b.l.length) (h : ∀ d ∈ a.l, ∀ e, ∃ s : Bool, Ans (fun k => ref12_Same k d e) (s, ()) ∧ (s = true ↔ d = e)) : ∀ (d i : Nat), i + d = a.l.length → ∃ s : Bool, Ans2 (fun k n => ref12_Same_l0 k n a b (i : Int)) (s, ()) ∧ (s = true ↔ a.l.drop i = b.l.drop i) := by
  intro d
  have hlen := reach_small ha (by omega)
  induction d with
  | zero =>
    intro i hi
    refine ⟨true, .succ (fun k n => by rw [ref12_Same_l0_eq, nlt_nat (by omega)]; rfl) .const, ?_⟩
    rw [List.drop_eq_nil_of_le (by omega), List.drop_eq_nil_of_le (by omega)]; simp
  | succ d ih =>
    intro i hi
    have hlt : i < a.l.length := by omega
    have hlt' : i < b.l.length := by omega
    obtain ⟨s, hs, hs'⟩ := h _ (List.getElem_mem hlt) b.l[i]
    obtain ⟨t, ht, ht'⟩ := ih (i + 1) (by omega)
    have step : ∀ {res}, Ans2 (fun k n => bif !s then some (false, ()) else ref12_Same_l0 k n a b ((i + 1 : Nat) : Int)) res → Ans2 (fun k n => ref12_Same_l0 k n a b (i : Int)) res := fun hh =>
      .succ (g := fun k n => (ref12_Same k a.l[i] b.l[i]).bind fun r => bif !r.1 then some (false, ()) else ref12_Same_l0 k n a b ((i + 1 : Nat) : Int)) (fun k n => by rw [ref12_Same_l0_eq, lt_nat hlt, lt_nat hlt', beq_self_eq_true, cond_true, cond_true, ref12_Same_j1_eq, idx_nat hlt, idx_nat hlt', wrap_succ hlt (by omega), Option.bind_some, Option.bind_some]) (.bind hs hh)
    rw [List.drop_eq_getElem_cons hlt, List.drop_eq_getElem_cons hlt', List.cons.injEq]
    cases s with
    | false => exact ⟨false, step (.yes rfl .const), by rw [← hs']; simp⟩
    | true => exact ⟨t, step (.no rfl ht), by rw [← hs', ← ht']; simp⟩
theorem same {a : Pat} (ha : PatSmall a) : ∀ b, ∃ s : Bool, Ans (fun k => ref12_Same k a b) (s, ()) ∧ (s = true ↔ a = b) := by
  induction ha with
  | @mk a h hl ih =>
    intro b
    have no : ∀ {P : Prop}, (a = b → P) → ¬P → (false = true ↔ a = b) := fun h1 h2 => ⟨fun h => (by cases h), fun e => absurd (h1 e) h2⟩
    by_cases h1 : a.k = b.k
    · have e1 : (a.k != b.k) = false := by simp [h1]
      by_cases h2 : a.var = b.var
      · have e2 : (!(a.var == b.var)) = false := by simp [h2]
        by_cases h3 : a.type = b.type
        · have e3 : (!(a.type == b.type)) = false := by simp [h3]
          by_cases h4 : a.lo = b.lo
          · have e4 : (a.lo != b.lo) = false := by simp [h4]
            by_cases h5 : a.hi = b.hi
            · have e5 : (a.hi != b.hi) = false := by simp [h5]
              by_cases h6 : a.l.length = b.l.length
              · have e6 : (((List.length a.l : Nat) : Int) != ((List.length b.l : Nat) : Int)) = false := by simp [h6]
                obtain ⟨s, hs, hs'⟩ := same_loop a b h h6 ih a.l.length 0 (by omega)
                refine ⟨s, .succ (fun k => by rw [ref12_Same_eq, e1, e2, e3, e4, e5, e6, ref12_Same_j0_eq]; rfl) hs.diag, ?_⟩
                rw [hs']
                simp only [List.drop_zero]
                constructor
                · intro e
                  cases a; cases b
                  simp only at h1 h2 h3 h4 h5 e
                  rw [h1, h2, h3, h4, h5, e]
                · rintro rfl; rfl
              · have e6 : (((List.length a.l : Nat) : Int) != ((List.length b.l : Nat) : Int)) = true := by simp; omega
                exact ⟨false, .succ (fun k => by rw [ref12_Same_eq, e1, e2, e3, e4, e5, e6]; rfl) .const, no (fun e => by rw [e]) h6⟩
            · have e5 : (a.hi != b.hi) = true := by simp [h5]
              exact ⟨false, .succ (fun k => by rw [ref12_Same_eq, e1, e2, e3, e4, e5]; rfl) .const, no (fun e => by rw [e]) h5⟩
          · have e4 : (a.lo != b.lo) = true := by simp [h4]
            exact ⟨false, .succ (fun k => by rw [ref12_Same_eq, e1, e2, e3, e4]; rfl) .const, no (fun e => by rw [e]) h4⟩
        · have e3 : (!(a.type == b.type)) = true := by simp [h3]
          exact ⟨false, .succ (fun k => by rw [ref12_Same_eq, e1, e2, e3]; rfl) .const, no (fun e => by rw [e]) h3⟩
      · have e2 : (!(a.var == b.var)) = true := by simp [h2]
        exact ⟨false, .succ (fun k => by rw [ref12_Same_eq, e1, e2]; rfl) .const, no (fun e => by rw [e]) h2⟩
    · have e1 : (a.k != b.k) = true := by simp [h1]
      exact ⟨false, .succ (fun k => by rw [ref12_Same_eq, e1]; rfl) .const, no (fun e => by rw [e]) h1⟩
theorem law (a b c : Pat) (from_ to_ : List Bytes) (ha : psize a ≤ 1048576) (hb : psize b ≤ 1048576) (hc : psize c ≤ 1048576) (hf : from_.length ≤ 140737488351232) : ∃ k, law15_OrderOrder k a b c from_ to_ = some (true, ()) := by
  have sa := small_of_size _ a (Nat.le_refl _) ha
  have sb := small_of_size _ b (Nat.le_refl _) hb
  have sc := small_of_size _ c (Nat.le_refl _) hc
  obtain ⟨x, hx⟩ := light [a, b, c] (by simp) (by simp [sa, sb, sc])
  have hw : Ans (fun k => (law15_awake k).bind fun r3 => some (r3.1, ())) (true, ()) := .bind awake .const
  refine Ans.ex (.succ (fun k => by rw [law15_OrderOrder_eq, pat_eta, pat_eta, pat_eta]) (.bind hx ?_))
  cases x with
  | false => exact hw
  | true =>
    obtain ⟨s, hs, hs'⟩ := same sa b
    obtain ⟨d, sd, hd, hr⟩ := renames from_ to_ hf sa
    have J : Ans (fun k => law15_OrderOrder_j0 k a b c from_ to_ (ordW a b, ())) (true, ()) := by
      refine .of (law15_OrderOrder_j0_eq · a b c from_ to_ _) (.bind hr (.bind (ord sa d) (.yes ?_ (.bind (ord sd b) (.bind (ord sa b) (.yes ?_ (.bind (ord sa b) ?_)))))))
      · rw [ordP_swap d a, hd a, ordP_refl]; rfl
      · simp [hd b]
      · by_cases h0 : ordP a b = 0
        · exact .no (by simp [h0]) hw
        · exact .yes (by simp [h0]) (.bind (ord sa b) (.yes (by simp [ordW, orElse, h0]) hw))
    refine .no rfl (.bind (whole a b ha hb) (.bind (whole b c hb hc) (.bind hs (.yes ?_ (.bind (whole b a hb ha) (.yes ?_ ?_))))))
    · have : (ordW a b == 0) = s := by
        rw [Bool.eq_iff_iff, hs', ← ordW_zero a b]; simp
      simp [this]
    · have hr := ordW_range a b
      have : IntKind.i64.wrap (0 - ordW a b) = - ordW a b := by rw [wrap_id (by omega) (by omega)]; omega
      simp only [this, ordW_swap a b]
      simp
    · by_cases h1 : ordW a b ≤ 0
      · refine .yes (by simp [h1]) ?_
        by_cases h2 : ordW b c ≤ 0
        · refine .yes (by simp [h2]) (.bind (whole a c ha hc) (.no ?_ J))
          have := (ordW_tri a b c h1 h2).1
          simp [this]
        · exact .no (by simp [h2]) J
      · exact .no (by simp [h1]) J
end Go.Ev.HpOO
