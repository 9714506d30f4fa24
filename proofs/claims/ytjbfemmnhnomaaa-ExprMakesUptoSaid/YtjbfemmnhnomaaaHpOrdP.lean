/-
  PLAIN LAWS: the order of patterns.
-/
import Derived.Test.YtjbfemmnhnomaaaHpOrd
set_option linter.unusedVariables false
namespace Go.Ev
mutual
def psize : Pat → Nat
  | ⟨_, _, _, _, _, l⟩ => 1 + psizes l
def psizes : List Pat → Nat
  | [] => 0
  | a :: l => psize a + psizes l
end
theorem psize_eq (p : Pat) : psize p = 1 + psizes p.l := by cases p; rw [psize]
theorem psizes_mem : ∀ {l : List Pat} {d : Pat}, d ∈ l → psize d ≤ psizes l
  | a :: l, d, h => by
    rw [psizes]
    rcases List.mem_cons.1 h with rfl | h
    · omega
    · have := psizes_mem h; omega
theorem psize_pos (p : Pat) : 1 ≤ psize p := by rw [psize_eq]; omega
theorem psizes_len : ∀ (l : List Pat), l.length ≤ psizes l
  | [] => by simp
  | a :: l => by rw [psizes, List.length_cons]; have := psize_pos a; have := psizes_len l; omega
mutual
def esize : Exp → Nat
  | ⟨_, _, _, _, l⟩ => 1 + esizes l
def esizes : List Exp → Nat
  | [] => 0
  | a :: l => esize a + esizes l
end
theorem esize_eq (p : Exp) : esize p = 1 + esizes p.l := by cases p; rw [esize]
theorem esizes_mem : ∀ {l : List Exp} {d : Exp}, d ∈ l → esize d ≤ esizes l
  | a :: l, d, h => by
    rw [esizes]
    rcases List.mem_cons.1 h with rfl | h
    · omega
    · have := esizes_mem h; omega
theorem esize_pos (p : Exp) : 1 ≤ esize p := by rw [esize_eq]; omega
theorem esizes_len : ∀ (l : List Exp), l.length ≤ esizes l
  | [] => by simp
  | a :: l => by rw [esizes, List.length_cons]; have := esize_pos a; have := esizes_len l; omega
mutual
def varsP : Pat → List Bytes
  | ⟨_, v, _, _, _, l⟩ => v :: varsL l
def varsL : List Pat → List Bytes
  | [] => []
  | a :: l => varsP a ++ varsL l
end
theorem varsP_eq (p : Pat) : varsP p = p.var :: varsL p.l := by cases p; rw [varsP]
mutual
theorem varsP_len : ∀ (p : Pat), (varsP p).length = psize p
  | ⟨_, v, _, _, _, l⟩ => by rw [varsP, psize, List.length_cons, varsL_len l]; omega
theorem varsL_len : ∀ (l : List Pat), (varsL l).length = psizes l
  | [] => rfl
  | a :: l => by rw [varsL, psizes, List.length_append, varsP_len a, varsL_len l]
end
theorem varsL_append : ∀ (a b : List Pat), varsL (a ++ b) = varsL a ++ varsL b
  | [], b => by simp [varsL]
  | x :: a, b => by simp [varsL, varsL_append a b]
theorem psizes_append : ∀ (a b : List Pat), psizes (a ++ b) = psizes a + psizes b
  | [], b => by simp [psizes]
  | x :: a, b => by simp [psizes, psizes_append a b, Nat.add_assoc]
def nodeP (a b : Pat) : Int := orElse (cmpI a.k b.k) (orElse (cmpS a.type b.type) (orElse (cmpI a.lo b.lo) (orElse (cmpI a.hi b.hi) (cmpI (a.l.length : Int) (b.l.length : Int)))))
theorem nodeP_swap (a b : Pat) : nodeP b a = - nodeP a b := by
  unfold nodeP; rw [cmpI_swap a.k, cmpS_swap a.type, cmpI_swap a.lo, cmpI_swap a.hi, cmpI_swap (a.l.length : Int), orElse_neg, orElse_neg, orElse_neg, orElse_neg]
theorem nodeP_tri (a b c : Pat) : Tri (nodeP a b) (nodeP b c) (nodeP a c) :=
  (cmpI_tri _ _ _).orElse (fun _ _ _ => (cmpS_tri _ _ _).orElse (fun _ _ _ => (cmpI_tri _ _ _).orElse (fun _ _ _ => (cmpI_tri _ _ _).orElse (fun _ _ _ => cmpI_tri _ _ _) (cmpI_z _ _ _)) (cmpI_z _ _ _)) (cmpS_z _ _ _)) (cmpI_z _ _ _)
theorem nodeP_len {a b : Pat} (h : nodeP a b = 0) : a.l.length = b.l.length := by
  unfold nodeP at h
  simp only [orElse_zero, cmpI_zero] at h
  omega
theorem nodeP_z (a b c : Pat) (h : nodeP a b = 0) (h' : nodeP b c = 0) : nodeP a c = 0 := by
  unfold nodeP at *
  simp only [orElse_zero] at *
  exact ⟨cmpI_z _ _ _ h.1 h'.1, cmpS_z _ _ _ h.2.1 h'.2.1, cmpI_z _ _ _ h.2.2.1 h'.2.2.1, cmpI_z _ _ _ h.2.2.2.1 h'.2.2.2.1, cmpI_z _ _ _ h.2.2.2.2 h'.2.2.2.2⟩
theorem nodeP_zero (a b : Pat) : nodeP a b = 0 ↔ a.k = b.k ∧ a.type = b.type ∧ a.lo = b.lo ∧ a.hi = b.hi ∧ a.l.length = b.l.length := by
  unfold nodeP
  simp only [orElse_zero, cmpI_zero, cmpS_zero]
  constructor
  · rintro ⟨h1, h2, h3, h4, h5⟩; exact ⟨h1, h2, h3, h4, by omega⟩
  · rintro ⟨h1, h2, h3, h4, h5⟩; exact ⟨h1, h2, h3, h4, by omega⟩
theorem nodeP_refl (a : Pat) : nodeP a a = 0 := (nodeP_zero a a).2 ⟨rfl, rfl, rfl, rfl, rfl⟩
mutual
def ordP : Pat → Pat → Int
  | ⟨k, v, t, x, y, l⟩, b => orElse (nodeP ⟨k, v, t, x, y, l⟩ b) (ordPL l b.l)
def ordPL : List Pat → List Pat → Int
  | [], _ => 0
  | _ :: _, [] => 0
  | a :: as, b :: bs => orElse (ordP a b) (ordPL as bs)
end
theorem ordP_eq (a b : Pat) : ordP a b = orElse (nodeP a b) (ordPL a.l b.l) := by cases a; rw [ordP]
mutual
theorem ordP_swap : ∀ (a b : Pat), ordP b a = - ordP a b
  | ⟨k, v, t, x, y, l⟩, b => by
    rw [ordP_eq b, ordP, nodeP_swap ⟨k, v, t, x, y, l⟩ b, ← orElse_neg, ordPL_swap l b.l]
theorem ordPL_swap : ∀ (a b : List Pat), ordPL b a = - ordPL a b
  | [], [] => rfl
  | [], _ :: _ => rfl
  | _ :: _, [] => rfl
  | a :: as, b :: bs => by
    rw [ordPL, ordPL, ordP_swap a b, ordPL_swap as bs, orElse_neg]
end
mutual
theorem ordP_z : ∀ (a b c : Pat), ordP a b = 0 → ordP b c = 0 → ordP a c = 0
  | ⟨k, v, t, x, y, l⟩, b, c, h, h' => by
    rw [ordP, orElse_zero] at h
    rw [ordP_eq, orElse_zero] at h'
    rw [ordP, orElse_zero]
    exact ⟨nodeP_z _ _ _ h.1 h'.1, ordPL_z l b.l c.l (nodeP_len h.1) (nodeP_len h'.1) h.2 h'.2⟩
theorem ordPL_z : ∀ (a b c : List Pat), a.length = b.length → b.length = c.length → ordPL a b = 0 → ordPL b c = 0 → ordPL a c = 0
  | [], _, _, _, _, _, _ => by rw [ordPL]
  | a :: as, b :: bs, c :: cs, h1, h2, h, h' => by
    rw [ordPL, orElse_zero] at h h' ⊢
    simp at h1 h2
    exact ⟨ordP_z a b c h.1 h'.1, ordPL_z as bs cs h1 h2 h.2 h'.2⟩
  | _ :: _, [], _, h1, _, _, _ => by simp at h1
  | _ :: _, _ :: _, [], _, h2, _, _ => by simp at h2
end
mutual
theorem ordP_tri : ∀ (a b c : Pat), Tri (ordP a b) (ordP b c) (ordP a c)
  | ⟨k, v, t, x, y, l⟩, b, c => by
    rw [ordP, ordP_eq b c, ordP]
    exact (nodeP_tri _ _ _).orElse (fun h1 h2 _ => ordPL_tri l b.l c.l (nodeP_len h1) (nodeP_len h2)) (nodeP_z _ _ _)
theorem ordPL_tri : ∀ (a b c : List Pat), a.length = b.length → b.length = c.length → Tri (ordPL a b) (ordPL b c) (ordPL a c)
  | [], [], [], _, _ => by simp [ordPL, Tri]
  | a :: as, b :: bs, c :: cs, h1, h2 => by
    rw [ordPL, ordPL, ordPL]
    simp at h1 h2
    exact (ordP_tri a b c).orElse (fun _ _ _ => ordPL_tri as bs cs h1 h2) (ordP_z a b c)
  | [], _ :: _, _, h1, _ => by simp at h1
  | _ :: _, [], _, h1, _ => by simp at h1
  | [], [], _ :: _, _, h2 => by simp at h2
  | _ :: _, _ :: _, [], _, h2 => by simp at h2
end
mutual
theorem ordP_refl : ∀ (a : Pat), ordP a a = 0
  | ⟨k, v, t, x, y, l⟩ => by
    rw [ordP, orElse_zero]
    exact ⟨nodeP_refl _, ordPL_refl l⟩
theorem ordPL_refl : ∀ (a : List Pat), ordPL a a = 0
  | [] => rfl
  | a :: as => by rw [ordPL, orElse_zero]; exact ⟨ordP_refl a, ordPL_refl as⟩
end
mutual
theorem ordP_range : ∀ (a b : Pat), -1 ≤ ordP a b ∧ ordP a b ≤ 1
  | ⟨k, v, t, x, y, l⟩, b => by
    rw [ordP]
    refine orElse_range ?_ (ordPL_range l b.l)
    exact orElse_range (cmpI_range _ _) (orElse_range (cmpS_range _ _) (orElse_range (cmpI_range _ _) (orElse_range (cmpI_range _ _) (cmpI_range _ _))))
theorem ordPL_range : ∀ (a b : List Pat), -1 ≤ ordPL a b ∧ ordPL a b ≤ 1
  | [], _ => by simp [ordPL]
  | _ :: _, [] => by simp [ordPL]
  | a :: as, b :: bs => by rw [ordPL]; exact orElse_range (ordP_range a b) (ordPL_range as bs)
end
mutual
theorem ordP_size : ∀ (a b : Pat), ordP a b = 0 → psize a = psize b
  | ⟨k, v, t, x, y, l⟩, b, h => by
    rw [ordP, orElse_zero] at h
    rw [psize, psize_eq b, ordPL_size l b.l (nodeP_len h.1) h.2]
theorem ordPL_size : ∀ (a b : List Pat), a.length = b.length → ordPL a b = 0 → psizes a = psizes b
  | [], [], _, _ => rfl
  | a :: as, b :: bs, h1, h => by
    rw [ordPL, orElse_zero] at h
    simp at h1
    rw [psizes, psizes, ordP_size a b h.1, ordPL_size as bs h1 h.2]
  | [], _ :: _, h1, _ => by simp at h1
  | _ :: _, [], h1, _ => by simp at h1
end
/-- Rows of texts of one length, compared. -/
def ordS : List Bytes → List Bytes → Int
  | [], _ => 0
  | _ :: _, [] => 0
  | a :: as, b :: bs => orElse (cmpS a b) (ordS as bs)
theorem ordS_zero : ∀ (a b : List Bytes), a.length = b.length → (ordS a b = 0 ↔ a = b)
  | [], [], _ => by simp [ordS]
  | a :: as, b :: bs, h => by
    simp at h
    rw [ordS, orElse_zero, cmpS_zero, ordS_zero as bs h]; simp
  | [], _ :: _, h => by simp at h
  | _ :: _, [], h => by simp at h
theorem ordS_swap : ∀ (a b : List Bytes), ordS b a = - ordS a b
  | [], [] => rfl
  | [], _ :: _ => rfl
  | _ :: _, [] => rfl
  | a :: as, b :: bs => by rw [ordS, ordS, cmpS_swap a b, ordS_swap as bs, orElse_neg]
theorem ordS_tri : ∀ (a b c : List Bytes), a.length = b.length → b.length = c.length → Tri (ordS a b) (ordS b c) (ordS a c)
  | [], [], [], _, _ => by simp [ordS, Tri]
  | a :: as, b :: bs, c :: cs, h1, h2 => by
    rw [ordS, ordS, ordS]
    simp at h1 h2
    exact (cmpS_tri a b c).orElse (fun _ _ _ => ordS_tri as bs cs h1 h2) (cmpS_z a b c)
  | [], _ :: _, _, h1, _ => by simp at h1
  | _ :: _, [], _, h1, _ => by simp at h1
  | [], [], _ :: _, _, h2 => by simp at h2
  | _ :: _, _ :: _, [], _, h2 => by simp at h2
theorem ordS_range : ∀ (a b : List Bytes), -1 ≤ ordS a b ∧ ordS a b ≤ 1
  | [], _ => by simp [ordS]
  | _ :: _, [] => by simp [ordS]
  | a :: as, b :: bs => by rw [ordS]; exact orElse_range (cmpS_range a b) (ordS_range as bs)
def ordW (a b : Pat) : Int := orElse (ordP a b) (ordS (varsP a) (varsP b))
theorem varsP_len_of {a b : Pat} (h : ordP a b = 0) : (varsP a).length = (varsP b).length := by rw [varsP_len, varsP_len, ordP_size a b h]
theorem ordW_swap (a b : Pat) : ordW b a = - ordW a b := by unfold ordW; rw [ordP_swap a b, ordS_swap, orElse_neg]
theorem ordW_tri (a b c : Pat) : Tri (ordW a b) (ordW b c) (ordW a c) :=
  (ordP_tri a b c).orElse (fun h1 h2 _ => ordS_tri _ _ _ (varsP_len_of h1) (varsP_len_of h2)) (ordP_z a b c)
theorem ordW_range (a b : Pat) : -1 ≤ ordW a b ∧ ordW a b ≤ 1 := orElse_range (ordP_range a b) (ordS_range _ _)
mutual
theorem pat_same : ∀ (a b : Pat), ordP a b = 0 → varsP a = varsP b → a = b
  | ⟨k, v, t, x, y, l⟩, ⟨k', v', t', x', y', l'⟩, h, h' => by
    rw [ordP, orElse_zero] at h
    rw [varsP, varsP, List.cons.injEq] at h'
    have hn := (nodeP_zero _ _).1 h.1
    simp only at hn
    obtain ⟨rfl, rfl, rfl, rfl, hl⟩ := hn
    obtain ⟨rfl, hv⟩ := h'
    rw [pats_same l l' hl h.2 hv]
theorem pats_same : ∀ (a b : List Pat), a.length = b.length → ordPL a b = 0 → varsL a = varsL b → a = b
  | [], [], _, _, _ => rfl
  | a :: as, b :: bs, h1, h, h' => by
    rw [ordPL, orElse_zero] at h
    simp at h1
    rw [varsL, varsL] at h'
    obtain ⟨e1, e2⟩ := List.append_inj h' (varsP_len_of h.1)
    rw [pat_same a b h.1 e1, pats_same as bs h1 h.2 e2]
  | [], _ :: _, h1, _, _ => by simp at h1
  | _ :: _, [], h1, _, _ => by simp at h1
end
theorem ordW_zero (a b : Pat) : ordW a b = 0 ↔ a = b := by
  unfold ordW
  rw [orElse_zero]
  constructor
  · rintro ⟨h1, h2⟩
    exact pat_same a b h1 ((ordS_zero _ _ (varsP_len_of h1)).1 h2)
  · rintro rfl
    exact ⟨ordP_refl a, (ordS_zero _ _ rfl).2 rfl⟩
/-! ### Sizes, by what a reading holds -/
def bulkP (m : Nat) (x : Pat) : Nat := ((cells .pat x).map (bulkN m)).sum
def bulkE (m : Nat) (x : Exp) : Nat := ((cells .exp x).map (bulkN m)).sum
theorem bulkP_succ (m : Nat) (k : Int) (v t : Bytes) (x y : Int) (l : List Pat) : (l.map (bulkP m)).sum + 1 ≤ bulkP (m + 1) ⟨k, v, t, x, y, l⟩ := by
  have e : bulkN (m + 1) (.sl .pat false l) = 1 + (l.map (bulkP m)).sum := rfl
  simp only [bulkP, cells, List.map_cons, List.map_nil, List.sum_cons, List.sum_nil, e]
  omega
theorem bulkE_succ (m : Nat) (k : Int) (v : Val) (t x : Bytes) (l : List Exp) : (l.map (bulkE m)).sum + 1 ≤ bulkE (m + 1) ⟨k, v, t, x, l⟩ := by
  have e : bulkN (m + 1) (.sl .exp false l) = 1 + (l.map (bulkE m)).sum := rfl
  simp only [bulkE, cells, List.map_cons, List.map_nil, List.sum_cons, List.sum_nil, e]
  omega
mutual
theorem psize_bulk : ∀ p : Pat, ∃ N, ∀ m, N ≤ m → psize p ≤ bulkP m p
  | ⟨k, v, t, x, y, l⟩ => by
    obtain ⟨N, hN⟩ := psizes_bulk l
    refine ⟨N + 1, fun m hm => ?_⟩
    obtain ⟨j, rfl⟩ : ∃ j, m = j + 1 := ⟨m - 1, by omega⟩
    have := hN j (by omega)
    have := bulkP_succ j k v t x y l
    rw [psize]
    omega
theorem psizes_bulk : ∀ l : List Pat, ∃ N, ∀ m, N ≤ m → psizes l ≤ (l.map (bulkP m)).sum
  | [] => ⟨0, fun m _ => by simp [psizes]⟩
  | a :: l => by
    obtain ⟨N, hN⟩ := psize_bulk a
    obtain ⟨M, hM⟩ := psizes_bulk l
    refine ⟨N + M, fun m hm => ?_⟩
    have h1 := hN m (by omega)
    have h2 := hM m (by omega)
    rw [List.map_cons, List.sum_cons, psizes]
    omega
end
mutual
theorem esize_bulk : ∀ p : Exp, ∃ N, ∀ m, N ≤ m → esize p ≤ bulkE m p
  | ⟨k, v, t, x, l⟩ => by
    obtain ⟨N, hN⟩ := esizes_bulk l
    refine ⟨N + 1, fun m hm => ?_⟩
    obtain ⟨j, rfl⟩ : ∃ j, m = j + 1 := ⟨m - 1, by omega⟩
    have := hN j (by omega)
    have := bulkE_succ j k v t x l
    rw [esize]
    omega
theorem esizes_bulk : ∀ l : List Exp, ∃ N, ∀ m, N ≤ m → esizes l ≤ (l.map (bulkE m)).sum
  | [] => ⟨0, fun m _ => by simp [esizes]⟩
  | a :: l => by
    obtain ⟨N, hN⟩ := esize_bulk a
    obtain ⟨M, hM⟩ := esizes_bulk l
    refine ⟨N + M, fun m hm => ?_⟩
    have h1 := hN m (by omega)
    have h2 := hM m (by omega)
    rw [List.map_cons, List.sum_cons, esizes]
    omega
end
theorem psize_le {p : Pat} {n : Nat} (h : ∀ m, ((cells .pat p).map (bulkN m)).sum ≤ n) : psize p ≤ n := by
  obtain ⟨N, hN⟩ := psize_bulk p
  exact Nat.le_trans (hN N (Nat.le_refl _)) (h N)
theorem esize_le {p : Exp} {n : Nat} (h : ∀ m, ((cells .exp p).map (bulkN m)).sum ≤ n) : esize p ≤ n := by
  obtain ⟨N, hN⟩ := esize_bulk p
  exact Nat.le_trans (hN N (Nat.le_refl _)) (h N)
theorem psizes_le {l : List Pat} {n : Nat} (h : ∀ m, bulkN m (.sl .pat false l) ≤ n) : psizes l ≤ n := by
  obtain ⟨N, hN⟩ := psizes_bulk l
  have h1 := hN N (Nat.le_refl _)
  have h2 : 1 + (l.map (bulkP N)).sum ≤ n := h (N + 1)
  omega
theorem esizes_le {l : List Exp} {n : Nat} (h : ∀ m, bulkN m (.sl .exp false l) ≤ n) : esizes l ≤ n := by
  obtain ⟨N, hN⟩ := esizes_bulk l
  have h1 := hN N (Nat.le_refl _)
  have h2 : 1 + (l.map (bulkE N)).sum ≤ n := h (N + 1)
  omega
theorem vars_loop {f : Nat → Pat → Option (List Bytes × Unit)} {loop : Nat → Nat → Pat → Int → List Bytes → Option (List Bytes × Unit)}
    (step : ∀ (k n : Nat) (p : Pat) (i : Int) (out : List Bytes), loop k (n+1) p i out = (bif decide (i < ((List.length p.l : Nat) : Int)) then ((idx p.l i).bind fun d => ((f k d).bind fun r => (bif decide ((List.length out + List.length r.1) * 16 ≤ 140737488355328) then loop k n p (IntKind.i64.wrap (i + 1)) (out ++ r.1) else none))) else some (out, ())))
    (p : Pat) (hp : psize p ≤ 1048576) (h : ∀ d ∈ p.l, Ans (fun k => f k d) (varsP d, ())) : ∀ (d i : Nat), i + d = p.l.length → Ans2 (fun k n => loop k n p (i : Int) (p.var :: varsL (p.l.take i))) (varsP p, ()) := by
  have hs := psize_eq p
  have hl := psizes_len p.l
  intro d
  induction d with
  | zero =>
    intro i hi
    refine .succ (fun k n => ?_) .const
    rw [step, nlt_nat (by omega), cond_false, List.take_of_length_le (by omega), varsP_eq]
  | succ d ih =>
    intro i hi
    have hlt : i < p.l.length := by omega
    have ht : psizes (p.l.take i) + psize p.l[i] ≤ psizes p.l := by
      have e : psizes (p.l.take (i + 1) ++ p.l.drop (i + 1)) = psizes p.l := by rw [List.take_append_drop]
      rw [psizes_append, List.take_succ_eq_append_getElem hlt, psizes_append] at e
      simp only [psizes] at e
      omega
    refine .succ (g := fun k n => (f k p.l[i]).bind fun r => (bif decide ((List.length (p.var :: varsL (p.l.take i)) + List.length r.1) * 16 ≤ 140737488355328) then loop k n p ((i + 1 : Nat) : Int) ((p.var :: varsL (p.l.take i)) ++ r.1) else none)) (fun k n => ?_) (.bind (h _ (List.getElem_mem hlt)) (.yes (decide_eq_true ?_) ?_))
    · rw [step, lt_nat hlt, idx_nat hlt, wrap_succ hlt (by omega), cond_true, Option.bind_some]
    · rw [List.length_cons, varsL_len, varsP_len]
      omega
    · have := ih (i + 1) (by omega)
      rw [List.take_succ_eq_append_getElem hlt, varsL_append] at this
      simpa [varsL] using this
theorem vars_ans {f : Nat → Pat → Option (List Bytes × Unit)} {loop : Nat → Nat → Pat → Int → List Bytes → Option (List Bytes × Unit)}
    (start : ∀ (k : Nat) (p : Pat), f (k + 1) p = loop k k p 0 [p.var])
    (step : ∀ (k n : Nat) (p : Pat) (i : Int) (out : List Bytes), loop k (n+1) p i out = (bif decide (i < ((List.length p.l : Nat) : Int)) then ((idx p.l i).bind fun d => ((f k d).bind fun r => (bif decide ((List.length out + List.length r.1) * 16 ≤ 140737488355328) then loop k n p (IntKind.i64.wrap (i + 1)) (out ++ r.1) else none))) else some (out, ()))) :
    ∀ (m : Nat) (p : Pat), psize p ≤ m → psize p ≤ 1048576 → Ans (fun k => f k p) (varsP p, ()) := by
  intro m
  induction m with
  | zero => intro p h; have := psize_pos p; omega
  | succ m ih =>
    intro p h hp
    refine .succ (fun k => start k p) (vars_loop step p hp (fun d hd => ih d ?_ ?_) p.l.length 0 (by omega)).diag
    · have := psizes_mem hd; have := psize_eq p; omega
    · have := psizes_mem hd; have := psize_eq p; omega
theorem small_of_size : ∀ (m : Nat) (p : Pat), psize p ≤ m → psize p ≤ 1048576 → PatSmall p := by
  intro m
  induction m with
  | zero => intro p h; have := psize_pos p; omega
  | succ m ih =>
    intro p h hp
    have h1 := psize_eq p
    have h2 := psizes_len p.l
    refine .mk (by simp only [reachBytes]; omega) fun d hd => ?_
    have := psizes_mem hd
    exact ih d (by omega) (by omega)
end Go.Ev
