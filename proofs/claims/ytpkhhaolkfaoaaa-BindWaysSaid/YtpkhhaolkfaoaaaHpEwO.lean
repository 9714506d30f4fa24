/-
  THE EVALUATOR, PART 41: regions whose operations may come in any order.
-/
import Derived.Test.YtpkhhaolkfaoaaaHpEwN
set_option linter.unusedVariables false
set_option linter.unusedSimpArgs false
set_option linter.unusedSectionVars false
namespace Go.Ev

/-! ### Tables -/
theorem slotTab_spec : ∀ (ops : List Oper) (s : Nat), (∀ (j : Nat) (sl : List Nat), (slotTab s ops)[j]? = some sl → ∃ b q, sl = List.range' b q ∧ s ≤ b ∧ b + q ≤ s + (slotTab s ops).flatten.length) ∧
    ∀ (i j : Nat) (si sj : List Nat), (slotTab s ops)[i]? = some si → (slotTab s ops)[j]? = some sj → i ≠ j → ∀ x ∈ si, x ∉ sj
  | [], s => ⟨fun j sl h => by simp [slotTab] at h, fun i j si sj h => by simp [slotTab] at h⟩
  | o :: r, s => by
    obtain ⟨h1, h2⟩ := slotTab_spec r (s + slotsOf o)
    have hlen : (slotTab s (o :: r)).flatten.length = slotsOf o + (slotTab (s + slotsOf o) r).flatten.length := by simp [slotTab]
    have low : ∀ (j : Nat) (sl : List Nat), (slotTab (s + slotsOf o) r)[j]? = some sl → ∀ x ∈ sl, s + slotsOf o ≤ x := fun j sl h x hx => by
      obtain ⟨b, q, rfl, h3, _⟩ := h1 j sl h
      have := (List.mem_range'_1.1 hx).1
      omega
    refine ⟨fun j sl h => ?_, fun i j si sj hi hj hne x hx hx2 => ?_⟩
    · rw [hlen]
      cases j with
      | zero => simp [slotTab] at h; exact ⟨s, slotsOf o, h.symm, Nat.le_refl _, by omega⟩
      | succ j =>
        obtain ⟨b, q, h3, h4, h5⟩ := h1 j sl (by simpa [slotTab] using h)
        exact ⟨b, q, h3, by omega, by omega⟩
    · cases i with
      | zero =>
        cases j with
        | zero => exact hne rfl
        | succ j =>
          simp [slotTab] at hi
          subst hi
          have h3 := low j sj (by simpa [slotTab] using hj) x hx2
          have := (List.mem_range'_1.1 hx).2
          omega
      | succ i =>
        cases j with
        | zero =>
          simp [slotTab] at hj
          subst hj
          have h3 := low i si (by simpa [slotTab] using hi) x hx
          have := (List.mem_range'_1.1 hx2).2
          omega
        | succ j => exact h2 i j si sj (by simpa [slotTab] using hi) (by simpa [slotTab] using hj) (fun e => hne (by rw [e])) x hx hx2
theorem mem_addAll : ∀ (xs l : List Nat) (x : Nat), x ∈ addAll l xs → x ∈ l ∨ x ∈ xs
  | [], l, x, h => .inl h
  | y :: ys, l, x, h => by
    rcases mem_addAll ys _ x h with h1 | h1
    · cases hc : l.contains y <;> rw [hc] at h1
      · rcases List.mem_cons.1 h1 with h2 | h2
        · exact .inr (by simp [h2])
        · exact .inl h2
      · exact .inl h1
    · exact .inr (by simp [h1])
theorem ahead_fold (acc : List (List Nat)) : ∀ (es : List Edge) (l : List Nat) (k : Nat), k ∈ es.foldl (fun l e => bif Region.binds .any e then addAll l (e.on :: (acc[e.on]?).getD []) else l) l →
    k ∈ l ∨ ∃ e ∈ es, Region.binds .any e = true ∧ (k = e.on ∨ k ∈ (acc[e.on]?).getD [])
  | [], l, k, h => .inl h
  | e :: es, l, k, h => by
    rcases ahead_fold acc es _ k h with h1 | ⟨e', h1, h2, h3⟩
    · cases hb : Region.binds .any e <;> simp only [hb, cond_true, cond_false] at h1
      · exact .inl h1
      · rcases mem_addAll _ _ _ h1 with h2 | h2
        · exact .inl h2
        · exact .inr ⟨e, by simp, hb, by simpa using h2⟩
    · exact .inr ⟨e', by simp [h1], h2, h3⟩
theorem aheadTab_spec : ∀ (ops : List Oper) (acc : List (List Nat)), (∀ i : Nat, i < acc.length → (aheadTab ops acc)[i]? = acc[i]?) ∧
    ∀ (j : Nat) (o : Oper) (k : Nat), ops[j]? = some o → k ∈ ((aheadTab ops acc)[acc.length + j]?).getD [] → ∃ e ∈ o.after.toList, Region.binds .any e = true ∧ (k = e.on ∨ k ∈ ((aheadTab ops acc)[e.on]?).getD [])
  | [], acc => ⟨fun i _ => rfl, fun j o k h => by simp at h⟩
  | o :: r, acc => by
    unfold aheadTab
    generalize hx : o.after.toList.foldl (fun l e => bif Region.binds .any e then addAll l (e.on :: (acc[e.on]?).getD []) else l) [] = x
    obtain ⟨h1, h2⟩ := aheadTab_spec r (acc ++ [x])
    have old : ∀ i : Nat, i < acc.length → (aheadTab r (acc ++ [x]))[i]? = acc[i]? := fun i hi => by
      rw [h1 i (by simp; omega), List.getElem?_append_left hi]
    refine ⟨old, fun j o' k ho hk => ?_⟩
    cases j with
    | zero =>
      simp at ho
      subst ho
      rw [Nat.add_zero, h1 acc.length (by simp), List.getElem?_append_right (Nat.le_refl _)] at hk
      simp at hk
      rw [← hx] at hk
      rcases ahead_fold acc _ _ k hk with h3 | ⟨e, h3, h4, h5⟩
      · cases h3
      · refine ⟨e, h3, h4, h5.imp id fun h6 => ?_⟩
        by_cases hlt : e.on < acc.length
        · rw [old _ hlt]; exact h6
        · rw [List.getElem?_eq_none (by omega)] at h6; cases h6
    | succ j =>
      have e1 : acc.length + (j + 1) = (acc ++ [x]).length + j := by simp; omega
      rw [e1] at hk
      exact h2 j o' k (by simpa using ho) hk
theorem tmpsApart_spec (ops : List Oper) (ahead : List (List Nat)) : ∀ (rest : List Oper) (k : Nat), tmpsApart ops ahead k rest = true → ∀ (i : Nat) (o : Oper), rest[i]? = some o →
    (∀ e ∈ o.after.toList, Region.binds .any e = true → e.on < k + i) ∧ ∀ j p, j < k + i → ops[j]? = some p → j ∉ (ahead[k + i]?).getD [] → inter p.dst.toList (o.dst.toList ++ rdTmps ops o) = false ∧ inter o.dst.toList (rdTmps ops p) = false
  | [], k, h, i, o, ho => by simp at ho
  | o :: r, k, h, i, o', ho => by
    unfold tmpsApart at h
    simp only [Bool.and_eq_true, List.all_eq_true, List.mem_range, Bool.or_eq_true] at h
    cases i with
    | zero =>
      simp at ho
      subst ho
      refine ⟨fun e he hb => ?_, fun j p hj hp hn => ?_⟩
      · rcases h.1.1 e he with h1 | h1
        · rw [hb] at h1; cases h1
        · simpa using h1
      · rcases h.1.2 j hj with h1 | h1
        · exact absurd (by simpa using h1) hn
        · rw [hp] at h1
          simpa using h1
    | succ i =>
      have := tmpsApart_spec ops ahead r (k + 1) h.2 i o' (by simpa using ho)
      have e : k + (i + 1) = k + 1 + i := by omega
      rw [e]
      exact this
theorem not_inter {a b : List Nat} (h : inter a b = false) {x : Nat} (ha : x ∈ a) (hb : x ∈ b) : False := by
  have := List.any_eq_false.1 h x ha
  simp [hb] at this

/-! ### What a value bears -/
theorem fits_mono {P P' : Nat → Bool} (h : ∀ i, P i = true → P' i = true) : ∀ (n : Nat) (v : AVal), fits P n v = true → fits P' n v = true
  | 0, _, hv => by cases hv
  | n + 1, v, hv => by
    have key : ∀ cs : List AVal, cs.all (fits P n) = true → cs.all (fits P' n) = true := fun cs hc =>
      List.all_eq_true.2 fun c hcc => fits_mono h n c (List.all_eq_true.1 hc c hcc)
    cases v <;> simp only [fits] at hv ⊢
    all_goals first
      | exact key _ hv
      | exact h _ hv
theorem fitsO_mono {P P' : Nat → Bool} (h : ∀ i, P i = true → P' i = true) {o : AObj} (ho : fitsO P o = true) : fitsO P' o = true := by
  cases o <;> simp only [fitsO] at ho ⊢
  all_goals exact List.all_eq_true.2 fun c hcc => fits_mono h 3 c (List.all_eq_true.1 ho c hcc)
theorem fits_id {P : Nat → Bool} {ρ : Nat → Option Nat} (h : ∀ i, P i = true → ρ i = some i) : ∀ (n : Nat) (v : AVal), fits P n v = true → renV n ρ v = v
  | 0, _, hv => by cases hv
  | n + 1, v, hv => by
    have key : ∀ cs : List AVal, cs.all (fits P n) = true → cs.map (renV n ρ) = cs := fun cs hc => by
      conv => rhs; rw [← List.map_id cs]
      exact List.map_congr_left fun c hcc => fits_id h n c (List.all_eq_true.1 hc c hcc)
    cases v <;> simp only [fits] at hv <;> simp only [renV]
    all_goals first
      | rw [key _ hv]
      | rw [h _ hv]; rfl
theorem fitsO_id {P : Nat → Bool} {ρ : Nat → Option Nat} (h : ∀ i, P i = true → ρ i = some i) {o : AObj} (ho : fitsO P o = true) : renO ρ o = o := by
  have key : ∀ cs : List AVal, cs.all (fits P 3) = true → cs.map (renV 3 ρ) = cs := fun cs hc => by
    conv => rhs; rw [← List.map_id cs]
    exact List.map_congr_left fun c hcc => fits_id h 3 c (List.all_eq_true.1 hc c hcc)
  cases o <;> simp only [fitsO] at ho <;> simp only [renO]
  all_goals rw [key _ ho]
theorem posOf_of {l : List Nat} (hnd : l.Nodup) {i j : Nat} (h : l[j]? = some i) : posOf l i = some j := by
  obtain ⟨k, hk⟩ := posOf_mem (List.mem_of_getElem? h)
  have h1 := posOf_some hk
  have hi := (List.getElem?_eq_some_iff.1 h).1
  have hj := (List.getElem?_eq_some_iff.1 h1).1
  have e1 : l[j] = i := by simp [hi] at h; exact h
  have e2 : l[k] = i := by simp [hj] at h1; exact h1
  rw [hk, nodup_inj hnd hj hi (e2.trans e1.symm)]
theorem moveIds_get {L s n : Nat} (h : s + n ≤ L) : (moveIds L s n).length = L ∧ (∀ x, x < s → (moveIds L s n)[x]? = some x) ∧ (∀ x, s ≤ x → x < s + n → (moveIds L s n)[x]? = some (L + (x - s))) ∧ ∀ x, s + n ≤ x → x < L → (moveIds L s n)[x]? = some x := by
  refine ⟨by simp [moveIds]; omega, fun x hx => ?_, fun x h1 h2 => ?_, fun x h1 h2 => ?_⟩
  · rw [moveIds, List.append_assoc, List.getElem?_append_left (by simpa using hx)]
    simp [hx]
  · rw [moveIds, List.append_assoc, List.getElem?_append_right (by simpa using h1), List.getElem?_append_left (by simp; omega)]
    rw [List.getElem?_eq_getElem (by simp; omega), List.getElem_range']
    simp
  · rw [moveIds, List.getElem?_append_right (by simp; omega), List.getElem?_eq_getElem (by simp; omega), List.getElem_range']
    simp
    omega
theorem moveIds_nodup {L s n : Nat} (h : s + n ≤ L) : (moveIds L s n).Nodup := by
  unfold moveIds
  rw [List.nodup_append, List.nodup_append]
  refine ⟨⟨List.nodup_range, List.nodup_range', fun a ha b hb => ?_⟩, List.nodup_range', fun a ha b hb => ?_⟩
  · simp at ha hb; omega
  · simp at ha hb; omega
end Go.Ev
