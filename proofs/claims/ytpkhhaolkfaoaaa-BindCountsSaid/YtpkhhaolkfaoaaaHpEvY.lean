/-
  THE EVALUATOR, PART 25: a function's end: what it leaves, decoded and encoded.
-/
import Derived.Test.YtpkhhaolkfaoaaaHpEvX
set_option linter.unusedVariables false
set_option linter.unusedSimpArgs false
set_option linter.unusedSectionVars false
namespace Go.Ev

def Leaf (n : Nat) (mo : List AObj) : LSh → AVal → AVal → Prop
  | .v t, a, e => ∃ y, decV mo t a = some y ∧ e = encV t y
  | .c c, a, e => decC c a = true ∧ belowC n c = true ∧ e = encC c

theorem decTL_get {n : Nat} {mo : List AObj} : ∀ (l : List LSh) (as : List AVal) (x : TL l), decTL n mo l as = some x →
    as.length = l.length ∧ (encTL l x).length = l.length ∧ ∀ (k : Nat) (s : LSh), l[k]? = some s → ∃ a e, as[k]? = some a ∧ (encTL l x)[k]? = some e ∧ Leaf n mo s a e
  | [], [], x, h => ⟨rfl, rfl, by simp⟩
  | [], _ :: _, x, h => by simp [decTL] at h
  | .v t :: l, [], x, h => by simp [decTL] at h
  | .c s :: l, [], x, h => by simp [decTL] at h
  | .v t :: l, a :: as, x, h => by
    obtain ⟨y, hy, h⟩ := Option.bind_eq_some_iff.1 h
    obtain ⟨r, hr, h⟩ := Option.bind_eq_some_iff.1 h
    cases h
    obtain ⟨h1, h2, h3⟩ := decTL_get l as r hr
    refine ⟨by simp [h1], by simp [encTL, h2], fun k s hk => ?_⟩
    cases k with
    | zero => simp at hk; subst hk; exact ⟨a, encV t y, rfl, rfl, y, hy, rfl⟩
    | succ k => simpa [encTL] using h3 k s (by simpa using hk)
  | .c s :: l, a :: as, x, h => by
    simp only [decTL] at h
    cases hc : (decC s a && belowC n s) with
    | false => rw [hc] at h; cases h
    | true =>
      rw [hc] at h
      have h : decTL n mo l as = some x := h
      rw [Bool.and_eq_true] at hc
      obtain ⟨h1, h2, h3⟩ := decTL_get l as x h
      refine ⟨by simp [h1], by simp [encTL, h2], fun k s' hk => ?_⟩
      cases k with
      | zero => simp at hk; subst hk; exact ⟨a, encC s, rfl, rfl, hc.1, hc.2, rfl⟩
      | succ k => simpa [encTL] using h3 k s' (by simpa using hk)

theorem flatO_len {s : OSh} {o : AObj} {ys : List AVal} (h : flatO s o = some ys) : ys.length = s.flat.length := by
  unfold flatO at h
  split at h
  · cases h
  · cases h; rfl
  · simp only [cond_eq_ite, beq_iff_eq] at h
    split at h
    · cases h; assumption
    · cases h
  · simp only [cond_eq_ite] at h
    split at h
    · cases h; rfl
    · cases h
  · simp only [cond_eq_ite] at h
    split at h
    · cases h; rfl
    · cases h
  · simp only [cond_eq_ite] at h
    split at h
    · cases h; rfl
    · cases h
  · cases h

theorem flat_get : ∀ (ss : List OSh) (objs : List AObj) (xs : List AVal), flatOs ss objs = some xs → ss.length ≤ objs.length ∧ xs.length = (ss.flatMap OSh.flat).length ∧
    ∀ (i : Nat) (s : OSh), ss[i]? = some s → ∃ o off ys, objs[i]? = some o ∧ flatO s o = some ys ∧ off + s.flat.length ≤ (ss.flatMap OSh.flat).length ∧
      (∀ j : Nat, j < s.flat.length → (ss.flatMap OSh.flat)[off + j]? = s.flat[j]? ∧ xs[off + j]? = ys[j]?) ∧
      ∀ (orig : List AObj) (k : Nat) (es : List AVal), (buildOs orig ss k es)[i]? = some (buildO (objAt orig (k + i)) s ((es.drop off).take s.flat.length))
  | [], _, xs, h => by cases h; exact ⟨Nat.zero_le _, rfl, by simp⟩
  | s :: ss, [], xs, h => by cases h
  | s :: ss, o :: os, xs, h => by
    obtain ⟨ys, hy, h⟩ := Option.bind_eq_some_iff.1 h
    obtain ⟨zs, hz, h⟩ := Option.bind_eq_some_iff.1 h
    cases h
    have hl := flatO_len hy
    obtain ⟨h1, h2, h3⟩ := flat_get ss os zs hz
    refine ⟨by simpa using h1, by simp [h2, hl], fun i s' hi => ?_⟩
    cases i with
    | zero =>
      simp at hi; subst hi
      refine ⟨o, 0, ys, rfl, hy, by simp, fun j hj => ⟨?_, ?_⟩, fun orig k es => by simp [buildOs]⟩
      · rw [Nat.zero_add, List.flatMap_cons, List.getElem?_append_left hj]
      · rw [Nat.zero_add, List.getElem?_append_left (by omega)]
    | succ i =>
      obtain ⟨o', off, ys', g1, g2, g3, g4, g5⟩ := h3 i s' (by simpa using hi)
      refine ⟨o', s.flat.length + off, ys', by simpa using g1, g2, by rw [List.flatMap_cons, List.length_append]; omega, fun j hj => ⟨?_, ?_⟩, fun orig k es => ?_⟩
      · rw [List.flatMap_cons, List.getElem?_append_right (by omega), show s.flat.length + off + j - s.flat.length = off + j by omega]; exact (g4 j hj).1
      · rw [List.getElem?_append_right (by omega), show s.flat.length + off + j - ys.length = off + j by omega]; exact (g4 j hj).2
      · have := g5 orig (k + 1) (es.drop s.flat.length)
        simp only [buildOs, List.getElem?_cons_succ]
        rw [this, List.drop_drop, show k + 1 + i = k + (i + 1) by omega]
theorem buildOs_length (orig : List AObj) : ∀ (ss : List OSh) (k : Nat) (es : List AVal), (buildOs orig ss k es).length = ss.length
  | [], _, _ => rfl
  | s :: ss, k, es => by simp [buildOs, buildOs_length orig ss]

theorem mask_get : ∀ (ss : List OSh) (objs : List AObj) (i : Nat) (o : AObj), (maskS ss objs)[i]? = some o → alive o = true → objs[i]? = some o ∧ ∀ t, ss[i]? ≠ some (.arr t false)
  | ss, [], i, o, h, _ => by
    cases ss with
    | nil => simp [maskS] at h
    | cons s ss => cases s <;> first | (simp [maskS] at h) | (rename_i t sh; cases sh <;> simp [maskS] at h)
  | [], o' :: os, i, o, h, _ => ⟨by simpa [maskS] using h, by simp⟩
  | s :: ss, o' :: os, i, o, h, ha => by
    by_cases hs : ∃ t, s = .arr t false
    · obtain ⟨t, rfl⟩ := hs
      simp only [maskS] at h
      cases i with
      | zero => simp at h; subst h; cases ha
      | succ i =>
        obtain ⟨h1, h2⟩ := mask_get ss os i o (by simpa using h) ha
        exact ⟨by simpa using h1, by simpa using h2⟩
    · have e : maskS (s :: ss) (o' :: os) = o' :: maskS ss os := by
        cases s with
        | arr t sh => cases sh with
          | false => exact absurd ⟨t, rfl⟩ hs
          | true => rfl
        | _ => rfl
      rw [e] at h
      cases i with
      | zero => simp at h; subst h; exact ⟨rfl, fun t e => hs ⟨t, by simpa using e⟩⟩
      | succ i =>
        obtain ⟨h1, h2⟩ := mask_get ss os i o (by simpa using h) ha
        exact ⟨by simpa using h1, by simpa using h2⟩

section
variable {cx : Cx} {Fb : Nat → Nat → Prop} {β : List Loc} {st : St} {a : Act} {w : World}

def MaskOK (mo objs : List AObj) : Prop := ∀ (id : Nat) (t : Ty) (sh : Bool) (xs : List (T t)), mo[id]? = some (.arr t sh xs) → objs[id]? = some (.arr t true xs)
theorem fixS_mask (h : Rel cx Fb β st a w) {mo : List AObj} (hmo : MaskOK mo st.objs) {s : Option Ty} {c : AVal} {v : Value} (hc : RelV β st.objs w (NN Fb β st.objs) c v) :
    RelV β st.objs w (NN Fb β st.objs) (fixS mo s c) v := by
  cases s with
  | none => unfold fixS; split <;> simp_all
  | some t =>
    unfold fixS
    split
    · cases hc; exact .sl0 _ _
    · rename_i t' id e1
      split
      · rename_i t2 sh xs ho
        cases hb : t2 == t' with
        | false => exact .undef _
        | true =>
          simp only [cond_true]
          exact own_data h hc (hmo _ _ _ _ (objAt_some ho rfl))
      · exact .undef _
    · exact hc.notFull
    · exact hc
theorem fixL_mask (h : Rel cx Fb β st a w) {mo : List AObj} (hmo : MaskOK mo st.objs) (ss : List (Option Ty)) (cs : List AVal) {vs : Array Value} (hr : RelL β st.objs w (NN Fb β st.objs) cs vs) :
    RelL β st.objs w (NN Fb β st.objs) (fixL mo ss cs) vs := by
  obtain ⟨l, hh⟩ := fixL_get (objs := mo) ss cs
  refine ⟨l.trans hr.1, fun i c v hc hv => ?_⟩
  obtain ⟨s, d, hd, rfl⟩ := hh i c hc
  exact fixS_mask h hmo (hr.2 i d v hd hv)
theorem decV_rel (h : Rel cx Fb β st a w) {mo : List AObj} (hmo : MaskOK mo st.objs) {t : LTy} {c : AVal} {y : t.T} {v : Value} (hd : decV mo t c = some y)
    (hc : RelV β st.objs w (NN Fb β st.objs) c v) : RelV β st.objs w (NN Fb β st.objs) (encV t y) v := by
  cases t with
  | int k =>
    cases c <;> first | (cases hd; done) | skip
    rename_i k' m
    have hd : (if k' = k then some m else none) = some y := hd
    split at hd
    · rename_i e; subst e; cases hd; exact hc
    · cases hd
  | bool => cases c <;> first | (cases hd; done) | skip
            cases hd; exact hc
  | str => cases c <;> first | (cases hd; done) | skip
           cases hd; exact hc
  | sl t =>
    have hd : toList mo t c = some y := by cases c <;> exact hd
    have := fixS_mask h hmo (s := some t) hc
    unfold toList at hd
    split at hd
    · rename_i t' full ys e
      split at hd
      · rename_i e2; subst e2; cases hd
        rw [e] at this
        exact this.notFull
      · cases hd
    · cases hd
  | dat t =>
    cases c <;> first | (cases hd; done) | skip
    rename_i cs
    have hd : uncells t (fixL mo (slots t) cs) = some y := hd
    cases hc with | agg hl hr =>
    rename_i vs
    have := (uncells_le hd).rel (fixL_mask h hmo (slots t) cs (vs := vs) ⟨hl, hr⟩)
    exact .agg this.1 this.2

/-- Rows are shared, one by one. -/
theorem shares_list : ∀ (L : List Nat) {β : List Loc} {st : St}, Rel cx Fb β st a w →
    ∃ objsS, Adv β st.objs w β objsS w ∧ Rel cx Fb β { st with objs := objsS } a w ∧ objsS.length = st.objs.length ∧ (∀ i ∈ L, Shared objsS i) ∧ (∀ i, Shared st.objs i → Shared objsS i) ∧
      (∀ (i : Nat) (o : AObj), st.objs[i]? = some o → ∃ o', objsS[i]? = some o' ∧ (i ∉ L → o' = o) ∧ (o' = o ∨ ∃ t xs, o = .arr t false xs ∧ o' = .arr t true xs))
  | [], β, st, h => ⟨st.objs, .refl _ _ _, h, rfl, by simp, fun _ h => h, fun i o ho => ⟨o, ho, fun _ => rfl, .inl rfl⟩⟩
  | k :: L, β, st, h => by
    obtain ⟨A1, R1⟩ := h.shareId k
    obtain ⟨objsS, A2, R2, h1, h2, h3, h4⟩ := shares_list L R1
    refine ⟨objsS, A1.trans A2, R2, by rw [h1]; exact shareId_len _ _, fun i hi => ?_, fun i hi => h3 i (hi.shareId k), fun i o ho => ?_⟩
    · simp only [List.mem_cons] at hi
      rcases hi with rfl | hi
      · exact h3 i (shareId_shared _ _)
      · exact h2 i hi
    · have one : ∃ o1, (shareId k st.objs)[i]? = some o1 ∧ (i ≠ k → o1 = o) ∧ (o1 = o ∨ ∃ t xs, o = .arr t false xs ∧ o1 = .arr t true xs) := by
        unfold shareId
        split
        · rename_i t xs hk
          have hk' := objAt_some hk rfl
          by_cases e : k = i
          · subst e
            rw [hk'] at ho; cases ho
            exact ⟨.arr t true xs, by simp [(List.getElem?_eq_some_iff.1 hk').1], fun h => absurd rfl h, .inr ⟨t, xs, rfl, rfl⟩⟩
          · exact ⟨o, by rw [List.getElem?_set, if_neg e]; exact ho, fun _ => rfl, .inl rfl⟩
        · exact ⟨o, ho, fun _ => rfl, .inl rfl⟩
      obtain ⟨o1, g1, g2, g3⟩ := one
      obtain ⟨o2, k1, k2, k3⟩ := h4 i o1 g1
      refine ⟨o2, k1, fun hn => ?_, ?_⟩
      · simp only [List.mem_cons, not_or] at hn
        rw [k2 hn.2, g2 hn.1]
      · rcases g3 with rfl | ⟨t, xs, rfl, rfl⟩
        · exact k3
        · rcases k3 with rfl | ⟨t', xs', e, _⟩
          · exact .inr ⟨t, xs, rfl, rfl⟩
          · cases e
end
end Go.Ev
