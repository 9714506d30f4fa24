/-
  THE EVALUATOR, PART 40: operations in any order: what is read is the same.
-/
import Derived.Test.YtpkhhaolkfaoaaaHpEwM
set_option linter.unusedVariables false
set_option linter.unusedSimpArgs false
set_option linter.unusedSectionVars false
namespace Go.Ev

/-! ### Versions -/
section
variable {A : Type} {n : Nat} {V : Nat → Nat → A} {T : Nat → Nat → Prop}
/-- What lies at x is what lay there in the written order when the same ones had come. -/
def VInv (n : Nat) (V : Nat → Nat → A) (T : Nat → Nat → Prop) (D : Nat → Prop) (s : Nat → A) : Prop :=
  ∀ x i, i ≤ n → (∀ k, k < i → T k x → D k) → (∀ k, D k → T k x → k < i) → s x = V i x
theorem ver_same (hV : ∀ k, k < n → ∀ x, ¬ T k x → V (k + 1) x = V k x) {x : Nat} : ∀ (d i : Nat), i + d ≤ n → (∀ k, i ≤ k → k < i + d → ¬ T k x) → V (i + d) x = V i x
  | 0, _, _, _ => rfl
  | d + 1, i, h, hn => by
    rw [← Nat.add_assoc, hV (i + d) (by omega) x (hn _ (by omega) (by omega))]
    exact ver_same hV d i (by omega) fun k h1 h2 => hn k h1 (by omega)
theorem VInv.init (hV : ∀ k, k < n → ∀ x, ¬ T k x → V (k + 1) x = V k x) {D : Nat → Prop} (hD : ∀ k, ¬ D k) {s : Nat → A} (h : ∀ x, s x = V 0 x) : VInv n V T D s := fun x i hi h1 h2 => by
  have := ver_same hV i 0 (by omega) fun k _ hk ht => hD k (h1 k (by omega) ht)
  rw [Nat.zero_add] at this
  rw [h, this]
theorem VInv.read {D : Nat → Prop} {s : Nat → A} (h : VInv n V T D s) (hDn : ∀ k, D k → k < n) {j x : Nat} (hj : j < n) (hnj : ¬ D j) (hc : ∀ k, k < n → k ≠ j → T k x → (k < j → D k) ∧ (j < k → ¬ D k)) : s x = V j x := by
  refine h x j (by omega) (fun k hk ht => (hc k (by omega) (by omega) ht).1 hk) fun k hd ht => ?_
  rcases Nat.lt_trichotomy k j with h1 | h1 | h1
  · exact h1
  · subst h1; exact absurd hd hnj
  · exact absurd hd ((hc k (hDn k hd) (by omega) ht).2 h1)
theorem VInv.step (hV : ∀ k, k < n → ∀ x, ¬ T k x → V (k + 1) x = V k x) {D D' : Nat → Prop} {s s' : Nat → A} (h : VInv n V T D s) {j : Nat} (hj : j < n) (hnj : ¬ D j) (hD : ∀ k, D' k ↔ D k ∨ k = j)
    (hc : ∀ x, T j x → ∀ k, k < n → k ≠ j → T k x → (k < j → D k) ∧ (j < k → ¬ D k)) (h1 : ∀ x, T j x → s' x = V (j + 1) x) (h2 : ∀ x, ¬ T j x → s' x = s x) : VInv n V T D' s' := fun x i hi ha hb => by
  by_cases ht : T j x
  · have hji : j < i := hb j ((hD j).2 (.inr rfl)) ht
    obtain ⟨d, rfl⟩ := Nat.exists_eq_add_of_le (show j + 1 ≤ i from hji)
    rw [h1 x ht, ver_same hV d (j + 1) hi fun k hk1 hk2 hkt => ?_]
    have hk := ha k (by omega) hkt
    rcases (hD k).1 hk with hk | hk
    · exact (hc x ht k (by omega) (by omega) hkt).2 (by omega) hk
    · omega
  · rw [h2 x ht]
    refine h x i hi (fun k hk hkt => ?_) fun k hk hkt => hb k ((hD k).2 (.inl hk)) hkt
    rcases (hD k).1 (ha k hk hkt) with h3 | h3
    · exact h3
    · subst h3; exact absurd hkt ht
theorem VInv.final {D : Nat → Prop} {s : Nat → A} (h : VInv n V T D s) (hDn : ∀ k, D k ↔ k < n) (x : Nat) : s x = V n x := h x n (Nat.le_refl _) (fun k hk _ => (hDn k).2 hk) fun k hk _ => (hDn k).1 hk
end

section
variable {cx : Cx}

/-! ### The run in the written order -/
def guardNo (ops : List Oper) (s : St) (o : Oper) : Prop := ∃ j want d, o.guard = some (j, want) ∧ (ops[j]?).bind (·.dst) = some d ∧ (s.tmps[d]? = some (.bool (!want)) ∨ s.tmps[d]? = some (.tup []))
def guardYes (ops : List Oper) (s : St) (o : Oper) : Prop := o.guard = none ∨ ∃ j want d, o.guard = some (j, want) ∧ (ops[j]?).bind (·.dst) = some d ∧ s.tmps[d]? = some (.bool want)
structure Ran (cx : Cx) (O : Orc cx) (ahead slots : List (List Nat)) (L0 L k : Nat) (o : Oper) (s s' : St) (fp : List Nat × List Nat) : Prop where
  ran : ∃ objs1 v, Lcl O o s.ev s.objs objs1 v ∧ L ≤ objs1.length ∧ objs1.length - L ≤ ((slots[k]?).getD []).length ∧
    s' = ({ s with objs := moveO L (((slots[k]?).getD []).headD L) (objs1.length - L) (wrIds cx s.ev s.objs o) s.objs objs1 } : St).put o.dst (renV 3 (posOf (moveIds L (((slots[k]?).getD []).headD L) (objs1.length - L))) v) ∧
    fits (fun i => decide (i < L0) || (((slots[k]?).getD []) ++ ((ahead[k]?).getD []).flatMap fun j => (slots[j]?).getD []).contains i) 3 (renV 3 (posOf (moveIds L (((slots[k]?).getD []).headD L) (objs1.length - L))) v) = true
  foot : fp = (((slots[k]?).getD [] ++ wrIds cx s.ev s.objs o) ++ rdIds cx s.ev s.objs o, (slots[k]?).getD [] ++ wrIds cx s.ev s.objs o)
  low : ∀ x ∈ fp.2, x < L ∧ fitsO (fun i => decide (i < L0) || (((slots[k]?).getD []) ++ ((ahead[k]?).getD []).flatMap fun j => (slots[j]?).getD []).contains i) (objAt s'.objs x) = true
def Step (cx : Cx) (O : Orc cx) (ops : List Oper) (ahead slots : List (List Nat)) (L0 L k : Nat) (s s' : St) (fp : List Nat × List Nat) : Prop :=
  ∃ o, ops[k]? = some o ∧ ((guardNo ops s o ∧ s' = s.put o.dst (.tup []) ∧ fp = ([], [])) ∨ (guardYes ops s o ∧ Ran cx O ahead slots L0 L k o s s' fp))

theorem clash_spec {ahead : List Nat} {R W : List Nat} : ∀ (fps : List (List Nat × List Nat)) (j : Nat), clash ahead R W j fps = false → ∀ i p, fps[i]? = some p → j + i ∉ ahead → inter p.2 R = false ∧ inter p.1 W = false
  | [], _, _, i, p, h, _ => by simp at h
  | (R', W') :: r, j, h, i, p, hi, hn => by
    unfold clash at h
    simp only [Bool.or_eq_false_iff, Bool.and_eq_false_iff, Bool.not_eq_false'] at h
    cases i with
    | zero =>
      simp at hi
      subst hi
      rcases h.1 with h1 | h1
      · simp at h1; exact absurd h1 hn
      · exact h1
    | succ i => exact clash_spec r (j + 1) h.2 i p (by simpa using hi) (by rw [Nat.add_assoc, Nat.add_comm 1 i]; exact hn)

def Traced (cx : Cx) (O : Orc cx) (ops : List Oper) (ahead slots : List (List Nat)) (L0 L : Nat) {R : Type} (κ : St → Option R) (r : R) (k : Nat) (fps : List (List Nat × List Nat)) (st : St) : Prop :=
  ∃ (V : Nat → St) (fp : Nat → List Nat × List Nat), V k = st ∧ (∀ j, j < k → fps[j]? = some (fp j)) ∧ κ (V ops.length) = some r ∧
      ∀ j, k ≤ j → j < ops.length → Step cx O ops ahead slots L0 L j (V j) (V (j + 1)) (fp j) ∧ ∀ i, i < j → i ∉ (ahead[j]?).getD [] → inter (fp i).2 (fp j).1 = false ∧ inter (fp i).1 (fp j).2 = false
theorem dops_trace {O : Orc cx} (hro : RoOK cx O) (ops : List Oper) (ahead slots : List (List Nat)) (L0 L : Nat) {R : Type} {κ : St → Option R} {r : R} :
    ∀ (rest : List Oper) (k : Nat) (fps : List (List Nat × List Nat)) (st : St), ops.drop k = rest → k + rest.length = ops.length → fps.length = k → st.objs.length = L → dops cx O ops ahead slots L0 L rest k fps st κ = some r →
    Traced cx O ops ahead slots L0 L κ r k fps st
  | [], k, fps, st, hd, hl, hf, hL, h => by
    have hk : k = ops.length := by simpa using hl
    refine ⟨fun _ => st, fun j => (fps[j]?).getD ([], []), rfl, fun j hj => ?_, h, fun j h1 h2 => by omega⟩
    cases hh : fps[j]? with
    | none => simp at hh; omega
    | some p => simp only [hh]; rfl
  | o :: rest, k, fps, st, hd, hl, hf, hL, h => by
    have hok : ops[k]? = some o := by
      have := congrArg List.head? hd
      rw [List.head?_drop] at this
      simpa using this
    have hdrop : ops.drop (k + 1) = rest := by rw [← List.drop_drop, hd]; rfl
    have hlen : k + 1 + rest.length = ops.length := by simp at hl; omega
    -- one more
    have one : ∀ (st1 : St) (p : List Nat × List Nat), st1.objs.length = L → Step cx O ops ahead slots L0 L k st st1 p → (∀ i p', fps[i]? = some p' → i ∉ (ahead[k]?).getD [] → inter p'.2 p.1 = false ∧ inter p'.1 p.2 = false) →
        dops cx O ops ahead slots L0 L rest (k + 1) (fps ++ [p]) st1 κ = some r →
        Traced cx O ops ahead slots L0 L κ r k fps st := by
      intro st1 p hL1 hs hcl h1
      obtain ⟨V, fp, hV, hfp, hκ, hst⟩ := dops_trace hro ops ahead slots L0 L rest (k + 1) (fps ++ [p]) st1 hdrop hlen (by simp [hf]) hL1 h1
      have hpk : fp k = p := by
        have := hfp k (by omega)
        rw [List.getElem?_append_right (by omega), hf] at this
        simpa using this.symm
      have hold : ∀ j, j < k → fps[j]? = some (fp j) := fun j hj => by
        have := hfp j (by omega)
        rwa [List.getElem?_append_left (by omega)] at this
      refine ⟨fun j => if j ≤ k then st else V j, fp, by simp, hold, ?_, fun j h2 h3 => ?_⟩
      · have : ¬ ops.length ≤ k := by omega
        simp only [this, if_false]; exact hκ
      · by_cases e : j = k
        · subst e
          have hn : ¬ j + 1 ≤ j := by omega
          simp only [Nat.le_refl, if_true, hn, if_false, hV, hpk]
          exact ⟨hs, fun i hi hni => hcl i (fp i) (hold i hi) hni⟩
        · have h4 : ¬ j ≤ k := by omega
          have h5 : ¬ j + 1 ≤ k := by omega
          simp only [h4, h5, if_false]
          exact hst j (by omega) h3
    have none1 : ∀ (i : Nat) (p' : List Nat × List Nat), fps[i]? = some p' → i ∉ (ahead[k]?).getD [] → inter p'.2 ([] : List Nat) = false ∧ inter p'.1 ([] : List Nat) = false := fun i p' _ _ => by simp [inter]
    have putL : ∀ (st : St) (d : Option Nat) (v : AVal), (st.put d v).objs = st.objs := fun st d v => by cases d <;> rfl
    unfold dops at h
    simp only [frcS_eq] at h
    generalize hsl : (slots[k]?).getD [] = sl at h
    have skip : guardNo ops st o → dops cx O ops ahead slots L0 L rest (k + 1) (fps ++ [([], [])]) (st.put o.dst (.tup [])) κ = some r → Traced cx O ops ahead slots L0 L κ r k fps st := fun hg h1 =>
      one _ ([], []) (by rw [putL]; exact hL) ⟨o, hok, .inl ⟨hg, rfl, rfl⟩⟩ none1 h1
    have run : guardYes ops st o → (bif clash ((ahead[k]?).getD []) (sl ++ wrIds cx st.ev st.objs o ++ rdIds cx st.ev st.objs o) (sl ++ wrIds cx st.ev st.objs o) 0 fps || !(noYield st.ev o) then none else
        aopV cx O o st.ev st.objs fun objs1 v =>
          bif decide (objs1.length - L ≤ sl.length) && fits (fun i => decide (i < L0) || (sl ++ ((ahead[k]?).getD []).flatMap fun j => (slots[j]?).getD []).contains i) 3 (renV 3 (posOf (moveIds L (sl.headD L) (objs1.length - L))) v) && (sl ++ wrIds cx st.ev st.objs o).all (fun x => decide (x < L) && fitsO (fun i => decide (i < L0) || (sl ++ ((ahead[k]?).getD []).flatMap fun j => (slots[j]?).getD []).contains i) (objAt (moveO L (sl.headD L) (objs1.length - L) (wrIds cx st.ev st.objs o) st.objs objs1) x))
          then dops cx O ops ahead slots L0 L rest (k + 1) (fps ++ [(sl ++ wrIds cx st.ev st.objs o ++ rdIds cx st.ev st.objs o, sl ++ wrIds cx st.ev st.objs o)]) (({ st with objs := moveO L (sl.headD L) (objs1.length - L) (wrIds cx st.ev st.objs o) st.objs objs1 } : St).put o.dst (renV 3 (posOf (moveIds L (sl.headD L) (objs1.length - L))) v)) κ else none) = some r → Traced cx O ops ahead slots L0 L κ r k fps st := fun hg h1 => by
      cases hcl : clash ((ahead[k]?).getD []) (sl ++ wrIds cx st.ev st.objs o ++ rdIds cx st.ev st.objs o) (sl ++ wrIds cx st.ev st.objs o) 0 fps with
      | true => rw [hcl] at h1; cases h1
      | false =>
        cases hny : noYield st.ev o with
        | false => rw [hcl, hny] at h1; cases h1
        | true =>
          rw [hcl, hny] at h1
          simp only [Bool.not_true, Bool.or_false, cond_false] at h1
          obtain ⟨objs1, v, h2, hlen1, hlcl⟩ := goes_one hro hny h1
          simp only [cond_eq_ite] at h2
          split at h2
          · rename_i hc
            simp only [Bool.and_eq_true, decide_eq_true_eq, List.all_eq_true] at hc
            refine one _ _ (by rw [putL]; simp [moveO]) ⟨o, hok, .inr ⟨hg, ⟨⟨objs1, v, hlcl, by omega, by rw [hsl]; exact hc.1.1, by rw [hsl], by rw [hsl]; exact hc.1.2⟩, by rw [hsl], fun x hx => ?_⟩⟩⟩ (fun i p' hi hn => clash_spec fps 0 hcl i p' hi (by rwa [Nat.zero_add])) h2
            rw [putL, hsl]
            exact hc.2 x hx
          · cases h2
    cases hg : o.guard with
    | none =>
      rw [hg] at h
      exact run (.inl hg) h
    | some jw =>
      obtain ⟨j, want⟩ := jw
      rw [hg] at h
      simp only at h
      cases hd2 : (ops[j]?).bind (·.dst) with
      | none => rw [hd2] at h; cases h
      | some d =>
        rw [hd2] at h
        simp only at h
        cases ht : (st.tmps[d]?).getD .undef with
        | bool b =>
          rw [ht] at h
          simp only [cond_eq_ite] at h
          have htd : st.tmps[d]? = some (.bool b) := by
            cases hh : st.tmps[d]? with
            | none => rw [hh] at ht; cases ht
            | some c => rw [hh] at ht; simp at ht; rw [ht]
          have hset : ∀ b', b' = b → st.tmps.set d (.bool b') = st.tmps := fun b' e => by
            subst e
            apply List.ext_getElem?
            intro x
            by_cases e : d = x
            · subst e
              rw [List.getElem?_set_self (List.getElem?_eq_some_iff.1 htd).1, htd]
            · rw [List.getElem?_set_ne e]
          by_cases hb : b = want
          · subst hb
            simp only [beq_self_eq_true, if_true] at h
            simp only [hset b rfl] at h
            exact run (.inr ⟨j, b, d, hg, hd2, htd⟩) (by simpa only [cond_eq_ite] using h)
          · have hb2 : (b == want) = false := by simpa using hb
            simp only [hb2, Bool.false_eq_true, if_false] at h
            simp only [hset (!want) (by cases b <;> cases want <;> simp_all)] at h
            exact skip ⟨j, want, d, hg, hd2, .inl (by rw [htd]; cases b <;> cases want <;> simp_all)⟩ h
        | tup vs =>
          rw [ht] at h
          cases vs with
          | cons _ _ => cases h
          | nil =>
            have htd : st.tmps[d]? = some (.tup []) := by
              cases hh : st.tmps[d]? with
              | none => rw [hh] at ht; cases ht
              | some c => rw [hh] at ht; simp at ht; rw [ht]
            exact skip ⟨j, want, d, hg, hd2, .inr htd⟩ h
        | _ => rw [ht] at h; cases h
end
end Go.Ev
