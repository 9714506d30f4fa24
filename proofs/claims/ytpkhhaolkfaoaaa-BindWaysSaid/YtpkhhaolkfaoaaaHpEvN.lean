/-
  THE EVALUATOR, PART 14: one operation, calls apart.
-/
import Derived.Test.YtpkhhaolkfaoaaaHpEvM
set_option linter.unusedVariables false
set_option linter.unusedSimpArgs false
set_option linter.unusedSectionVars false
namespace Go.Ev

/-- The fence that lets all in. -/
def FW (ro : Option Nat) : Fence := { Fence.wide with round := ro }
theorem FW_fn (ro : Option Nat) (f : FuncId) : (FW ro).fn f := trivial
theorem FW_depth (ro : Option Nat) (n : Nat) : (FW ro).depth.isSome = true → 1 ≤ n := by simp [FW, Fence.wide]
theorem FW_none : FW none = Fence.wide := rfl
theorem FW_inRound (ro : Option Nat) (l : Nat) : (FW ro).inRound l = FW (some l) := rfl

section
variable {cx : Cx} {ro : Option Nat} {n : Nat} {o : Oper} {a : Act} {w w' : World} {K : Act → World → Prop} {Q : Exit → Act → World → Prop}
theorem wp_value {v : Value} (hd : ∀ c, o.op ≠ .defer c) (hrun : (execOp a.eval o).run cx.prog w = .ok (.value v) w') (hK : K (a.put o.dst v) w') : o.wpIn (FW ro) n cx.prog a w K Q :=
  ⟨fun _ _ => trivial, by rw [Oper.semAt_eq _ _ _ hd, hrun]; exact hK⟩
theorem wp_skip {hd : ∀ c, o.op ≠ .defer c} (hrun : (execOp a.eval o).run cx.prog w = .ok .skip w') (hK : K (a.put o.dst undef) w') : o.wpIn (FW ro) n cx.prog a w K Q :=
  ⟨fun _ _ => trivial, by rw [Oper.semAt_eq _ _ _ hd, hrun]; exact hK⟩
end

theorem put_defers (a : Act) (d : Option Nat) (v : Value) : (a.put d v).defers = a.defers := by cases d <;> rfl

section
variable {cx : Cx} {Fb : Nat → Nat → Prop} {β : List Loc} {st : St} {a : Act} {w : World}

/-- What one operation must come to. -/
def After (cx : Cx) (Fb : Nat → Nat → Prop) (β : List Loc) (st : St) (a : Act) (w : World) {R : Type} (κ : St → Option R) (r : R) (K : Act → World → Prop) : Prop :=
  ∀ β' st' a' w', κ st' = some r → Adv β st.objs w β' st'.objs w' → Rel cx Fb β' st' a' w' → a'.defers = a.defers → K a' w'

theorem After.same {R : Type} {κ : St → Option R} {r : R} {K : Act → World → Prop} (hK : After cx Fb β st a w κ r K) (h : Rel cx Fb β st a w) {d : Option Nat} {c : AVal} {v : Value}
    (hr : κ (st.put d c) = some r) (hv : RelV β st.objs w (NN Fb β st.objs) c v) : K (a.put d v) w :=
  hK β _ _ _ hr (by rw [put_objs]; exact .refl _ _ _) (h.put d hv) (put_defers _ _ _)
theorem After.moved {R : Type} {κ : St → Option R} {r : R} {K : Act → World → Prop} (hK : After cx Fb β st a w κ r K) {β' : List Loc} {st' : St} {w' : World} (A : Adv β st.objs w β' st'.objs w') (h : Rel cx Fb β' st' a w')
    {d : Option Nat} {c : AVal} {v : Value} (hr : κ (st'.put d c) = some r) (hv : RelV β' st'.objs w' (NN Fb β' st'.objs) c v) : K (a.put d v) w' :=
  hK β' _ _ _ hr (by rw [put_objs]; exact A) (h.put d hv) (put_defers _ _ _)

theorem relV_undef {objs : List AObj} {N : Nat → Nat → Prop} : RelV β objs w N (.tup []) undef := .tup rfl (by simp)
theorem zeroB_rel {objs : List AObj} {N : Nat → Nat → Prop} {c : AVal} {v : Value} (h : zeroB c v = true) : RelV β objs w N c v := by
  unfold zeroB at h
  split at h <;> first | (cases h; done) | skip
  · exact .undef _
  · simp only [Bool.and_eq_true, decide_eq_true_eq, beq_iff_eq] at h
    obtain ⟨⟨rfl, rfl⟩, rfl⟩ := h
    exact .int fun _ => ⟨by omega, by omega⟩
  · simp only [beq_iff_eq] at h
    subst h; exact .bool _
  · rename_i s
    simp only [beq_iff_eq] at h
    have : s = ⟨([] : Bytes).toArray⟩ := by
      cases s with | mk d =>
      have : d.size = 0 := h
      congr 1
      exact Array.eq_empty_of_size_eq_zero this
    rw [this]; exact .str _
  · exact .nils
  · exact .nilp
  · exact .nilf
  · exact .nilm
theorem zerosB_len : ∀ {cs : List AVal} {vs : List Value}, zerosB cs vs = true → cs.length = vs.length ∧ ∀ (i : Nat) c v, cs[i]? = some c → vs[i]? = some v → zeroB c v = true
  | [], [], _ => ⟨rfl, by simp⟩
  | c :: cs, v :: vs, h => by
    simp only [zerosB, Bool.and_eq_true] at h
    obtain ⟨l, ih⟩ := zerosB_len h.2
    refine ⟨by simp [l], fun i d u hd hu => ?_⟩
    cases i with
    | zero => simp at hd hu; subst hd; subst hu; exact h.1
    | succ i => exact ih i d u (by simpa using hd) (by simpa using hu)
  | [], _ :: _, h => by simp [zerosB] at h
  | _ :: _, [], h => by simp [zerosB] at h

theorem ownNils_spec : ∀ (ss : List (Option Ty)) (z : List AVal) (n : Nat), ss.length = z.length →
    (ownNils n ss z).1.length = z.length ∧ (∀ o ∈ (ownNils n ss z).2, ∃ t, o = .arr t false []) ∧
    ∀ (i : Nat) (c : AVal), (ownNils n ss z).1[i]? = some c → z[i]? = some c ∨ (z[i]? = some .nils ∧ ∃ k t, k < (ownNils n ss z).2.length ∧ c = .own (n + k) ∧ (ownNils n ss z).2[k]? = some (.arr t false []))
  | [], [], _, _ => ⟨rfl, by simp [ownNils], by simp [ownNils]⟩
  | [], _ :: _, _, h => by simp at h
  | _ :: _, [], _, h => by simp at h
  | s :: ss, v :: z, n, h => by
    have h' : ss.length = z.length := by simpa using h
    have plain : ownNils n (s :: ss) (v :: z) = (v :: (ownNils n ss z).1, (ownNils n ss z).2) →
        (ownNils n (s :: ss) (v :: z)).1.length = (v :: z).length ∧ (∀ o ∈ (ownNils n (s :: ss) (v :: z)).2, ∃ t, o = .arr t false []) ∧
        ∀ (i : Nat) (c : AVal), (ownNils n (s :: ss) (v :: z)).1[i]? = some c → (v :: z)[i]? = some c ∨ ((v :: z)[i]? = some .nils ∧ ∃ k t, k < (ownNils n (s :: ss) (v :: z)).2.length ∧ c = .own (n + k) ∧ (ownNils n (s :: ss) (v :: z)).2[k]? = some (.arr t false [])) := by
      intro e
      obtain ⟨l, h1, h2⟩ := ownNils_spec ss z n h'
      rw [e]
      refine ⟨by simp [l], h1, fun i c hc => ?_⟩
      cases i with
      | zero => simp at hc; subst hc; exact .inl rfl
      | succ i => simpa using h2 i c (by simpa using hc)
    cases s with
    | none => exact plain (by cases v <;> rfl)
    | some t =>
      by_cases hv : v = .nils
      · subst hv
        obtain ⟨l, h1, h2⟩ := ownNils_spec ss z (n + 1) h'
        simp only [ownNils]
        refine ⟨by simp [l], fun o ho => ?_, fun i c hc => ?_⟩
        · simp at ho
          rcases ho with rfl | ho
          · exact ⟨t, rfl⟩
          · exact h1 o ho
        · cases i with
          | zero => simp at hc; subst hc; exact .inr ⟨rfl, 0, t, by simp, rfl, rfl⟩
          | succ i =>
            rcases h2 i c (by simpa using hc) with h3 | ⟨h3, k, t', h4, h5, h6⟩
            · exact .inl (by simpa using h3)
            · exact .inr ⟨by simpa using h3, k + 1, t', by simpa using h4, by rw [h5]; congr 1; omega, by simpa using h6⟩
      · exact plain (by cases v <;> first | rfl | exact absurd rfl hv)

/-- A new variable with its zero value. -/
theorem alloc_sim (h : Rel cx Fb β st a w) (hFb : ∀ b off, Fb b off → b < w.heap.size) {ss : List (Option Ty)} {zs : List AVal} {z : Value} {i : TypeInfo} {e : Nat} (hi : cx.prog.info? e = some i) (hz : i.zero = some z)
    (hs : ss.length = zs.length) (hzz : zerosB zs z.cells.toList = true) :
    ∃ β' w', (Instr.alloc e true (.tuple #[])).run cx.prog w = .ok (.pointer (some ⟨w.heap.size, 0, none⟩)) w' ∧
      Adv β st.objs w β' (st.objs ++ (.box (ownNils (st.objs.length + 1) ss zs).1 :: (ownNils (st.objs.length + 1) ss zs).2)) w' ∧
      Rel cx Fb β' (st.push (.box (ownNils (st.objs.length + 1) ss zs).1 :: (ownNils (st.objs.length + 1) ss zs).2)) a w' ∧ β'[st.objs.length]? = some (.at w.heap.size 0) := by
  obtain ⟨l1, h1, h2⟩ := ownNils_spec ss zs (st.objs.length + 1) hs
  obtain ⟨l2, hzr⟩ := zerosB_len hzz
  obtain ⟨A, R⟩ := h.box hFb (ownNils (st.objs.length + 1) ss zs).1 z.cells e (ownNils (st.objs.length + 1) ss zs).2 h1 (fun G => ⟨by rw [l1, l2]; simp, fun i c v hc hv => by
    rcases h2 i c hc with h3 | ⟨h3, k, t, hk, rfl, h6⟩
    · exact zeroB_rel (hzr i c v h3 (by simpa using hv))
    · have hzv := hzr i .nils v h3 (by simpa using hv)
      have hv' : v = .slice none 0 0 := by
        unfold zeroB at hzv
        split at hzv <;> first | (cases hzv; done) | (rename_i e1 _; cases e1; done) | skip
        all_goals first | rfl | simp_all
      subst hv'
      refine .own (by simp [h.len]; omega) rfl fun t' sh xs l ho hl => ?_
      rw [List.getElem?_append_right (by omega)] at ho
      have e1 : st.objs.length + 1 + k - st.objs.length = k + 1 := by omega
      rw [e1, List.getElem?_cons_succ, h6] at ho
      rw [List.getElem?_append_right (by rw [h.len]; omega), h.len, e1, List.getElem?_cons_succ] at hl
      simp [List.getElem?_replicate] at hl
      obtain ⟨_, rfl⟩ := hl
      rfl⟩)
  refine ⟨_, _, ?_, A, R, ?_⟩
  · simp [Instr.alloc, run_zeroValue' hi hz, newVar, newRow]
  · rw [← h.len]; simp
end
end Go.Ev
