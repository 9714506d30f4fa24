/-
  THE EVALUATOR, PART 21: one operation, put together; calls of functions as a premise.
-/
import Derived.Test.YtefjllkagobgiaaHpEvT
set_option linter.unusedVariables false
set_option linter.unusedSimpArgs false
set_option linter.unusedSectionVars false
namespace Go.Ev

section
variable {cx : Cx} {Fb : Nat → Nat → Prop} {β : List Loc} {st : St} {a : Act} {w : World}

theorem builtin_run {P : Program} {o : Oper} {c : Call} {b : Builtin} (hop : o.op = .call c) (hb : c.callee = .builtin b) {ρ : Operand → Value} {v : Value} {w w' : World}
    (h : (builtin b c.argTypes o.type (c.args.map fun | .const _ => true | _ => false) (c.args.map ρ)).run P w = .ok (.value v) w') : (execOp ρ o).run P w = .ok (.value v) w' := by
  simp only [execOp, hop, resolve, hb, Sem.run_bind, Sem.run_pure, Result.andThen_ok]
  exact h

theorem toArr1 {α : Type} {a : Array α} {x : α} (h : a.toList = [x]) : a = #[x] := by apply Array.toList_inj.1; simpa using h
theorem toArr2 {α : Type} {a : Array α} {x y : α} (h : a.toList = [x, y]) : a = #[x, y] := by apply Array.toList_inj.1; simpa using h

theorem len_op (hok : cx.ok = true) (h : Rel cx Fb β st a w) {R : Type} {κ : St → Option R} {r : R} {K : Act → World → Prop} {Q : Exit → Act → World → Prop} {ro : Option Nat} {n : Nat} {o : Oper}
    (hK : After cx Fb β st a w κ r K) {c : Call} (hop : o.op = .call c) (hb : c.callee = .builtin .len) (O : Orc cx) (hr : aop cx O o st κ = some r) : o.wpIn (FW ro) n cx.prog a w K Q := by
  simp only [aop, aopV, hop, hb] at hr
  split at hr
  · rename_i x t e1 e2
    obtain ⟨m, hm, hr⟩ := Option.bind_eq_some_iff.1 hr
    have hx := h.ev x
    have fin : (Builtin.len_ c.argTypes o.type (c.args.map a.eval)).run cx.prog w = .ok (.int .i64 m) w := by
      rw [toArr1 e1, toArr1 e2]
      unfold lenOf at hm
      split at hm
      · rename_i s hk e
        cases hm
        rw [e] at hx
        generalize hv : a.eval x = v at hx
        cases hx
        have hs : (⟨s.toArray⟩ : ByteArray).size = s.length := by simp [ByteArray.size]
        simp [Builtin.len_, run_underlying' (k_str hok hk).1, hv, goInt, hs]
      · rename_i ty q sz bytes hk e
        cases hm
        rw [e] at hx
        generalize hv : a.eval x = v at hx
        cases hx
        simp [Builtin.len_, run_underlying' (k_sl hok hk).1, hv, goInt]
      · rename_i ty q sz bytes t' full xs hk e
        cases hm
        rw [e] at hx
        generalize hv : a.eval x = v at hx
        cases hx <;> simp [Builtin.len_, run_underlying' (k_sl hok hk).1, hv, goInt]
      · rename_i ty q sz bytes id hk e
        split at hm
        · rename_i t' sh xs ho
          cases hm
          rw [e] at hx
          generalize hv : a.eval x = v at hx
          cases hx with | own hid one hva =>
          have := hva t' sh xs β[id] (objAt_some ho rfl) (by simp [hid])
          subst this
          have hob := h.obj id _ β[id] (objAt_some ho rfl) (by simp [hid])
          cases hl : β[id] with
          | nil =>
            rw [hl] at hob hv
            have hob : xs = [] := hob
            subst hob
            simp [Builtin.len_, run_underlying' (k_sl hok hk).1, hv, goInt, ownVal]
          | «at» b cap =>
            rw [hl] at hv
            simp [Builtin.len_, run_underlying' (k_sl hok hk).1, hv, goInt, ownVal]
        · cases hm
      · cases hm
    exact wp_value (by simp [hop]) (builtin_run hop hb (by simp [builtin, fin])) (hK.same h hr (.int (by simp)))
  · cases hr

theorem minmax_op (h : Rel cx Fb β st a w) {R : Type} {κ : St → Option R} {r : R} {K : Act → World → Prop} {Q : Exit → Act → World → Prop} {ro : Option Nat} {n : Nat} {o : Oper}
    (hK : After cx Fb β st a w κ r K) {c : Call} (hop : o.op = .call c) (hb : c.callee = .builtin .max ∨ c.callee = .builtin .min) (O : Orc cx) (hr : aop cx O o st κ = some r) : o.wpIn (FW ro) n cx.prog a w K Q := by
  have ints : ∀ {k : IntKind} {m l : Int} {p : Prop} [Decidable p], (k = .u8 → 0 ≤ m ∧ m < 256) → (k = .u8 → 0 ≤ l ∧ l < 256) → (k = .u8 → 0 ≤ (if p then l else m) ∧ (if p then l else m) < 256) := by
    intro k m l p _ h1 h2 h3
    split
    · exact h2 h3
    · exact h1 h3
  rcases hb with hb | hb
  all_goals
    simp only [aop, aopV, hop, hb] at hr
    split at hr
    · rename_i x y e1
      split at hr
      · rename_i k m k' l ex ey
        simp only [cond_eq_ite, decide_eq_true_eq] at hr
        split at hr
        · rename_i hk
          subst hk
          have hx := h.ev x
          have hy := h.ev y
          rw [ex] at hx; rw [ey] at hy
          generalize hvx : a.eval x = vx at hx
          generalize hvy : a.eval y = vy at hy
          cases hx with | int h1 =>
          cases hy with | int h2 =>
          first
            | exact wp_value (by simp [hop]) (v := .int k (if l > m then l else m)) (builtin_run hop hb (by rw [toArr2 e1]; simp [builtin, Builtin.max_, Builtin.max2, hvx, hvy])) (hK.same h hr (.int (ints h1 h2)))
            | exact wp_value (by simp [hop]) (v := .int k (if l < m then l else m)) (builtin_run hop hb (by rw [toArr2 e1]; simp [builtin, Builtin.min_, Builtin.min2, hvx, hvy])) (hK.same h hr (.int (ints h1 h2)))
        · cases hr
      · cases hr
    · cases hr

theorem append_op (hok : cx.ok = true) (h : Rel cx Fb β st a w) (hFb : ∀ b off, Fb b off → b < w.heap.size) {R : Type} {κ : St → Option R} {r : R} {K : Act → World → Prop} {Q : Exit → Act → World → Prop} {ro : Option Nat} {n : Nat} {o : Oper}
    (hK : After cx Fb β st a w κ r K) {c : Call} (hop : o.op = .call c) (hb : c.callee = .builtin .append) (O : Orc cx) (hr : aop cx O o st κ = some r) : o.wpIn (FW ro) n cx.prog a w K Q := by
  simp only [aop, aopV, hop, hb] at hr
  split at hr
  · rename_i x y t t2 e1 e2
    split at hr
    · rename_i ty e sz bytes hk
      obtain ⟨ys, hys, hr⟩ := Option.bind_eq_some_iff.1 hr
      obtain ⟨f, hsrc⟩ := srcOf hok h hys (h.ev y)
      have fin : ∀ {v' : Value} {w' : World}, (Builtin.append_ #[t, t2] o.type #[a.eval x, a.eval y]).run cx.prog w = .ok v' w' → (execOp a.eval o).run cx.prog w = .ok (.value v') w' := by
        intro v' w' hrun
        refine builtin_run hop hb ?_
        rw [toArr2 e1, toArr2 e2]
        simp [builtin, hrun]
      have hx := h.ev x
      split at hr
      · rename_i ex
        rw [ex] at hx
        simp only [cond_eq_ite, decide_eq_true_eq] at hr
        split at hr
        · rename_i hle
          generalize hv : a.eval x = v at hx
          cases hx
          obtain ⟨v', β', w', hrun, A, R, hv'⟩ := append_new (ty' := o.type) hok h hFb hk (xs := []) (A := none) (cap := 0) (g := fun _ => undef) ⟨fun _ => rfl, by simp, by intro i x j c h; simp at h⟩ hsrc (.inr ⟨rfl, rfl⟩) (by simpa using hle)
          exact wp_value (by simp [hop]) (fin (by rw [hv]; exact hrun)) (hK.moved A R hr hv')
        · cases hr
      · rename_i ty' xs ex
        rw [ex] at hx
        split at hr
        · rename_i ht
          subst ht
          simp only [cond_eq_ite, Bool.and_eq_true, decide_eq_true_eq] at hr
          split at hr
          · rename_i hle
            have hrow := rowOf h hx (xs := xs) (by simp [toList, fixS])
            obtain ⟨A, cap, g, hv, hcap, hrow⟩ := hrow
            have hc : cap < xs.length + ys.length ∨ (A = none ∧ cap = 0) := by
              rw [hv] at hx
              cases hx with
              | sl0 => exact .inr ⟨rfl, rfl⟩
              | sl val h1 h2 _ _ => have := h2 rfl; exact .inl (by omega)
            obtain ⟨v', β', w', hrun, A, R, hv'⟩ := append_new (ty' := o.type) hok h hFb hk hrow hsrc hc hle.1
            exact wp_value (by simp [hop]) (fin (by rw [hv]; exact hrun)) (hK.moved A R hr hv')
          · cases hr
        · cases hr
      · rename_i id ex
        rw [ex] at hx
        split at hr
        · rename_i ty' sh xs ho
          split at hr
          · rename_i ht
            subst ht
            simp only [cond_eq_ite, decide_eq_true_eq] at hr
            split at hr
            · rename_i hle
              obtain ⟨v', β', w', hrun, A, R, hv⟩ := append_own hok h hFb hk hx (objAt_some ho rfl) hsrc hle
              exact wp_value (by simp [hop]) (fin hrun) (hK.moved A R hr hv)
            · cases hr
          · cases hr
        · cases hr
      · cases hr
    · cases hr
  · cases hr
end
end Go.Ev
