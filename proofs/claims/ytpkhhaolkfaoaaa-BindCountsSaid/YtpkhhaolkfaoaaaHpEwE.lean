/-
  THE EVALUATOR, PART 31: code.
-/
import Derived.Test.YtpkhhaolkfaoaaaHpEwD
import Derived.Test.YtpkhhaolkfaoaaaHpEwS
import Derived.Test.YtpkhhaolkfaoaaaHpEwQ
import Derived.Scope
set_option linter.unusedVariables false
set_option linter.unusedSimpArgs false
set_option linter.unusedSectionVars false
namespace Go.Ev

section
variable {F : Fence} {n : Nat} {P : Program} {Q : Exit → Act → World → Prop} {a : Act} {w : World}
theorem wpIn_scope_straight {c : Code} (h : c.wpIn F n P (Exit.noGoto Q) a w) : (Code.scope c).wpIn F n P Q a w := by
  intro b k cs hro hb hr
  have h0 : (lone (b.atR a (.code (.scope c) :: k)) cs w).fenced P F := fenced_calm hb hr rfl
  have s0 : step P (lone (b.atR a (.code (.scope c) :: k)) cs w) = .next (lone (b.atR a (.code c :: .inScope c :: k)) cs w) :=
    step_lone_go (by simp [stepG, stepG.exec, Frame.atR])
  obtain ⟨e, a₁, w₁, hq, harr⟩ := h b (.inScope c :: k) cs hro hb hr
  cases e with
  | normal => exact ⟨.normal, a₁, w₁, hq, .head h0 s0 (StepsIn.trans harr (.one (fenced_calm hb hr rfl) (step_lone_go (by simp [stepG, stepG.exec, Frame.atR]))))⟩
  | exit id =>
    have hx : exitTo id (.inScope c :: k) = exitTo id k := by simp [exitTo]
    exact ⟨.exit id, a₁, w₁, hq, fun k' hk => .head h0 s0 (harr.1 k' (by rw [hx]; exact hk)),
      fun hr' hk => let ⟨k₁, h1, h2⟩ := harr.2 hr' (by rw [hx]; exact hk); ⟨k₁, h1, .head h0 s0 h2⟩⟩
  | goto l => exact hq.elim
  | ret => exact ⟨_, a₁, w₁, hq, .of_steps (.one h0 s0) harr⟩
  | panic ch => exact ⟨_, a₁, w₁, hq, .of_steps (.one h0 s0) harr⟩
  | outgrown => exact ⟨_, a₁, w₁, hq, .of_steps (.one h0 s0) harr⟩
end
theorem least {J : Nat → Prop} (h : ∃ k, J k) : ∃ k, J k ∧ ∀ j, J j → k ≤ j := by
  obtain ⟨k, hk⟩ := h
  induction k using Nat.strongRecOn with
  | _ k ih =>
    by_cases hl : ∃ j, j < k ∧ J j
    · obtain ⟨j, hj, hJ⟩ := hl
      exact ih j hj hJ
    · exact ⟨k, hk, fun j hj => Nat.le_of_not_lt fun h => hl ⟨j, h, hj⟩⟩
section
variable {cx : Cx}

theorem loopN_sim {c : Code} {body : (R : Type) → St → (AEx → St → Option R) → Option R} {m : Nat} (hb : Sim cx m body c) {norm : St → St}
    (hn : ∀ {B : Nat} {ro : Option Nat} {Fb : Nat → Nat → Prop} {β β0 : List Loc} {objs0 : List AObj} {w0 w : World} {st : St} {a : Act}, Start B ro Fb β0 objs0 w0 → Inv B cx Fb β0 objs0 w0 β st a w → objs0.length = m → ∃ β', Inv B cx Fb β0 objs0 w0 β' (norm st) a w)
    (k : Nat) : Sim cx m (fun R st κ => loopN (body R) norm k st κ) (.loop c) := by
  intro R st κ r hr B Fb β a w β0 objs0 w0 ro n Q S hm I hQ
  let J : Nat → Act → World → Prop := fun k a w => ∃ (st : St) (β : List Loc), loopN (body R) norm k st κ = some r ∧ Inv B cx Fb β0 objs0 w0 β st a w
  classical
  let μ : Act → World → Nat := fun a w => if h : ∃ k, J k a w then Classical.choose (least h) else 0
  refine wpIn_loop (fun a w => ∃ k, J k a w) μ ⟨k, st, β, hr, I⟩ fun a w hI => ?_
  have hμ : J (μ a w) a w := by
    simp only [μ, dif_pos hI]
    exact (Classical.choose_spec (least hI)).1
  obtain ⟨st1, β1, h1, I1⟩ := hμ
  cases hk : μ a w with
  | zero => rw [hk] at h1; cases h1
  | succ j =>
    rw [hk] at h1
    refine hb R st1 _ r h1 B Fb β1 a w β0 objs0 w0 ro n _ S hm I1 fun e st' β' a' w' hκ I' => ?_
    cases e with
    | normal =>
      simp only [kSeq, frcS_eq] at hκ
      obtain ⟨β2, I2⟩ := hn S I' hm
      have hJ : ∃ k, J k a' w' := ⟨j, norm st', β2, hκ, I2⟩
      refine ⟨hJ, ?_⟩
      have : μ a' w' ≤ j := by
        simp only [μ, dif_pos hJ]
        exact (Classical.choose_spec (least hJ)).2 j ⟨norm st', β2, hκ, I2⟩
      omega
    | exit id => exact hQ _ _ _ _ _ hκ I'
    | goto t => exact hQ _ _ _ _ _ hκ I'
    | ret => exact hQ _ _ _ _ _ hκ I'

theorem aev_sim (hok : cx.ok = true) {O : Orc cx} (hO : OrcOK cx O) (k f m : Nat) : ∀ (c : Code) (p : List Nat), codeAt p (bodyOf cx f) = c → Sim cx m (fun R st κ => aev cx O k f m c p st κ) c := by
  intro c
  induction c with
  | skip => intro p hp R st κ r hr B Fb β a w β0 objs0 w0 ro n Q S hm I hQ; exact wpIn_skip (hQ .normal _ _ _ _ hr I)
  | label l => intro p hp R st κ r hr B Fb β a w β0 objs0 w0 ro n Q S hm I hQ; exact wpIn_label (hQ .normal _ _ _ _ hr I)
  | exit id => intro p hp R st κ r hr B Fb β a w β0 objs0 w0 ro n Q S hm I hQ; exact wpIn_exit (hQ (.exit id) _ _ _ _ hr I)
  | ret => intro p hp R st κ r hr B Fb β a w β0 objs0 w0 ro n Q S hm I hQ; exact wpIn_ret (hQ .ret _ _ _ _ hr I)
  | region id ops draw =>
    intro p hp R st κ r hr B Fb β a w β0 objs0 w0 ro n Q S hm I hQ
    cases draw with
    | true => exact adraw2_sim hok hO S n id (fun st' β' a' w' hκ I' => hQ .normal st' β' a' w' hκ I') I hr
    | false =>
      refine wpIn_region ?_
      have := aops_sim hok hO S n ops (Q := Q) (fun st' β' a' w' hκ I' => hQ .normal st' β' a' w' hκ I') ops.toList 0 rfl (by simp) β st a w I hr
      simpa using this
  | seq x y ihx ihy =>
    intro p hp R st κ r hr B Fb β a w β0 objs0 w0 ro n Q S hm I hQ
    have hx : codeAt (p ++ [0]) (bodyOf cx f) = x := by rw [codeAt_append, hp]; rfl
    have hy : codeAt (p ++ [1]) (bodyOf cx f) = y := by rw [codeAt_append, hp]; rfl
    refine wpIn_seq (ihx (p ++ [0]) hx R st _ r hr B Fb β a w β0 objs0 w0 ro n _ S hm I fun e st' β' a' w' hκ I' => ?_)
    cases e with
    | normal =>
      simp only [kSeq, frcS_eq] at hκ
      obtain ⟨β2, I2⟩ := mask_inv S I' f (p ++ [1]) hm
      exact ihy (p ++ [1]) hy R _ κ r hκ B Fb β2 a' w' β0 objs0 w0 ro n Q S hm I2 hQ
    | exit id => exact hQ _ _ _ _ _ hκ I'
    | goto t => exact hQ _ _ _ _ _ hκ I'
    | ret => exact hQ _ _ _ _ _ hκ I'
  | cond g x y ihx ihy =>
    intro p hp R st κ r hr B Fb β a w β0 objs0 w0 ro n Q S hm I hQ
    have hx : codeAt (p ++ [0]) (bodyOf cx f) = x := by rw [codeAt_append, hp]; rfl
    have hy : codeAt (p ++ [1]) (bodyOf cx f) = y := by rw [codeAt_append, hp]; rfl
    simp only [aev] at hr
    split at hr
    · rename_i t e
      have hg := I.rel.ev g
      rw [e] at hg
      generalize hv : a.eval g = v at hg
      cases hg
      have know : ∀ b, b = t → Inv B cx Fb β0 objs0 w0 β (st.know g b) a w := by
        intro b hb
        subst hb
        cases g with
        | tmp d =>
          refine ⟨⟨⟨by simpa [St.know] using I.rel.tmps.1, fun i c v hc hv' => ?_⟩, I.rel.len, I.rel.obj, I.rel.inj, I.rel.fb⟩, I.adv, I.marks⟩
          simp only [St.know] at hc
          rcases getElem?_set_some hc with ⟨e1, e2, _⟩ | ⟨_, h1⟩
          · subst e1; subst e2
            have : v = .bool b := by
              simp only [Act.eval] at hv
              have hlt := (Array.getElem?_eq_some_iff.1 hv').1
              rw [Array.getD_eq_getD_getElem?, hv'] at hv
              simpa using hv
            subst this
            exact .bool _
          · exact I.rel.tmps.2 i c v h1 hv'
        | _ => exact I
      cases t with
      | true => exact wpIn_cond_true hv (ihx (p ++ [0]) hx R _ κ r hr B Fb β a w β0 objs0 w0 ro n Q S hm (know true rfl) hQ)
      | false => exact wpIn_cond_false hv (ihy (p ++ [1]) hy R _ κ r hr B Fb β a w β0 objs0 w0 ro n Q S hm (know false rfl) hQ)
    · cases hr
  | block id x ihx =>
    intro p hp R st κ r hr B Fb β a w β0 objs0 w0 ro n Q S hm I hQ
    have hx : codeAt (p ++ [0]) (bodyOf cx f) = x := by rw [codeAt_append, hp]; rfl
    refine wpIn_block (ihx (p ++ [0]) hx R st _ r hr B Fb β a w β0 objs0 w0 ro n _ S hm I fun e st' β' a' w' hκ I' => ?_)
    cases e with
    | normal => exact hQ .normal _ _ _ _ hκ I'
    | exit id' =>
      simp only [kBlock, cond_eq_ite, beq_iff_eq] at hκ
      simp only [exOf, Exit.inBlock]
      split at hκ
      · rename_i e; rw [if_pos e]; exact hQ .normal _ _ _ _ hκ I'
      · rename_i e; rw [if_neg e]; exact hQ (.exit id') _ _ _ _ hκ I'
    | goto t => exact hQ _ _ _ _ _ hκ I'
    | ret => exact hQ _ _ _ _ _ hκ I'
  | scope x ihx =>
    intro p hp R st κ r hr B Fb β a w β0 objs0 w0 ro n Q S hm I hQ
    have hx : codeAt (p ++ [0]) (bodyOf cx f) = x := by rw [codeAt_append, hp]; rfl
    refine wpIn_scope_straight (ihx (p ++ [0]) hx R st _ r hr B Fb β a w β0 objs0 w0 ro n _ S hm I fun e st' β' a' w' hκ I' => ?_)
    cases e with
    | normal => exact hQ .normal _ _ _ _ hκ I'
    | exit id' => exact hQ (.exit id') _ _ _ _ hκ I'
    | goto t => cases hκ
    | ret => exact hQ .ret _ _ _ _ hκ I'
  | loop x ihx =>
    intro p hp R st κ r hr B Fb β a w β0 objs0 w0 ro n Q S hm I hQ
    have hx : codeAt (p ++ [0]) (bodyOf cx f) = x := by rw [codeAt_append, hp]; rfl
    obtain ⟨β1, I1⟩ := mask_inv S I f p hm
    simp only [aev, frcS_eq] at hr
    exact loopN_sim (ihx (p ++ [0]) hx) (norm := maskAt cx f p m) (fun S I hm => mask_inv S I f p hm) k R _ κ r hr B Fb β1 a w β0 objs0 w0 ro n Q S hm I1 hQ
  | rangeFunc g ps asg body iha ihb =>
    intro p hp R st κ r hr B Fb β a w β0 objs0 w0 ro n Q S hm I hQ
    obtain ⟨β1, I1⟩ := mask_inv S I f p hm
    simp only [aev, frcS_eq] at hr
    split at hr
    · rename_i gf caps e
      exact rangeFunc_sim hok hO S hp hQ I1 e hr
    · cases hr
  | _ => intros; intro R st κ r hr; cases hr
end
end Go.Ev
