/-
  THE EVALUATOR, PART 22: one operation, put together.
-/
import Derived.Test.YtpkhhaolkfaoaaaHpExA
set_option linter.unusedVariables false
set_option linter.unusedSimpArgs false
set_option linter.unusedSectionVars false
namespace Go.Ev

section
variable {cx : Cx} {Fb : Nat → Nat → Prop} {β : List Loc} {st : St} {a : Act} {w : World}

theorem aop_sim (hok : cx.ok = true) (h : Rel cx Fb β st a w) (hFb : ∀ b off, Fb b off → b < w.heap.size) {R : Type} {κ : St → Option R} {r : R} {K : Act → World → Prop} {Q : Exit → Act → World → Prop} {ro : Option Nat} {n : Nat} {o : Oper}
    (O : Orc cx) (hK : After cx Fb β st a w κ r K) (hcall : ∀ c f, o.op = .call c → c.callee = .value f → o.wpIn (FW ro) n cx.prog a w K Q)
    (hr : aop cx O o st κ = some r) : o.wpIn (FW ro) n cx.prog a w K Q := by
  cases hop : o.op
  case move x =>
    simp only [aop, aopV, hop] at hr
    exact wp_value (by simp [hop]) (v := a.eval x) (by simp [execOp, hop]) (hK.same h hr (h.ev x))
  case assign x =>
    have plain : κ (st.put o.dst (st.ev x)) = some r → o.wpIn (FW ro) n cx.prog a w K Q := fun hr =>
      wp_value (by simp [hop]) (v := a.eval x) (by simp [execOp, hop]) (hK.same h hr (h.ev x))
    simp only [aop, aopV, hop] at hr
    split at hr
    · rename_i e
      split at hr
      · rename_i t _ _ _ hk
        have hx := h.ev x
        rw [e] at hx
        generalize hv : a.eval x = v at hx
        cases hx
        obtain ⟨A, R⟩ := h.nilRow hFb t false
        exact wp_value (by simp [hop]) (v := .slice none 0 0) (by simp [execOp, hop, hv]) (hK.moved A R hr (own_last (l := .nil) rfl h.len))
      · exact plain (by rw [e]; exact hr)
    · exact plain hr
  case pick c x y => exact pick_op h hK hop O hr
  case alloc e =>
    simp only [aop, aopV, hop] at hr
    have one : ∀ {z : AVal} {k : Option Ty}, oneB cx.prog e z = true → κ ((st.push (.box (ownNils (st.objs.length + 1) [k] [z]).1 :: (ownNils (st.objs.length + 1) [k] [z]).2)).put o.dst (.ptr st.objs.length 0)) = some r → o.wpIn (FW ro) n cx.prog a w K Q := by
      intro z k hz hr
      obtain ⟨i, v, hi, hs, hz, h1, h2⟩ := k_one hz
      exact alloc_op hok h hFb hK hop hi hz (ss := [k]) (zs := [z]) rfl (one_zero (P := cx.prog) (t := e) (i := i) h1 h2) hr
    split at hr
    · rename_i hk; exact one (k := none) (k_int hok hk).2 hr
    · rename_i hk; exact one (k := none) (k_bool hok hk).2 hr
    · rename_i hk; exact one (k := none) (k_str hok hk).2 hr
    · rename_i t _ _ _ hk; exact one (k := some t) (k_sl hok hk).2.1 hr
    · rename_i hk; exact one (k := none) (k_ptr hok hk).2 hr
    · rename_i hk; exact one (k := none) (k_fn hok hk).2 hr
    · rename_i hk; exact one (k := none) (k_mp hok hk).2 hr
    · rename_i fs sz ss z eq hk
      obtain ⟨_, ⟨i, zz, hi, hs, hz, hzz, hzs, hss⟩, _⟩ := k_st hok hk
      have := (zerosB_len hzz).1
      exact alloc_op hok h hFb hK hop hi hz (by simp at this; omega) hzz hr
    · cases hr
  case box e x =>
    simp only [aop, aopV, hop, cond_eq_ite] at hr
    split at hr
    · exact box_op h hFb hK hop (by assumption) hr
    · cases hr
  case build t parts =>
    simp only [aop, aopV, hop] at hr
    split at hr
    · rename_i hk
      obtain ⟨ps, hps, hr⟩ := Option.bind_eq_some_iff.1 hr
      obtain ⟨cs, hcs, hr⟩ := Option.bind_eq_some_iff.1 hr
      obtain ⟨v, h1, h2⟩ := build_run hok h hk hps hcs
      exact wp_value (by simp [hop]) (by simp only [execOp, hop, h1, Sem.run_bind, Result.andThen_ok]; rfl) (hK.same h hr h2)
    · cases hr
  case buildSlice t len parts =>
    simp only [aop, aopV, hop] at hr
    split at hr
    · rename_i ty _ _ _ hk
      simp only [cond_eq_ite, Bool.and_eq_true, beq_iff_eq, decide_eq_true_eq] at hr
      split at hr
      · rename_i hc
        obtain ⟨xs, hxs, hr⟩ := Option.bind_eq_some_iff.1 hr
        obtain ⟨v, β', w', h1, A, R, hv⟩ := buildSlice_sim hok h hFb hk hc.1 hc.2 hxs
        exact wp_value (by simp [hop]) (by simp only [execOp, hop, h1, Sem.run_bind, Result.andThen_ok]; rfl) (hK.moved A R hr hv)
      · cases hr
    · cases hr
  case load t x =>
    have key : ∀ z, (match st.ev x with
      | .ptr id off => match objAt st.objs id with
        | .box cs => loadAs (cx.kind t) (cs.drop off)
        | _ => none
      | .ref cs => loadAs (cx.kind t) cs
      | .aref id i off => match objAt st.objs id with
        | .arr ty _ xs => (xs[i]?).bind fun x => loadAs (cx.kind t) ((cells ty x).drop off)
        | _ => none
      | _ => none) = some z → κ (st.put o.dst z) = some r → o.wpIn (FW ro) n cx.prog a w K Q := by
      intro z hz hr
      obtain ⟨u, h1, h2⟩ := load_run hok h hz (h.ev x)
      exact wp_value (by simp [hop]) (by simp only [execOp, hop, h1, Sem.run_bind, Result.andThen_ok]; rfl) (hK.same h hr h2)
    simp only [aop, aopV, hop] at hr
    split at hr
    · rename_i id off e
      split at hr
      · rename_i cs ho
        obtain ⟨z, hz, hr⟩ := Option.bind_eq_some_iff.1 hr
        exact key z (by simp only [e, ho]; exact hz) hr
      · cases hr
    · rename_i cs e
      obtain ⟨z, hz, hr⟩ := Option.bind_eq_some_iff.1 hr
      exact key z (by simp only [e]; exact hz) hr
    · rename_i id i off e
      split at hr
      · rename_i ty sh xs ho
        obtain ⟨d, hd, hr⟩ := Option.bind_eq_some_iff.1 hr
        obtain ⟨z, hz, hr⟩ := Option.bind_eq_some_iff.1 hr
        exact key z (by simp only [e, ho, hd, Option.bind_some]; exact hz) hr
      · cases hr
    · cases hr
  case store t p x => exact store_op hok h hK hop O hr
  case nilCheck x => exact nilCheck_op h hK hop O hr
  case binOp op t x y p =>
    simp only [aop, aopV, hop, cond_eq_ite] at hr
    split at hr
    · cases hr
    rename_i hbad
    obtain ⟨z, hz, hr⟩ := Option.bind_eq_some_iff.1 hr
    obtain ⟨u, h1, h2⟩ := abin_run hok (abinF_eq (by simpa using hbad) hz) (h.ev x) (h.ev y) x y
    exact wp_value (by simp [hop]) (v := u) (by
      have e : (execOp a.eval o) = (do pure (.value (← (do eqGuard op t x y (a.eval x) (a.eval y); binOp op t (a.eval x) (a.eval y) : Sem Value))) : Sem Next) := by simp only [execOp, hop]
      rw [e, Sem.run_bind, h1]; rfl) (hK.same h hr h2)
  case unOp op t x =>
    simp only [aop, aopV, hop] at hr
    obtain ⟨z, hz, hr⟩ := Option.bind_eq_some_iff.1 hr
    obtain ⟨u, h1, h2⟩ := aun_run (cx := cx) hz (h.ev x)
    exact wp_value (by simp [hop]) (by simp only [execOp, hop, h1, Sem.run_bind, Result.andThen_ok]; rfl) (hK.same h hr h2)
  case convert s d x => exact convert_op hok h hFb hK hop O hr
  case slice t x lo hi mx => exact slice_op hok h hK hop O hr
  case makeSlice t l c => exact make_op hok h hFb hK hop O hr
  case fieldAddr s x f =>
    simp only [aop, aopV, hop, cond_eq_ite] at hr
    split at hr
    · rename_i hl
      obtain ⟨⟨off, t⟩, h1, hr⟩ := Option.bind_eq_some_iff.1 hr
      obtain ⟨z, hz, hr⟩ := Option.bind_eq_some_iff.1 hr
      obtain ⟨ad, hv, h2⟩ := dropRef_rel h (h.ev x) hl hz
      exact wp_value (by simp [hop]) (by simp only [execOp, hop, hv, fieldAt_run hok h1, Sem.run_bind, Result.andThen_ok]; rfl) (hK.same h hr h2)
    · cases hr
  case field s x f =>
    simp only [aop, aopV, hop] at hr
    split at hr
    · rename_i cs e
      obtain ⟨⟨off, t⟩, h1, hr1⟩ := Option.bind_eq_some_iff.1 hr
      obtain ⟨z, hz, hr2⟩ := Option.bind_eq_some_iff.1 hr1
      clear hr hr1
      obtain ⟨fields, fl, j, hu, h3, rfl, rfl, h4, h5⟩ := k_field hok h1
      have hx := h.ev x
      rw [e] at hx
      generalize hv : a.eval x = v at hx
      cases hx with | agg hl hrr =>
      obtain ⟨u, h6, h7⟩ := part_run hok (w := w) (cs := cs) ⟨hl, hrr⟩ hz
      exact wp_value (by simp [hop]) (v := u) (by simp [execOp, hop, hv, Instr.field, run_underlying' hu, h3, asAgg, h6]) (hK.same h hr2 h7)
    · cases hr
  case indexAddr t x i => exact indexAddr_op hok h hK hop O hr
  case index t x i => exact index_op hok h hK hop O hr
  case extract x i =>
    simp only [aop, aopV, hop] at hr
    split at hr
    · rename_i vs e
      obtain ⟨z, hz, hr⟩ := Option.bind_eq_some_iff.1 hr
      have hx := h.ev x
      rw [e] at hx
      generalize hv : a.eval x = v at hx
      cases hx with | tup hl hrr =>
      rename_i us
      have hi : i < us.size := by rw [← hl]; exact (List.getElem?_eq_some_iff.1 hz).1
      exact wp_value (by simp [hop]) (v := us[i]) (by simp [execOp, hop, hv, Instr.extract, hi]) (hK.same h hr (hrr i z _ hz (by simp [hi])))
    · cases hr
  case makeFunc fn first caps =>
    cases fn <;> first | (simp only [aop, aopV, hop] at hr; cases hr; done) | skip
    rename_i f
    simp only [aop, aopV, hop, cond_eq_ite, beq_iff_eq] at hr
    split at hr
    · rename_i hf
      have hf' : first = #[] := Array.eq_empty_of_size_eq_zero hf
      subst hf'
      refine wp_value (by simp [hop]) (v := .func (.func f) #[] (caps.map a.eval)) (by simp [execOp, hop, Instr.makeFunc]) (hK.same h hr (.clo (by simp) fun i c v hc hv => ?_))
      obtain ⟨x, hx, rfl⟩ := getElem?_map_some hc
      simp at hx
      simp [hx] at hv
      subst hv
      exact h.ev x
    · cases hr
  case call c =>
    cases hb : c.callee with
    | value f => exact hcall c f hop hb
    | invoke x m => simp only [aop, aopV, hop, hb] at hr; cases hr
    | builtin b =>
      cases b <;> first | (simp only [aop, aopV, hop, hb] at hr; cases hr; done) | skip
      · exact append_op hok h hFb hK hop hb O hr
      · exact copy_op hok h hK hop hb O hr
      · exact len_op hok h hK hop hb O hr
      · exact minmax_op h hK hop (.inl hb) O hr
      · exact minmax_op h hK hop (.inr hb) O hr
  case makeMap t x => exact makeMap_op h hFb hK hop O hr
  case lookup t x i ok => exact lookup_op hok h hK hop O hr
  case mapUpdate t m k x => exact mapUpdate_op hok h hK hop O hr
  case range t x => exact range_op hok h hFb hK hop O hr
  case next x str => exact next_op h hK hop O hr
  all_goals (simp only [aop, aopV, hop] at hr; cases hr)
end
end Go.Ev
