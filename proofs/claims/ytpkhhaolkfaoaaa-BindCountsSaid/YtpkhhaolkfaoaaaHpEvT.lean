/-
  THE EVALUATOR, PART 20: one operation, calls of functions apart.
-/
import Derived.Test.YtpkhhaolkfaoaaaHpEvS
set_option linter.unusedVariables false
set_option linter.unusedSimpArgs false
set_option linter.unusedSectionVars false
namespace Go.Ev

section
variable {cx : Cx} {Fb : Nat → Nat → Prop} {β : List Loc} {st : St} {a : Act} {w : World}

theorem k_field (hok : cx.ok = true) {s f o t : Nat} (h : fieldOff (cx.kind s) f = some (o, t)) : ∃ fields fl j, cx.prog.underlying s = some (.struct fields) ∧ fields[f]? = some fl ∧ fl.offset = o ∧ fl.type = t ∧
    cx.prog.info? t = some j ∧ j.size ≠ 0 := by
  unfold fieldOff at h
  split at h
  · rename_i fs _ _ _ _ hk
    obtain ⟨⟨fields, hu, hfb⟩, _⟩ := k_st hok hk
    obtain ⟨_, hg⟩ := fieldsB_get _ _ hfb
    obtain ⟨fl, j, h1, h2, h3, h4, h5, h6, _⟩ := hg f o t h
    exact ⟨fields, fl, j, hu, by simpa using h1, h2, h3, h4, h6⟩
  · cases h
theorem fieldAt_run (hok : cx.ok = true) {s f o t : Nat} (h : fieldOff (cx.kind s) f = some (o, t)) (ad : Addr) : (Instr.fieldAt s (.pointer (some ad)) f).run cx.prog w = .ok (.pointer (some (ad.add o))) w := by
  obtain ⟨fields, fl, j, hu, h1, rfl, rfl, h4, h5⟩ := k_field hok h
  simp [Instr.fieldAt, run_underlying' hu, h1, Instr.sureAddr, fieldPlace, run_sizeOf' h4, h5]
theorem aref_ptr (h : Rel cx Fb β st a w) {id i off : Nat} {v : Value} (hv : RelV β st.objs w (NN Fb β st.objs) (.aref id i off) v) (hl : liveRef st.objs (.aref id i off) = true) :
    ∃ ad, v = .pointer (some ad) ∧ ∀ o, RelV β st.objs w (NN Fb β st.objs) (.aref id i (off + o)) (.pointer (some (ad.add o))) := by
  simp only [liveRef] at hl
  split at hl
  · rename_i t sh xs ho
    have ho' := objAt_some ho rfl
    cases hv with | aref hid one hva =>
    have hβ : β[id]? = some β[id] := by simp [hid]
    obtain ⟨b, cap, hloc, rfl⟩ := hva t sh xs _ ho' hβ
    refine ⟨_, rfl, fun o => .aref hid rfl fun t' sh' xs' l ho2 hl2 => ?_⟩
    rw [ho'] at ho2; cases ho2
    rw [hβ] at hl2; cases hl2
    exact ⟨b, cap, hloc, by rw [mk_add, Nat.add_assoc]⟩
  · cases hl
theorem dropRef_rel (h : Rel cx Fb β st a w) {c z : AVal} {v : Value} {o : Nat} (hv : RelV β st.objs w (NN Fb β st.objs) c v) (hl : liveRef st.objs c = true) (hd : dropRef o c = some z) :
    ∃ ad, v = .pointer (some ad) ∧ RelV β st.objs w (NN Fb β st.objs) z (.pointer (some (ad.add o))) := by
  unfold Ev.dropRef at hd
  split at hd
  · cases hd
    cases hv with | ptr hβ =>
    exact ⟨_, rfl, by rw [mk_add]; exact .ptr hβ⟩
  · cases hd
    cases hv with | ref val hc hr =>
    refine ⟨_, rfl, .ref (fun j => val (o + j)) (fun j hj => ?_) fun j c hj => hr _ _ (by rwa [List.getElem?_drop] at hj)⟩
    simp at hj
    have := hc (o + j) (by omega)
    rw [add_add, add_block, add_off, Nat.add_assoc]
    exact this
  · cases hd
    obtain ⟨ad, e, hh⟩ := aref_ptr h hv hl
    exact ⟨ad, e, hh o⟩
  · cases hd

theorem pick_op (h : Rel cx Fb β st a w) {R : Type} {κ : St → Option R} {r : R} {K : Act → World → Prop} {Q : Exit → Act → World → Prop} {ro : Option Nat} {n : Nat} {o : Oper}
    (hK : After cx Fb β st a w κ r K) {c x y : Operand} (hop : o.op = .pick c x y) (O : Orc cx) (hr : aop cx O o st κ = some r) : o.wpIn (FW ro) n cx.prog a w K Q := by
  simp only [aop, aopV, hop] at hr
  split at hr
  · rename_i t e
    have hc := h.ev c
    rw [e] at hc
    generalize hv : a.eval c = v at hc
    cases hc
    cases t with
    | true => exact wp_value (by simp [hop]) (v := a.eval x) (by simp [execOp, hop, hv, asBool]) (hK.same h hr (h.ev x))
    | false => exact wp_value (by simp [hop]) (v := a.eval y) (by simp [execOp, hop, hv, asBool]) (hK.same h hr (h.ev y))
  · cases hr

theorem nilCheck_op (h : Rel cx Fb β st a w) {R : Type} {κ : St → Option R} {r : R} {K : Act → World → Prop} {Q : Exit → Act → World → Prop} {ro : Option Nat} {n : Nat} {o : Oper}
    (hK : After cx Fb β st a w κ r K) {x : Operand} (hop : o.op = .nilCheck x) (O : Orc cx) (hr : aop cx O o st κ = some r) : o.wpIn (FW ro) n cx.prog a w K Q := by
  have hx := h.ev x
  have fin : ∀ c, st.ev x = c → κ (st.put o.dst c) = some r → (∃ ad, a.eval x = .pointer (some ad)) ∨ (∃ f fi ca, a.eval x = .func f fi ca ∧ ∀ n, f ≠ .method n) → o.wpIn (FW ro) n cx.prog a w K Q := by
    intro c e hr hv
    refine wp_value (by simp [hop]) (v := a.eval x) ?_ (hK.same h hr (by rw [← e]; exact hx))
    rcases hv with ⟨ad, hv⟩ | ⟨f, fi, ca, hv, hm⟩
    · simp [execOp, hop, hv]
    · cases f <;> first | exact absurd rfl (hm _) | simp [execOp, hop, hv]
  simp only [aop, aopV, hop] at hr
  split at hr
  · rename_i e; rw [e] at hx; refine fin _ e hr (.inl ?_); generalize a.eval x = v at hx; cases hx; exact ⟨_, rfl⟩
  · rename_i e; rw [e] at hx; refine fin _ e hr (.inl ?_); generalize a.eval x = v at hx; cases hx; exact ⟨_, rfl⟩
  · rename_i e
    simp only [cond_eq_ite] at hr
    split at hr
    · rename_i hl
      rw [e] at hx
      obtain ⟨ad, hv, _⟩ := aref_ptr h hx hl
      exact fin _ e hr (.inl ⟨ad, hv⟩)
    · cases hr
  · rename_i e; rw [e] at hx; refine fin _ e hr (.inr ?_); generalize a.eval x = v at hx; cases hx; exact ⟨_, _, _, rfl, by simp⟩
  · rename_i e; rw [e] at hx; refine fin _ e hr (.inr ?_); generalize a.eval x = v at hx; cases hx; exact ⟨_, _, _, rfl, by simp⟩
  · cases hr

theorem convert_op (hok : cx.ok = true) (h : Rel cx Fb β st a w) (hFb : ∀ b off, Fb b off → b < w.heap.size) {R : Type} {κ : St → Option R} {r : R} {K : Act → World → Prop} {Q : Exit → Act → World → Prop} {ro : Option Nat} {n : Nat} {o : Oper}
    (hK : After cx Fb β st a w κ r K) {s d : Nat} {x : Operand} (hop : o.op = .convert s d x) (O : Orc cx) (hr : aop cx O o st κ = some r) : o.wpIn (FW ro) n cx.prog a w K Q := by
  have hx := h.ev x
  simp only [aop, aopV, hop] at hr
  split at hr
  · rename_i hk1 hk2 e
    rw [e] at hx
    generalize hv : a.eval x = v at hx
    cases hx
    exact wp_value (by simp [hop]) (by simp [execOp, hop, hv, convert, run_underlying' (k_int hok hk1).1, run_underlying' (k_int hok hk2).1, Conv.intToInt]) (hK.same h hr (.wrap _ _))
  · rename_i hk1 hk2 e
    rw [e] at hx
    generalize hv : a.eval x = v at hx
    cases hx
    exact wp_value (by simp [hop]) (by simp [execOp, hop, hv, convert, run_underlying' (k_str hok hk1).1, run_underlying' (k_str hok hk2).1]) (hK.same h hr (.str _))
  · rename_i t _ _ _ s hk1 hk2 e
    rw [e] at hx
    generalize hv : a.eval x = v at hx
    cases hx
    obtain ⟨xs, hxs, hr⟩ := Option.bind_eq_some_iff.1 hr
    have ht : t = .u8 := by unfold ofU8 at hxs; split at hxs; (· rfl); cases hxs
    subst ht
    obtain ⟨v', β', w', h1, A, R, hv'⟩ := toBytes hok h hFb hk1 hk2 hxs (k_u8 hok hk2)
    exact wp_value (by simp [hop]) (by simp [execOp, hop, hv, h1]) (hK.moved A R hr hv')
  · rename_i t _ _ _ hk1 hk2
    obtain ⟨xs, hxs, hr1⟩ := Option.bind_eq_some_iff.1 hr
    obtain ⟨l, hl, hr2⟩ := Option.bind_eq_some_iff.1 hr1
    clear hr hr1
    have ht : t = .u8 := by unfold toU8 at hl; split at hl; (· rfl); cases hl
    subst ht
    have h1 := toText hok h hk1 hk2 hx hxs hl (k_u8 hok hk1)
    exact wp_value (by simp [hop]) (v := .string ⟨l.toArray⟩) (by simp only [execOp, hop, h1, Sem.run_bind, Result.andThen_ok]; rfl) (hK.same h hr2 (.str _))
  · cases hr

theorem indexAddr_op (hok : cx.ok = true) (h : Rel cx Fb β st a w) {R : Type} {κ : St → Option R} {r : R} {K : Act → World → Prop} {Q : Exit → Act → World → Prop} {ro : Option Nat} {n : Nat} {o : Oper}
    (hK : After cx Fb β st a w κ r K) {t : Nat} {x i : Operand} (hop : o.op = .indexAddr t x i) (O : Orc cx) (hr : aop cx O o st κ = some r) : o.wpIn (FW ro) n cx.prog a w K Q := by
  have hx := h.ev x
  have hi := h.ev i
  simp only [aop, aopV, hop] at hr
  have idx_some : ∀ {α : Type} {xs : List α} {m : Int} {d : α}, idx xs m = some d → 0 ≤ m ∧ m < (xs.length : Int) ∧ xs[m.toNat]? = some d := by
    intro α xs m d hd
    unfold idx at hd
    simp only [cond_eq_ite, decide_eq_true_eq] at hd
    split at hd
    · have := (List.getElem?_eq_some_iff.1 hd).1
      exact ⟨by omega, by omega, hd⟩
    · cases hd
  split at hr
  · rename_i ty e sz bytes t' full xs k m hk ex ei
    rw [ex] at hx; rw [ei] at hi
    simp only [cond_eq_ite, beq_iff_eq] at hr
    split at hr
    · rename_i ht; subst ht
      obtain ⟨d, hd, hr⟩ := Option.bind_eq_some_iff.1 hr
      obtain ⟨h0, h1, h2⟩ := idx_some hd
      obtain ⟨hu, _, i', z, hi', hsz, hsz2, _⟩ := k_sl hok hk
      generalize hv : a.eval x = v at hx
      generalize hvi : a.eval i = vi at hi
      cases hi
      cases hx with
      | sl0 => simp at h1; omega
      | sl val hcap hfull hc hrr =>
        rename_i ad cap
        have hlt : m.toNat < xs.length := by omega
        refine wp_value (by simp [hop]) (v := .pointer (some (ad.add (m.toNat * t'.size)))) ?_ (hK.same h hr (.ref (fun j => val (m.toNat * t'.size + j)) (fun j hj => ?_) fun j c hj => hrr _ d j c h2 hj))
        · simp [execOp, hop, hv, hvi, Instr.indexAt, asIntOf, run_underlying' hu, h0, h1, run_sizeOf' hi', hsz, hsz2]
        · rw [cells_length] at hj
          have := hc (m.toNat * t'.size + j) (mulIdx hlt hj)
          rw [add_add, add_block, add_off, Nat.add_assoc]
          exact this
    · cases hr
  · rename_i ty e sz bytes id k m hk ex ei
    rw [ex] at hx; rw [ei] at hi
    split at hr
    · rename_i t' sh xs ho
      simp only [cond_eq_ite, beq_iff_eq] at hr
      split at hr
      · rename_i ht; subst ht
        obtain ⟨d, hd, hr⟩ := Option.bind_eq_some_iff.1 hr
        obtain ⟨h0, h1, h2⟩ := idx_some hd
        obtain ⟨hu, _, i', z, hi', hsz, hsz2, _⟩ := k_sl hok hk
        generalize hv : a.eval x = v at hx
        generalize hvi : a.eval i = vi at hi
        cases hi
        have ho' := objAt_some ho rfl
        cases hx with | own hid one hva =>
        have hβ : β[id]? = some β[id] := by simp [hid]
        have hvv := hva t' sh xs _ ho' hβ
        have hob := h.obj id _ _ ho' hβ
        cases hl : β[id] with
        | nil =>
          rw [hl] at hob
          have hob : xs = [] := hob
          subst hob
          simp at h1; omega
        | «at» b cap =>
          rw [hl] at hvv
          subst hvv
          refine wp_value (by simp [hop]) (v := .pointer (some ⟨b, m.toNat * t'.size, none⟩)) ?_ (hK.same h hr (.aref hid rfl fun t2 sh2 xs2 l ho2 hl2 => ?_))
          · simp [execOp, hop, hv, hvi, Instr.indexAt, asIntOf, ownVal, run_underlying' hu, h0, h1, run_sizeOf' hi', hsz, hsz2, mk_add]
          · rw [ho'] at ho2; cases ho2
            rw [hβ] at hl2; cases hl2
            exact ⟨b, cap, hl, rfl⟩
      · cases hr
    · cases hr
  · cases hr

theorem index_op (hok : cx.ok = true) (h : Rel cx Fb β st a w) {R : Type} {κ : St → Option R} {r : R} {K : Act → World → Prop} {Q : Exit → Act → World → Prop} {ro : Option Nat} {n : Nat} {o : Oper}
    (hK : After cx Fb β st a w κ r K) {t : Nat} {x i : Operand} (hop : o.op = .index t x i) (O : Orc cx) (hr : aop cx O o st κ = some r) : o.wpIn (FW ro) n cx.prog a w K Q := by
  have hx := h.ev x
  have hi := h.ev i
  simp only [aop, aopV, hop] at hr
  split at hr
  · rename_i s k m hk ex ei
    rw [ex] at hx; rw [ei] at hi
    obtain ⟨c, hc, hr⟩ := Option.bind_eq_some_iff.1 hr
    generalize hv : a.eval x = v at hx
    generalize hvi : a.eval i = vi at hi
    cases hi
    cases hx
    unfold idx at hc
    simp only [cond_eq_ite, decide_eq_true_eq] at hc
    split at hc
    · rename_i h0
      have hlt := (List.getElem?_eq_some_iff.1 hc).1
      have hget : (⟨s.toArray⟩ : ByteArray)[m.toNat]? = some c := by
        have hsz : m.toNat < (⟨s.toArray⟩ : ByteArray).size := by simpa [ByteArray.size] using hlt
        rw [getElem?_pos (⟨s.toArray⟩ : ByteArray) m.toNat hsz]
        have : (⟨s.toArray⟩ : ByteArray)[m.toNat] = s[m.toNat] := rfl
        rw [this]
        simp [hlt] at hc
        rw [hc]
      have hlt8 := UInt8.toNat_lt c
      refine wp_value (by simp [hop]) (v := .int .u8 ((UInt8.toNat c : Nat) : Int)) (by simp [execOp, hop, hv, hvi, Instr.index, asIntOf, run_underlying' (k_str hok hk).1, h0, hget]) (hK.same h hr (.int fun _ => ⟨by omega, by omega⟩))
    · cases hc
  · cases hr
end
end Go.Ev
