/-
  THE EVALUATOR, PART 19: one operation, calls of functions apart.
-/
import Derived.Test.YtpkhhaolkfaoaaaHpEvR
set_option linter.unusedVariables false
set_option linter.unusedSimpArgs false
set_option linter.unusedSectionVars false
namespace Go.Ev

section
variable {cx : Cx} {Fb : Nat → Nat → Prop} {β : List Loc} {st : St} {a : Act} {w : World}

theorem After.back {R : Type} {κ : St → Option R} {r : R} {K : Act → World → Prop} (hK : After cx Fb β st a w κ r K) {β1 : List Loc} {st1 : St} {a1 : Act} {w1 : World} (A : Adv β st.objs w β1 st1.objs w1) (hd : a1.defers = a.defers) :
    After cx Fb β1 st1 a1 w1 κ r K := fun β' st' a' w' hr A' R' hd' => hK β' st' a' w' hr (A.trans A') R' (hd'.trans hd)

theorem alloc_op (hok : cx.ok = true) (h : Rel cx Fb β st a w) (hFb : ∀ b off, Fb b off → b < w.heap.size) {R : Type} {κ : St → Option R} {r : R} {K : Act → World → Prop} {Q : Exit → Act → World → Prop} {ro : Option Nat} {n : Nat} {o : Oper}
    (hK : After cx Fb β st a w κ r K) {e : Nat} (hop : o.op = .alloc e) {ss : List (Option Ty)} {zs : List AVal} {i : TypeInfo} {z : Value} (hi : cx.prog.info? e = some i) (hz : i.zero = some z)
    (hs : ss.length = zs.length) (hzz : zerosB zs z.cells.toList = true)
    (hr : κ ((st.push (.box (ownNils (st.objs.length + 1) ss zs).1 :: (ownNils (st.objs.length + 1) ss zs).2)).put o.dst (.ptr st.objs.length 0)) = some r) : o.wpIn (FW ro) n cx.prog a w K Q := by
  obtain ⟨β', w', h1, A, R, hb⟩ := alloc_sim h hFb hi hz hs hzz
  exact wp_value (by simp [hop]) (by simp [execOp, hop, h1]) (hK.moved A R hr (.ptr hb))

theorem one_zero {P : Program} {t : Nat} {z : AVal} {i : TypeInfo} {v : Value} (h1 : zeroB z v = true) (h2 : v.oneCell' = true) : zerosB [z] v.cells.toList = true := by
  cases v <;> simp_all [zerosB, Value.cells, Value.oneCell']

theorem box_op (h : Rel cx Fb β st a w) (hFb : ∀ b off, Fb b off → b < w.heap.size) {R : Type} {κ : St → Option R} {r : R} {K : Act → World → Prop} {Q : Exit → Act → World → Prop} {ro : Option Nat} {n : Nat} {o : Oper}
    (hK : After cx Fb β st a w κ r K) {e : Nat} {x : Operand} (hop : o.op = .box e x) (hc : okCells (st.ev x) = true)
    (hr : κ ((st.push [.box (valCells (st.ev x))]).put o.dst (.ptr st.objs.length 0)) = some r) : o.wpIn (FW ro) n cx.prog a w K Q := by
  obtain ⟨A, R⟩ := h.box hFb (valCells (st.ev x)) (a.eval x).cells e [] (by simp) fun G => (valCells_rel (h.ev x) hc).1.goes G
  refine wp_value (by simp [hop]) (v := .pointer (some ⟨w.heap.size, 0, none⟩)) (by simp [execOp, hop, Instr.box, newVar, newRow]) (hK.moved A R hr (.ptr (b := w.heap.size) (cap := 0) ?_))
  rw [← h.len]; simp

theorem store_op (hok : cx.ok = true) (h : Rel cx Fb β st a w) {R : Type} {κ : St → Option R} {r : R} {K : Act → World → Prop} {Q : Exit → Act → World → Prop} {ro : Option Nat} {n : Nat} {o : Oper}
    (hK : After cx Fb β st a w κ r K) {t : Nat} {p x : Operand} (hop : o.op = .store t p x) (O : Orc cx) (hr : aop cx O o st κ = some r) : o.wpIn (FW ro) n cx.prog a w K Q := by
  simp only [aop, aopV, hop] at hr
  have hp := h.ev p
  split at hr
  · rename_i id off e
    rw [e] at hp
    split at hr
    · rename_i cs ho
      simp only [cond_eq_ite] at hr
      split at hr
      · rename_i hc
        simp only [Bool.and_eq_true, beq_iff_eq, decide_eq_true_eq] at hc
        obtain ⟨⟨⟨hkn, hsz⟩, hle⟩, hokc⟩ := hc
        obtain ⟨i, hi, his⟩ := k_known hok hkn
        obtain ⟨hv, h1⟩ := valCells_rel (h.ev x) hokc
        generalize hpv : a.eval p = pv at hp
        cases hp with | ptr hβ =>
        rename_i b cap
        obtain ⟨hrun, A, R⟩ := h.storeBox (objAt_some ho rfl) hβ hle (vs := (a.eval x).cells.toList) (by simpa using hv.1) (fun j c v hc hv' => hv.2 j c v hc (by simpa using hv')) h1
        exact wp_skip (hd := by simp [hop]) (by simp [execOp, hop, hpv, storeVar_run hi (by rw [← hv.1, hsz, his]) hrun]) (hK.moved A R hr relV_undef)
      · cases hr
    · cases hr
  · rename_i id i off e
    rw [e] at hp
    split at hr
    · rename_i ty xs ho
      simp only [cond_eq_ite] at hr
      split at hr
      · rename_i hc
        simp only [Bool.and_eq_true, beq_iff_eq, decide_eq_true_eq] at hc
        obtain ⟨⟨⟨hkn, hsz⟩, hle⟩, hokc⟩ := hc
        obtain ⟨i', hi, his⟩ := k_known hok hkn
        obtain ⟨d, hx, hr⟩ := Option.bind_eq_some_iff.1 hr
        obtain ⟨d', hd, hr⟩ := Option.bind_eq_some_iff.1 hr
        split at hr
        · rename_i t2 xs2 ho2
          obtain ⟨A1, R1⟩ := h.shareV (st.ev x)
          obtain ⟨s1, s2, s3⟩ := shareV_shared st.objs (st.ev x)
          have hev : RelV β (shareV st.objs (st.ev x)) w (NN Fb β (shareV st.objs (st.ev x))) (st.ev x) (a.eval x) := by
            have := R1.ev x
            cases x <;> exact this
          obtain ⟨hv, h1⟩ := valCells_rel hev hokc
          generalize hpv : a.eval p = pv at hp
          cases hp with | aref hid one hva =>
          have ho' := objAt_some ho rfl
          have hβ : β[id]? = some β[id] := by simp [hid]
          obtain ⟨b, cap, hloc, rfl⟩ := hva ty false xs _ ho' hβ
          have ho2' := objAt_some ho2 rfl
          -- the shared row is the same
          obtain ⟨sh0, xs0, g1, g2⟩ := A1.arr id _ _ _ (List.getElem?_eq_some_iff.1 ho').1 ho2'
          rw [ho'] at g1
          cases g1
          have hsame : (shareV st.objs (st.ev x))[id]? = some (.arr ty false xs) := by
            have key : ∀ (v : AVal) (objs : List AObj) (k : Nat) (t : Ty) (ys : List (T t)), (shareV objs v)[k]? = some (.arr t false ys) → objs[k]? = some (.arr t false ys) := by
              have one : ∀ (i : Nat) (objs : List AObj) (k : Nat) (t : Ty) (ys : List (T t)), (shareId i objs)[k]? = some (.arr t false ys) → objs[k]? = some (.arr t false ys) := by
                intro i objs k t ys hk
                obtain ⟨sh0, e1, e2⟩ := shareId_get hk
                cases sh0 with
                | false => exact e1
                | true => exact absurd (e2 rfl) (by simp)
              intro v objs k t ys hk
              unfold shareV at hk
              split at hk
              · exact one _ _ _ _ _ hk
              · rename_i cs
                have fold : ∀ (cs : List AVal) (objs : List AObj), (cs.foldl (fun o c => match c with | .own i => shareId i o | _ => o) objs)[k]? = some (.arr t false ys) → objs[k]? = some (.arr t false ys) := by
                  intro cs
                  induction cs with
                  | nil => intro objs h; exact h
                  | cons c cs ih =>
                    intro objs h
                    simp only [List.foldl_cons] at h
                    have := ih _ h
                    split at this
                    · exact one _ _ _ _ _ this
                    · exact this
                exact fold cs objs hk
              · exact hk
            have := key _ _ _ _ _ ho2'
            rw [ho'] at this; cases this
            exact ho2'
          rw [hloc] at hβ
          obtain ⟨hrun, A, R⟩ := R1.storeArr hsame hβ hx hle (vs := (a.eval x).cells.toList) (by simpa using hv.1) (fun j c v hc hv' => hv.2 j c v hc (by simpa using hv')) h1 hd (fun id hid => s2 id hid)
          exact wp_skip (hd := by simp [hop]) (by simp [execOp, hop, hpv, storeVar_run hi (by rw [← hv.1, hsz, his]) hrun]) (hK.moved (A1.trans A) R hr relV_undef)
        · cases hr
      · cases hr
    · cases hr
  · cases hr

theorem slice_op (hok : cx.ok = true) (h : Rel cx Fb β st a w) {R : Type} {κ : St → Option R} {r : R} {K : Act → World → Prop} {Q : Exit → Act → World → Prop} {ro : Option Nat} {n : Nat} {o : Oper}
    (hK : After cx Fb β st a w κ r K) {t : Nat} {x : Operand} {lo hi mx : Option Operand} (hop : o.op = .slice t x lo hi mx) (O : Orc cx) (hr : aop cx O o st κ = some r) : o.wpIn (FW ro) n cx.prog a w K Q := by
  simp only [aop, aopV, hop] at hr
  split at hr
  · rename_i _ _ s hk hx
    have hxv := h.ev x
    rw [hx] at hxv
    generalize hv : a.eval x = v at hxv
    cases hxv
    obtain ⟨hh, h1, hr⟩ := Option.bind_eq_some_iff.1 hr
    obtain ⟨l, h2, hr⟩ := Option.bind_eq_some_iff.1 hr
    split at hr
    · have hs : (⟨s.toArray⟩ : ByteArray).size = s.length := by simp [ByteArray.size]
      have hb := run_bounds (P := cx.prog) (w := w) (isSlice := false) (len := s.length) (cap := s.length) (lo := lo.map a.eval) (hi := hi.map a.eval) (mx := none) (l := l) (h := hh) (m := s.length) rfl
        (by cases hi with
            | none => simp at h1 ⊢; exact h1.symm
            | some q => exact bnd_some (h.ev q) h1)
        (by cases lo with
            | none => simp at h2 ⊢; exact h2.symm
            | some q => exact bnd_some (h.ev q) h2)
      rw [← hs] at hb
      refine wp_value (by simp [hop]) (v := .string ((⟨s.toArray⟩ : ByteArray).extract l hh)) (by simp [execOp, hop, hv, run_slice_text (k_str hok hk).1 hb]) (hK.same h hr ?_)
      rw [extract_mk]
      exact .str _
    · cases hr
  · rename_i _ ty e sz bytes hk
    obtain ⟨xs, hxs, hr⟩ := Option.bind_eq_some_iff.1 hr
    obtain ⟨hh, h1, hr⟩ := Option.bind_eq_some_iff.1 hr
    obtain ⟨l, h2, hr⟩ := Option.bind_eq_some_iff.1 hr
    obtain ⟨A1, R1⟩ := h.shareV (st.ev x)
    obtain ⟨s1, s2, s3⟩ := shareV_shared st.objs (st.ev x)
    have hev : RelV β (shareV st.objs (st.ev x)) w (NN Fb β (shareV st.objs (st.ev x))) (st.ev x) (a.eval x) := by
      have := R1.ev x
      cases x <;> exact this
    have hsl := sl_of R1 hev hxs fun id e => s2 id (by rw [e]; simp [valCells])
    obtain ⟨A, cap, hv, hcap, hsub⟩ := sl_sub hsl
    obtain ⟨hu, _, i, z, hi', hsz, hsz2, _, _, _, _⟩ := k_sl hok hk
    have hhle : hh ≤ xs.length := by
      cases hi with
      | none => simp at h1; omega
      | some q => obtain ⟨_, m, _, _, b1, b2⟩ := bnd_some (h.ev q) h1; omega
    have hlle : l ≤ hh := by
      cases lo with
      | none => simp at h2; omega
      | some q => obtain ⟨_, m, _, _, b1, b2⟩ := bnd_some (h.ev q) h2; omega
    have hlo : match lo.map a.eval with | none => l = 0 | some v => ∃ k n, v = .int k n ∧ 0 ≤ n ∧ n ≤ (hh : Int) ∧ n.toNat = l := by
      cases lo with
      | none => simp at h2 ⊢; exact h2.symm
      | some q => exact bnd_some (h.ev q) h2
    have hA0 : A = none → xs.length = 0 ∧ cap = 0 := by
      intro e
      subst e
      rw [hv] at hsl
      cases hsl
      exact ⟨rfl, rfl⟩
    cases mx with
    | none =>
      have hb := run_bounds (P := cx.prog) (w := w) (isSlice := true) (len := xs.length) (cap := cap) (lo := lo.map a.eval) (hi := hi.map a.eval) (mx := none) (l := l) (h := hh) (m := cap) rfl
        (by cases hi with
            | none => simp at h1 ⊢; exact h1.symm
            | some q => obtain ⟨k, m, b0, b1, b2, b3⟩ := bnd_some (h.ev q) h1; exact ⟨k, m, b0, b1, by omega, b3⟩) hlo
      refine wp_value (by simp [hop]) (by simp [execOp, hop, hv, run_slice_list hu hi' hb]; rfl) (hK.moved A1 R1 hr ?_)
      rw [hsz, hsz2]
      exact hsub false l hh cap hlle hhle (by omega) (by simp) fun e => (hA0 e).2
    | some m0 =>
      obtain ⟨m, h3, hr⟩ := Option.bind_eq_some_iff.1 hr
      simp only [cond_eq_ite, Bool.and_eq_true, beq_iff_eq] at hr
      split at hr
      · rename_i hmh
        obtain ⟨hmh, hhi⟩ := hmh
        obtain ⟨k3, n3, c0, c1, c2, c3⟩ := bnd_some (h.ev m0) h3
        have hb := run_bounds (P := cx.prog) (w := w) (isSlice := true) (len := xs.length) (cap := cap) (lo := lo.map a.eval) (hi := hi.map a.eval) (mx := some (a.eval m0)) (l := l) (h := hh) (m := m) ⟨k3, n3, c0, c1, by omega, c3⟩
          (by cases hi with
              | none => simp at hhi
              | some q => obtain ⟨k, m', b0, b1, b2, b3⟩ := bnd_some (h.ev q) h1; exact ⟨k, m', b0, b1, by omega, b3⟩) hlo
        refine wp_value (by simp [hop]) (by simp [execOp, hop, hv, run_slice_list hu hi' hb]; rfl) (hK.moved A1 R1 hr ?_)
        rw [hsz, hsz2]
        exact hsub true l hh m hlle hhle (by omega) (fun _ => hmh) fun e => by have := hA0 e; omega
      · cases hr
  · cases hr
end
end Go.Ev
