/-
  THE EVALUATOR, PART 30: ranges over functions: the statement.
-/
import Derived.Test.YtpkhhaolkfaoaaaHpEwC
set_option linter.unusedVariables false
set_option linter.unusedSimpArgs false
set_option linter.unusedSectionVars false
namespace Go.Ev

section
variable {cx : Cx} {Fb : Nat → Nat → Prop} {β : List Loc} {st : St} {a : Act} {w : World}

theorem alloc_heap' (w : World) (o : Obj) : (w.alloc o).heap = w.heap.push o := rfl
theorem alloc_at (w : World) (o : Obj) : (w.alloc o).heap[w.heap.size]? = some o := by rw [alloc_heap']; exact Array.getElem?_push_size
theorem alloc_old (w : World) (o : Obj) {b : Nat} {x : Obj} (h : w.heap[b]? = some x) : (w.alloc o).heap[b]? = some x := by
  rw [alloc_heap', Array.getElem?_push, if_neg (by have := lt_of_get h; omega)]; exact h
theorem alloc_size' (w : World) (o : Obj) : (w.alloc o).heap.size = w.heap.size + 1 := by rw [alloc_heap']; simp
theorem rangeFunc_sim (hok : cx.ok = true) {O : Orc cx} (hO : OrcOK cx O) {B : Nat} {ro : Option Nat} {β0 : List Loc} {objs0 : List AObj} {w0 : World} (S : Start B ro Fb β0 objs0 w0) {R : Type} {κ : AEx → St → Option R} {r : R}
    {Q : Exit → Act → World → Prop} {n : Nat} {f : Nat} {p : List Nat} {g : Operand} {ps : Array Tmp} {asg body : Code} (hcode : codeAt p (bodyOf cx f) = .rangeFunc g ps asg body)
    (hQ : ∀ (e : AEx) (st' : St) (β' : List Loc) (a' : Act) (w' : World), κ e st' = some r → Inv B cx Fb β0 objs0 w0 β' st' a' w' → Q (exOf e) a' w')
    (I : Inv B cx Fb β0 objs0 w0 β st a w) {gf : Nat} {caps : List AVal} (hg : st.ev g = .clo gf caps)
    (hr : callK O gf (.yld st.objs.length :: caps) (st.objs ++ [.frm f p st.tmps none]) (kRange st κ) = some r) : (Code.rangeFunc g ps asg body).wpIn (FW ro) n cx.prog Q a w := by
  refine wpIn_rangeFunc fun fn _ => ?_
  have h := I.rel
  have hgv := h.ev g
  rw [hg] at hgv
  generalize hv : a.eval g = v at hgv
  cases hgv with | clo hl hrc =>
  rename_i cvs
  obtain ⟨gfn, cd, hgf, hgb⟩ := callK_fn hO.fn hr
  -- the record is laid
  have henter : ∃ (l : Nat) (mark : List Deferred) (w1 : World) (blk : Nat), (Instr.enterLoop fn a.tmps ps asg body (FW ro).round).run cx.prog w = .ok (l, mark) w1 ∧ Grow w w1 ∧ w.heap.size ≤ l ∧
      w1.heap[l]? = some (.loop ⟨.ready, none, fn, a.tmps, ps, asg, body, blk⟩) ∧
      (mark = [] ∨ ∃ q, mark = [{ target := .collected q, args := #[] }] ∧ w.heap.size ≤ q ∧ q ≠ l ∧ w1.heap[q]? = some (.deferred (some []))) := by
    cases ro with
    | none =>
      refine ⟨_, _, _, w.heap.size, run_enterLoop_outer fn a.tmps ps asg body, ?_, Nat.le_succ _, ?_, .inr ⟨w.heap.size, rfl, Nat.le_refl _, by omega, ?_⟩⟩
      · exact (Grow.push _ _).trans (Grow.push _ _)
      · have := alloc_at (w.alloc (.deferred (some []))) (.loop { state := .ready, pending := none, fn, tmps := a.tmps, params := ps, assign := asg, body, defers := w.heap.size })
        rw [alloc_size'] at this
        exact this
      · exact alloc_old _ _ (alloc_at _ _)
    | some l0 =>
      obtain ⟨i, f0, p0, ts0, j0, cap0, h1, h2⟩ := S.ro l0 rfl
      obtain ⟨ts', j', h3⟩ := I.adv.frm i f0 p0 ts0 j0 h1
      obtain ⟨ls, hls⟩ := I.adv.pre
      obtain ⟨b', cap', tmps, blk, gg, ps', asg', body', fn', hloc, k1, k2, k3, k4⟩ := h.obj i _ (.at l0 cap0) h3 (by rw [hls]; exact getElem?_append_left' h2)
      cases hloc
      refine ⟨_, _, _, blk, run_enterLoop_inner k2 fn a.tmps ps asg body, Grow.push _ _, Nat.le_refl _, alloc_at _ _, .inl rfl⟩
  obtain ⟨l, mark, w1, blk, he, hgrow, hle, hL, hmark⟩ := henter
  have hFb := S.fb' I.adv
  have hbl : ∀ (i b cap : Nat), [Loc.at l 0][i]? = some (.at b cap) → i = 0 ∧ b = l := by
    intro i b cap hi
    cases i with
    | zero => simp at hi; exact ⟨rfl, hi.1.symm⟩
    | succ i => simp at hi
  have Ap := h.push_adv hgrow [.frm f p st.tmps none] [.at l 0] rfl (fun i b cap hi => by have := (hbl i b cap hi).2; omega)
  obtain ⟨Gp, Rp⟩ := h.push hgrow [.frm f p st.tmps none] [.at l 0] rfl hFb (fun i b cap hi => by have := (hbl i b cap hi).2; omega) (fun i j b c c' hi hj => by rw [(hbl _ _ _ hi).1, (hbl _ _ _ hj).1]) fun G i o l2 ho hl2 => by
    cases i with
    | zero =>
      simp only [List.getElem?_cons_zero, Option.some.injEq] at ho hl2
      subst ho; subst hl2
      exact ⟨l, 0, a.tmps, blk, g, ps, asg, body, fn, rfl, hcode, hL, h.tmps.goes G, by simp⟩
    | succ i => simp at ho
  have hid : st.objs.length = β.length := h.len.symm
  have hβl : (β ++ [Loc.at l 0])[st.objs.length]? = some (.at l 0) := by rw [hid]; simp
  refine ⟨l, mark, w1, { target := .fn (.func gf) cvs, args := #[.func (.yield l) #[] #[]] }, w1, gf, #[.func (.yield l) #[] #[]] ++ cvs, w1, he, ?_, fun _ _ => trivial, ?_, FW_depth ro n, ?_⟩
  · simp only [resolve, rangeCall]
    rw [hv]
    simp [Deferred.ofValue, Act.eval]
  · simp only [invoke]
    exact callFunc_run hok hgf hgb _
  · have hargs : RelL (β ++ [Loc.at l 0]) (st.objs ++ [.frm f p st.tmps none]) w1 (NN Fb (β ++ [Loc.at l 0]) (st.objs ++ [.frm f p st.tmps none])) (.yld st.objs.length :: caps) (#[.func (.yield l) #[] #[]] ++ cvs) := by
      have h1 : RelL (β ++ [Loc.at l 0]) (st.objs ++ [.frm f p st.tmps none]) w1 (NN Fb (β ++ [Loc.at l 0]) (st.objs ++ [.frm f p st.tmps none])) [.yld st.objs.length] #[.func (.yield l) #[] #[]] := by
        refine ⟨rfl, fun i c v hc hv => ?_⟩
        cases i with
        | zero => simp at hc hv; subst hc; subst hv; exact .yld hβl
        | succ i => simp at hc
      exact h1.append (RelL.goes Gp (⟨hl, hrc⟩ : RelL _ _ _ _ _ _))
    refine callsIn_ro ((callK_sim hO.call Rp (fun b off hF => Nat.lt_of_lt_of_le (hFb b off hF) hgrow.size) hargs hr (n - 1)).mono fun e w2 hpost => ?_)
    obtain ⟨v2, β2, objs2, av, rfl, hκ, A2, R2, _⟩ := hpost
    obtain ⟨ts2, j2, ho2⟩ := A2.frm st.objs.length f p st.tmps none (by simp [St.push])
    obtain ⟨ls2, hls2⟩ := A2.pre
    have hβ2 : β2[st.objs.length]? = some (.at l 0) := by rw [hls2]; exact getElem?_append_left' hβl
    obtain ⟨b', cap', tmps2, blk2, gg2, ps2, asg2, body2, fn2, hloc, q1, q2, q3, q4⟩ := R2.obj _ _ _ ho2 hβ2
    cases hloc
    have hobj : objAt objs2 st.objs.length = .frm f p ts2 j2 := by unfold objAt; rw [ho2]; rfl
    unfold kRange at hκ
    rw [hobj] at hκ
    have A3 := Ap.trans A2
    have A4 : ∀ o : Obj, Adv β st.objs w β2 (objs2.set st.objs.length .dead) (w2.putObj l o) := by
      intro o
      have hlt2 : l < w2.heap.size := lt_of_get q2
      refine ⟨A3.pre, ⟨A3.keep.os, A3.keep.tape, A3.keep.output, by simp [World.putObj]; exact A3.keep.size, fun b hb hn => ?_, fun b vs e fr hb => ?_⟩, fun b off hb hw => A3.wr b off hb ?_, fun i f' p' ts' j' hi => ?_, fun i t sh xs hi hoi => ?_, by simpa using A3.len, fun b L hb => ?_⟩
      · rw [World.putObj_heap_other (by omega)]; exact A3.keep.blk b hb hn
      · have hb' := lt_of_get hb
        obtain ⟨vs', h1, h2⟩ := A3.keep.cell b vs e fr hb
        exact ⟨vs', (World.putObj_heap_other (by omega)).trans h1, h2⟩
      · obtain ⟨i, o2, l2, h1, h2, h3⟩ := hw
        rcases getElem?_set_some h1 with ⟨_, rfl, _⟩ | ⟨_, h1⟩
        · exact h3.elim
        · exact ⟨i, o2, l2, h1, h2, h3⟩
      · have hlt := (List.getElem?_eq_some_iff.1 hi).1
        obtain ⟨ts3, j3, h1⟩ := A3.frm i f' p' ts' j' hi
        exact ⟨ts3, j3, by rw [List.getElem?_set, if_neg (by omega)]; exact h1⟩
      · rw [List.getElem?_set, if_neg (by omega)] at hoi
        exact A3.arr i t sh xs hi hoi
      · have hb' := lt_of_get hb
        obtain ⟨L', h1, h2⟩ := A3.lp b L hb
        exact ⟨L', (World.putObj_heap_other (by omega)).trans h1, h2⟩
    have I4 : ∀ o : Obj, Inv B cx Fb β0 objs0 w0 β2 { st with objs := objs2.set st.objs.length .dead } { a with defers := mark ++ a.defers } (w2.putObj l o) := by
      intro o
      refine ⟨R2.killFrm ho2 hβ2 o rfl, I.adv.trans (A4 o), ?_⟩
      obtain ⟨rs, m1, m2, m3⟩ := I.marks.adv h (A4 o) (a' := a) rfl
      rcases hmark with rfl | ⟨q, rfl, hq1, hq2, hq3⟩
      · exact ⟨rs, by simpa using m1, m2, m3⟩
      · have hnot : q ∉ rs := fun hm => by
          obtain ⟨rs', m1', _, m3'⟩ := I.marks
          have : rs = rs' := by
            have := m1.symm.trans m1'
            have hinj : Function.Injective (fun r => ({ target := .collected r, args := #[] } : Deferred)) := fun a b e => by simpa using e
            exact (List.map_inj_right (fun a b e => by simpa using e)).1 this
          subst this
          have := lt_of_get (m3' q hm).2
          omega
        refine ⟨q :: rs, by simp [m1], List.nodup_cons.2 ⟨hnot, m2⟩, fun r hr => ?_⟩
        simp only [List.mem_cons] at hr
        rcases hr with rfl | hr
        · refine ⟨Nat.le_trans S.low (Nat.le_trans I.adv.keep.size hq1), ?_⟩
          rw [World.putObj_heap_other hq2, A2.keep.blk _ (lt_of_get hq3) (not_wr_deferred Rp hq3)]
          exact hq3
        · exact m3 r hr
    cases j2 with
    | none =>
      refine ⟨_, _, run_endLoop q2 (by simp [loopState]), ?_⟩
      exact hQ .normal _ _ _ _ hκ (I4 _)
    | some j3 =>
      cases j3 with
      | none => cases hκ
      | some e =>
        refine ⟨_, _, run_endLoop q2 (by simp [loopState]), ?_⟩
        cases e with
        | normal => exact absurd rfl q4
        | exit id => exact wpIn_exit (hQ (.exit id) _ _ _ _ hκ (I4 _))
        | goto t => exact wpIn_goto (hQ (.goto t) _ _ _ _ hκ (I4 _))
        | ret => exact wpIn_ret (hQ .ret _ _ _ _ hκ (I4 _))
end
end Go.Ev
