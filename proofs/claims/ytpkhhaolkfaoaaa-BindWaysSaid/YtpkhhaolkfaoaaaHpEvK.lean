/-
  THE EVALUATOR, PART 11: append; texts and bytes.
-/
import Derived.Test.YtpkhhaolkfaoaaaHpEvJ
import Derived.Lib.ConvBytes
set_option linter.unusedVariables false
set_option linter.unusedSimpArgs false
set_option linter.unusedSectionVars false
namespace Go.Ev
section
variable {cx : Cx} {Fb : Nat → Nat → Prop} {β : List Loc} {st : St} {a : Act} {w : World}

theorem Grow.drewAlloc (w : World) (o : Go.Obj) : Grow w (w.drew.alloc o) :=
  ⟨rfl, rfl, rfl, by simp, fun b hb => by
    show (w.heap.push o)[b]? = _
    rw [Array.getElem?_push, if_neg (by omega)]⟩
theorem drewAlloc_heap (w : World) (o : Go.Obj) : (w.drew.alloc o).heap[w.heap.size]? = some o := by
  show (w.heap.push o)[w.heap.size]? = _
  simp
theorem Grow.drew' (w : World) : Grow w w.drew := ⟨rfl, rfl, rfl, Nat.le_refl _, fun _ _ => rfl⟩

/-- A row of one's own is let go. -/
theorem Rel.kill (h : Rel cx Fb β st a w) {id : Nat} {t : Ty} {sh : Bool} {xs : List (T t)} (ho : st.objs[id]? = some (.arr t sh xs)) :
    Adv β st.objs w β (st.objs.set id .dead) w ∧ Rel cx Fb β { st with objs := st.objs.set id .dead } a w := by
  have A : Adv β st.objs w β (st.objs.set id .dead) w := by
    refine ⟨⟨[], by simp⟩, Keep.refl _ _, fun b' off _ hw' => ?_, fun k f p ts j hk => ?_, fun k t' sh xs' hk hk' => ?_, by simp, .refl _⟩
    · obtain ⟨k, o2, l, h1, h2, h3⟩ := hw'
      rcases getElem?_set_some h1 with ⟨e1, rfl, _⟩ | ⟨e1, h1⟩
      · exact h3.elim
      · exact ⟨k, o2, l, h1, h2, h3⟩
    · by_cases e : id = k
      · subst e; rw [ho] at hk; cases hk
      · exact ⟨ts, j, by rw [List.getElem?_set, if_neg e]; exact hk⟩
    · rcases getElem?_set_some hk' with ⟨e1, e2, _⟩ | ⟨e1, h1⟩
      · cases e2
      · exact ⟨sh, xs', h1, rfl⟩
  have G := A.goes (Fb := Fb) h.len
  have back : ∀ (k : Nat) (o2 : AObj), (st.objs.set id .dead)[k]? = some o2 → alive o2 = true → st.objs[k]? = some o2 := by
    intro k o2 h1 h2
    rcases getElem?_set_some h1 with ⟨e1, rfl, _⟩ | ⟨e1, h1⟩
    · cases h2
    · exact h1
  refine ⟨A, h.adv A (by simp [h.len]) (fun k o2 l h1 h2 => ?_) (fun k j p q b1 c c' h1 h2 h3 h4 h5 h6 => h.inj k j p q b1 c c' (back _ _ h1 h2) h2 h3 (back _ _ h4 h5) h5 h6) (fun k p b1 c h1 h2 h3 => h.fb k p b1 c (back _ _ h1 h2) h2 h3)⟩
  rcases getElem?_set_some h1 with ⟨e1, rfl, _⟩ | ⟨e1, h1⟩
  · trivial
  · exact (h.obj k o2 l h1 h2).goes G fun _ _ _ => rfl

/-- A row grows in place. -/
theorem Rel.growRow (h : Rel cx Fb β st a w) {id b cap : Nat} {t : Ty} {sh : Bool} {xs ys : List (T t)} {f : Nat → Value} {vs : List Value} (ho : st.objs[id]? = some (.arr t sh xs)) (hl : β[id]? = some (.at b cap))
    (hcap : xs.length + ys.length ≤ cap) (hvl : vs.length = ys.length * t.size) (hvs : ∀ j, j < ys.length * t.size → vs[j]? = some (f j)) (hcov : Cover β st.objs w (NN Fb β st.objs) t ys f) :
    Adv β st.objs w (β ++ [.at b cap]) (st.objs.set id .dead ++ [.arr t sh (xs ++ ys)]) (w.setCells b (xs.length * t.size) vs) ∧
    Rel cx Fb (β ++ [.at b cap]) { st with objs := st.objs.set id .dead ++ [.arr t sh (xs ++ ys)] } a (w.setCells b (xs.length * t.size) vs) := by
  obtain ⟨arr, e, fr, hb, hs, hxl, hfr, hrel⟩ := h.obj id _ _ ho hl
  have hblt := lt_of_get hb
  have old : ∀ (k : Nat) (o2 : AObj) (l : Loc), (st.objs.set id .dead ++ [.arr t sh (xs ++ ys)])[k]? = some o2 → (β ++ [.at b cap])[k]? = some l → alive o2 = true →
      (k ≠ id ∧ st.objs[k]? = some o2 ∧ β[k]? = some l) ∨ (k = st.objs.length ∧ o2 = .arr t sh (xs ++ ys) ∧ l = .at b cap) := by
    intro k o2 l h1 h2 h3
    rcases getElem?_append_some h1 with h4 | ⟨h4, h5⟩
    · rcases getElem?_set_some h4 with ⟨e1, rfl, _⟩ | ⟨e1, h6⟩
      · cases h3
      · have : k < β.length := by rw [h.len]; exact (List.getElem?_eq_some_iff.1 h6).1
        rw [List.getElem?_append_left this] at h2
        exact .inl ⟨Ne.symm e1, h6, h2⟩
    · simp only [List.length_set] at h4 h5
      have hk : k = st.objs.length := by
        have := (List.getElem?_eq_some_iff.1 h5).1
        simp at this; omega
      subst hk
      simp at h5
      rw [← h.len, List.getElem?_append_right (Nat.le_refl _)] at h2
      simp at h2
      exact .inr ⟨rfl, h5.symm, h2.symm⟩
  have A : Adv β st.objs w (β ++ [.at b cap]) (st.objs.set id .dead ++ [.arr t sh (xs ++ ys)]) (w.setCells b (xs.length * t.size) vs) := by
    refine ⟨⟨_, rfl⟩, setCells_keep hb _ fun off h1 h2 => ⟨id, _, _, ho, hl, rfl, fun _ => h1⟩, fun b' off _ hw' => ?_, fun k g p ts j hk => ?_, fun k t' sh' xs' hk hk' => ?_, by simp, setCells_recs hb⟩
    · obtain ⟨k, o2, l, h1, h2, h3⟩ := hw'
      rcases old k o2 l h1 h2 (wrO_at h3).1 with ⟨_, h4, h5⟩ | ⟨_, rfl, rfl⟩
      · exact ⟨k, o2, l, h4, h5, h3⟩
      · refine ⟨id, _, _, ho, hl, h3.1, fun hsh => ?_⟩
        have := h3.2 hsh
        refine Nat.le_trans (Nat.mul_le_mul_right _ ?_) this
        simp
    · by_cases e : id = k
      · subst e; rw [ho] at hk; cases hk
      · exact ⟨ts, j, getElem?_append_left' (by rw [List.getElem?_set, if_neg e]; exact hk)⟩
    · rw [List.getElem?_append_left (by simpa using hk)] at hk'
      rcases getElem?_set_some hk' with ⟨e1, e2, _⟩ | ⟨e1, h1⟩
      · cases e2
      · exact ⟨sh', xs', h1, rfl⟩
  have G := A.goes (Fb := Fb) h.len
  refine ⟨A, h.adv A (by simp [h.len]) (fun k o2 l h1 h2 => ?_) (fun k j p q b1 c c' h1 h2 h3 h4 h5 h6 => ?_) (fun k p b1 c h1 h2 h3 => ?_)⟩
  · by_cases ha2 : alive o2 = true
    · rcases old k o2 l h1 h2 ha2 with ⟨hne, h4, h5⟩ | ⟨_, rfl, rfl⟩
      · refine (h.obj k o2 l h4 h5).goes G fun b2 cap2 e2 => ?_
        subst e2
        refine setCells_other _ _ _ _ _ fun e3 => ?_
        subst e3
        exact hne (h.inj k id o2 _ _ _ _ h4 ha2 h5 ho rfl hl)
      · refine ⟨_, e, fr, setCells_heap b vs _ w arr e fr hb, by rw [setA_size]; exact hs, by simpa using hcap, by rw [setA_size]; exact hfr, ?_⟩
        have hc1 : Cover β st.objs w (NN Fb β st.objs) t xs (fun k => (arr[k]?).getD undef) := by
          intro i x j c hx hc
          have hj : j < t.size := by rw [← cells_length t x]; exact (List.getElem?_eq_some_iff.1 hc).1
          have hi := (List.getElem?_eq_some_iff.1 hx).1
          have : i * t.size + j < arr.size := by rw [hs]; exact mulIdx (by omega) hj
          exact hrel i x j c _ hx hc (by simp [this])
        have hc2 := (hc1.append hcov).goes G
        intro i x j c v hx hc hv
        have hj : j < t.size := by rw [← cells_length t x]; exact (List.getElem?_eq_some_iff.1 hc).1
        have hi : i < xs.length + ys.length := by have := (List.getElem?_eq_some_iff.1 hx).1; simpa using this
        have := hc2 i x j c hx hc
        have hval : v = (if i * t.size + j < xs.length * t.size then (arr[i * t.size + j]?).getD undef else f (i * t.size + j - xs.length * t.size)) := by
          split
          · rename_i hlt
            rw [setA_out _ _ _ _ (.inl hlt)] at hv
            rw [hv]; rfl
          · rename_i hge
            obtain ⟨d, hd⟩ : ∃ d, i * t.size + j = xs.length * t.size + d := ⟨i * t.size + j - xs.length * t.size, by omega⟩
            have hdl : d < ys.length * t.size := by
              have := mulIdx (s := t.size) hi hj
              rw [Nat.add_mul] at this; omega
            rw [hd] at hv ⊢
            rw [setA_in vs arr _ d (f d) (hvs d hdl) (by rw [hs]; have := Nat.mul_le_mul_right t.size hcap; rw [Nat.add_mul] at this; omega)] at hv
            rw [Nat.add_sub_cancel_left]
            exact (Option.some.inj hv).symm
        rw [hval]; exact this
    · cases o2 with
      | dead => trivial
      | _ => exact absurd rfl ha2
  · rcases old k p _ h1 h3 h2 with ⟨hne, p1, p2⟩ | ⟨e1, rfl, p2⟩ <;> rcases old j q _ h4 h6 h5 with ⟨hne', q1, q2⟩ | ⟨e2, rfl, q2⟩
    · exact h.inj k j p q b1 c c' p1 h2 p2 q1 h5 q2
    · cases q2
      exact absurd (h.inj k id p _ _ _ _ p1 h2 p2 ho rfl hl) hne
    · cases p2
      exact absurd (h.inj j id q _ _ _ _ q1 h5 q2 ho rfl hl) hne'
    · omega
  · rcases old k p _ h1 h3 h2 with ⟨hne, p1, p2⟩ | ⟨e1, rfl, p2⟩
    · exact h.fb k p b1 c p1 h2 p2
    · cases p2
      exact h.fb id _ b cap ho rfl hl
end
end Go.Ev
