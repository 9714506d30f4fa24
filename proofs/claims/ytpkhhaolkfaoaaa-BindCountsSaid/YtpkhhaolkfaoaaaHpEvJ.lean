/-
  THE EVALUATOR, PART 10: an object is changed; a row grows in place.
-/
import Derived.Test.YtpkhhaolkfaoaaaHpEvI
set_option linter.unusedVariables false
set_option linter.unusedSimpArgs false
set_option linter.unusedSectionVars false
namespace Go.Ev

/-- Cells that are written, one behind the other. -/
def setA (a : Array Value) (o : Nat) : List Value → Array Value
  | [] => a
  | v :: vs => setA (a.setIfInBounds o v) (o + 1) vs
theorem setA_size (vs : List Value) : ∀ (a : Array Value) (o : Nat), (setA a o vs).size = a.size := by
  induction vs with
  | nil => intro a o; rfl
  | cons v vs ih => intro a o; rw [setA, ih]; simp
theorem setA_out (vs : List Value) : ∀ (a : Array Value) (o k : Nat), (k < o ∨ o + vs.length ≤ k) → (setA a o vs)[k]? = a[k]? := by
  induction vs with
  | nil => intro a o k _; rfl
  | cons v vs ih =>
    intro a o k h
    rw [setA, ih _ _ _ (by simp at h; omega), Array.getElem?_setIfInBounds, if_neg (by simp at h; omega)]
theorem setA_in (vs : List Value) : ∀ (a : Array Value) (o j : Nat) (v : Value), vs[j]? = some v → o + j < a.size → (setA a o vs)[o + j]? = some v := by
  induction vs with
  | nil => intro a o j v h _; simp at h
  | cons u vs ih =>
    intro a o j v h hlt
    cases j with
    | zero =>
      simp only [List.getElem?_cons_zero, Option.some.injEq] at h
      subst h
      rw [setA, setA_out _ _ _ _ (by omega)]
      simp only [Nat.add_zero] at hlt ⊢
      simp [Array.getElem?_setIfInBounds, hlt]
    | succ j =>
      rw [setA, show o + (j + 1) = o + 1 + j from by omega]
      exact ih _ _ _ _ (by simpa using h) (by simp; omega)
theorem setCells_heap (b : Nat) : ∀ (vs : List Value) (o : Nat) (w : World) (cur : Array Value) (e : TypeId) (fr : Nat × Nat), w.heap[b]? = some (.cells cur e fr) →
    (w.setCells b o vs).heap[b]? = some (.cells (setA cur o vs) e fr)
  | [], _, _, _, _, _, h => h
  | v :: vs, o, w, cur, e, fr, h => by
    rw [World.setCells, setA]
    refine setCells_heap b vs (o + 1) _ _ e fr ?_
    simp [World.setCell, Array.getElem?_modify, h]
theorem setCells_other (b : Nat) : ∀ (vs : List Value) (o : Nat) (w : World) (k : Nat), k ≠ b → (w.setCells b o vs).heap[k]? = w.heap[k]?
  | [], _, _, _, _ => rfl
  | v :: vs, o, w, k, h => by
    rw [World.setCells, setCells_other b vs (o + 1) _ k h]
    simp [World.setCell, Array.getElem?_modify, Ne.symm h]
theorem setCells_rest (b : Nat) : ∀ (vs : List Value) (o : Nat) (w : World), (w.setCells b o vs).os = w.os ∧ (w.setCells b o vs).tape = w.tape ∧ (w.setCells b o vs).output = w.output ∧ (w.setCells b o vs).heap.size = w.heap.size
  | [], _, _ => ⟨rfl, rfl, rfl, rfl⟩
  | v :: vs, o, w => by
    rw [World.setCells]
    obtain ⟨h1, h2, h3, h4⟩ := setCells_rest b vs (o + 1) (w.setCell ⟨b, o, none⟩ v)
    exact ⟨h1, h2, h3, by rw [h4]; simp [World.setCell]⟩
theorem setCells_keep {w : World} {b o : Nat} {vs : List Value} {cur : Array Value} {e : TypeId} {fr : Nat × Nat} (h : w.heap[b]? = some (.cells cur e fr)) (W : Nat → Nat → Prop)
    (hW : ∀ off, o ≤ off → off < o + vs.length → W b off) : Keep W w (w.setCells b o vs) := by
  obtain ⟨h1, h2, h3, h4⟩ := setCells_rest b vs o w
  refine ⟨h1, h2, h3, by omega, fun k hk hn => ?_, fun k cs e' fr' hk => ?_⟩
  · by_cases e1 : k = b
    · subst e1
      rw [setCells_heap k vs o w cur e fr h, h]
      have : vs = [] := by
        cases vs with
        | nil => rfl
        | cons v vs => exact absurd (hW o (Nat.le_refl _) (by simp)) (hn o)
      rw [this]; rfl
    · exact setCells_other b vs o w k e1
  · by_cases e1 : k = b
    · subst e1
      rw [h] at hk; cases hk
      exact ⟨_, setCells_heap k vs o w cur e fr h, setA_size _ _ _, fun off hn => setA_out _ _ _ _ (by
        rcases Nat.lt_or_ge off o with h' | h'
        · exact .inl h'
        · rcases Nat.lt_or_ge off (o + vs.length) with h'' | h''
          · exact absurd (hW off h' h'') hn
          · exact .inr h'')⟩
    · exact ⟨cs, (setCells_other b vs o w k e1).trans hk, rfl, fun _ _ => rfl⟩

theorem setCells_recs {w : World} {b o : Nat} {vs : List Value} {cur : Array Value} {e : TypeId} {fr : Nat × Nat} (h : w.heap[b]? = some (.cells cur e fr)) : Recs w (w.setCells b o vs) := fun k L hk => by
  by_cases e1 : k = b
  · subst e1; rw [h] at hk; cases hk
  · exact ⟨L, (setCells_other b vs o w k e1).trans hk, rfl⟩
theorem setCells_length (vs : List AVal) : ∀ (cs : List AVal) (o : Nat), (setCells cs o vs).length = cs.length := by
  induction vs with
  | nil => intro cs o; rfl
  | cons v vs ih => intro cs o; rw [setCells, ih]; simp
theorem RelL.setCells {β : List Loc} {objs : List AObj} {w : World} {N : Nat → Nat → Prop} : ∀ (us : List AVal) (vs : List Value) (cs : List AVal) (arr : Array Value) (o : Nat),
    RelL β objs w N cs arr → us.length = vs.length → (∀ (j : Nat) c v, us[j]? = some c → vs[j]? = some v → RelV β objs w N c v) → RelL β objs w N (setCells cs o us) (setA arr o vs)
  | [], [], _, _, _, h, _, _ => h
  | [], _ :: _, _, _, _, _, hl, _ => by simp at hl
  | _ :: _, [], _, _, _, _, hl, _ => by simp at hl
  | u :: us, v :: vs, cs, arr, o, h, hl, hr => by
    rw [Ev.setCells, setA]
    exact RelL.setCells us vs _ _ (o + 1) (h.set o (hr 0 u v rfl rfl)) (by simpa using hl) fun j c v a b => hr (j + 1) c v (by simpa using a) (by simpa using b)

/-- A value's cells. -/
theorem valCells_rel {β : List Loc} {objs : List AObj} {w : World} {N : Nat → Nat → Prop} {c : AVal} {v : Value} (h : RelV β objs w N c v) (hok : okCells c = true) :
    RelL β objs w N (valCells c) v.cells ∧ ∀ u ∈ v.cells.toList, u.oneCell' = true := by
  have single : c.scalar = true → valCells c = [c] → v.cells = #[v] → RelL β objs w N (valCells c) v.cells ∧ ∀ u ∈ v.cells.toList, u.oneCell' = true := by
    intro hs e1 e2
    rw [e1, e2]
    refine ⟨⟨rfl, fun i c' v' hc hv => ?_⟩, fun u hu => by simp at hu; subst hu; exact h.one hs⟩
    cases i with
    | zero => simp at hc hv; subst hc; subst hv; exact h
    | succ i => simp at hc
  cases h with
  | agg hl hr =>
    refine ⟨⟨hl, hr⟩, fun u hu => ?_⟩
    rename_i cs vs
    obtain ⟨i, hi, rfl⟩ := List.getElem_of_mem hu
    have hi' : i < vs.size := by simpa [Value.cells] using hi
    have hci : cs[i]? = some (cs[i]'(by omega)) := by simp [show i < cs.length by omega]
    have := hr i _ (vs[i]) hci (by simp [hi'])
    simp only [okCells, List.all_eq_true] at hok
    simpa [Value.cells] using this.one (hok _ (List.getElem_mem _))
  | undef v => simp [okCells, AVal.scalar] at hok
  | tup _ _ => simp [okCells, AVal.scalar] at hok
  | it _ => simp [okCells, AVal.scalar] at hok
  | own hid one hv =>
    refine single rfl rfl ?_
    cases v <;> first | rfl | (simp [Value.oneCell'] at one)
  | aref hid one hv =>
    refine single rfl rfl ?_
    cases v <;> first | rfl | (simp [Value.oneCell'] at one)
  | _ => exact single rfl rfl rfl

section
variable {cx : Cx} {Fb : Nat → Nat → Prop} {β : List Loc} {st : St} {a : Act} {w : World}

theorem getElem?_set_some {α : Type} {l : List α} {i j : Nat} {x y : α} (h : (l.set i x)[j]? = some y) : (i = j ∧ y = x ∧ i < l.length) ∨ (i ≠ j ∧ l[j]? = some y) := by
  rw [List.getElem?_set] at h
  by_cases e : i = j
  · rw [if_pos e] at h
    split at h
    · rename_i hl; exact .inl ⟨e, by simpa using h.symm, hl⟩
    · cases h
  · rw [if_neg e] at h; exact .inr ⟨e, h⟩

/-- An object is changed where it lies. -/
theorem Rel.setObj (h : Rel cx Fb β st a w) {id b cap : Nat} {o o' : AObj} {w' : World} (ho : st.objs[id]? = some o) (hl : β[id]? = some (.at b cap)) (ha : alive o = true)
    (hw : ∀ b' off, wrO o' (.at b cap) b' off → wrO o (.at b cap) b' off) (hkeep : Keep (fun b' off => wrO o (.at b cap) b' off) w w')
    (hother : ∀ b', b' ≠ b → b' < w.heap.size → w'.heap[b']? = w.heap[b']?)
    (hrec : Recs w w') (hfrm : ∀ f p ts j, o = .frm f p ts j → ∃ ts' j', o' = .frm f p ts' j')
    (harr : ∀ t sh xs, o' = .arr t sh xs → ∃ sh0 xs0, o = .arr t sh0 xs0 ∧ xs0.length = xs.length)
    (hobj : Goes β β st.objs (st.objs.set id o') w w' (NN Fb β st.objs) (NN Fb β (st.objs.set id o')) → ObjRel cx β (st.objs.set id o') w' (NN Fb β (st.objs.set id o')) o' (.at b cap)) :
    Adv β st.objs w β (st.objs.set id o') w' ∧ Rel cx Fb β { st with objs := st.objs.set id o' } a w' := by
  have A : Adv β st.objs w β (st.objs.set id o') w' := by
    refine ⟨⟨[], by simp⟩, hkeep.mono fun b' off _ hw' => ⟨id, o, _, ho, hl, hw'⟩, fun b' off _ hw' => ?_, fun i f p ts j hi => ?_, fun i t sh xs hi hi' => ?_, by simp, hrec⟩
    · obtain ⟨i, o2, l, h1, h2, h3⟩ := hw'
      rcases getElem?_set_some h1 with ⟨e1, rfl, _⟩ | ⟨e1, h1⟩
      · subst e1
        rw [hl] at h2; cases h2
        exact ⟨id, o, _, ho, hl, hw _ _ h3⟩
      · exact ⟨i, o2, l, h1, h2, h3⟩
    · by_cases e : id = i
      · subst e
        rw [ho] at hi; cases hi
        obtain ⟨ts', j', hj⟩ := hfrm f p ts j rfl
        exact ⟨ts', j', by rw [hj]; simp [(List.getElem?_eq_some_iff.1 ho).1]⟩
      · exact ⟨ts, j, by rw [List.getElem?_set, if_neg e]; exact hi⟩
    · rcases getElem?_set_some hi' with ⟨e1, e2, _⟩ | ⟨e1, h1⟩
      · subst e1
        obtain ⟨sh0, xs0, h1, h2⟩ := harr t sh xs e2.symm
        exact ⟨sh0, xs0, by rw [ho, h1], h2⟩
      · exact ⟨sh, xs, h1, rfl⟩
  have G := A.goes (Fb := Fb) h.len
  have alive' : ∀ (i : Nat) (o2 : AObj), (st.objs.set id o')[i]? = some o2 → alive o2 = true → ∃ o3, st.objs[i]? = some o3 ∧ alive o3 = true := by
    intro i o2 h1 h2
    rcases getElem?_set_some h1 with ⟨e1, rfl, _⟩ | ⟨e1, h1⟩
    · subst e1; exact ⟨o, ho, ha⟩
    · exact ⟨o2, h1, h2⟩
  refine ⟨A, h.adv A (by simp [h.len]) (fun i o2 l h1 h2 => ?_) (fun i j p q b1 c c' h1 h2 h3 h4 h5 h6 => ?_) (fun i p b1 c h1 h2 h3 => ?_)⟩
  · rcases getElem?_set_some h1 with ⟨e1, rfl, _⟩ | ⟨e1, h1⟩
    · subst e1
      rw [hl] at h2; cases h2
      exact hobj G
    · by_cases ha2 : alive o2 = true
      · refine (h.obj i o2 l h1 h2).goes G fun b2 cap2 e2 => ?_
        subst e2
        have hlt := (h.obj i o2 _ h1 h2).lt ha2
        refine hother b2 (fun e3 => ?_) hlt
        subst e3
        exact e1 (h.inj id i o o2 _ _ _ ho ha hl h1 ha2 h2)
      · cases o2 with
        | dead => trivial
        | _ => exact absurd rfl ha2
  · obtain ⟨p', hp1, hp2⟩ := alive' i p h1 h2
    obtain ⟨q', hq1, hq2⟩ := alive' j q h4 h5
    exact h.inj i j p' q' b1 c c' hp1 hp2 h3 hq1 hq2 h6
  · obtain ⟨p', hp1, hp2⟩ := alive' i p h1 h2
    exact h.fb i p' b1 c hp1 hp2 h3

/-- A store into a variable. -/
theorem Rel.storeBox (h : Rel cx Fb β st a w) {id b cap off : Nat} {cs us : List AVal} {vs : List Value} (ho : st.objs[id]? = some (.box cs)) (hl : β[id]? = some (.at b cap))
    (hle : off + us.length ≤ cs.length) (hlen : us.length = vs.length) (hr : ∀ (j : Nat) c v, us[j]? = some c → vs[j]? = some v → RelV β st.objs w (NN Fb β st.objs) c v) (h1 : ∀ v ∈ vs, v.oneCell' = true) :
    (storeCells ⟨b, off, none⟩ vs).run cx.prog w = .ok () (w.setCells b off vs) ∧
    Adv β st.objs w β (st.objs.set id (.box (setCells cs off us))) (w.setCells b off vs) ∧ Rel cx Fb β { st with objs := st.objs.set id (.box (setCells cs off us)) } a (w.setCells b off vs) := by
  obtain ⟨b', cap', arr, e, fr, hl', hb, hfr, hrel⟩ := h.obj id _ _ ho hl
  cases hl'
  have hsz : cs.length = arr.size := hrel.1
  refine ⟨?_, h.setObj ho hl rfl (fun _ _ h => h) (setCells_keep hb _ fun off _ _ => rfl) (fun b' hne _ => setCells_other _ _ _ _ _ hne) (setCells_recs hb) (by simp) (by simp) fun G => ?_⟩
  · have := run_storeCells_cells (P := cx.prog) b off vs 0 w (fun j hj => ?_) (fun j hj => ?_) h1
    · simpa using this
    · simp only [Nat.add_zero]
      have : off + j < arr.size := by omega
      rw [Option.isSome_iff_exists]
      exact ⟨arr[off + j], cell?_some.2 ⟨arr, e, fr, hb, rfl, by simp [this]⟩⟩
    · simp only [Nat.add_zero, World.frozen?, hb]
      have := hfr (off + j) (by omega)
      simp; omega
  · exact ⟨b, cap, _, e, fr, rfl, setCells_heap b vs off w arr e fr hb, by rw [setA_size]; exact hfr, RelL.setCells us vs _ _ off (hrel.goes G) hlen fun j c v x y => (hr j c v x y).goes G⟩

/-- Rows that are seen as data. -/
theorem Rel.shareId (h : Rel cx Fb β st a w) (i : Nat) : Adv β st.objs w β (shareId i st.objs) w ∧ Rel cx Fb β { st with objs := shareId i st.objs } a w := by
  unfold Ev.shareId
  split
  · rename_i t xs ho
    have ho' := objAt_some ho rfl
    have hlt : i < β.length := by rw [h.len]; exact (List.getElem?_eq_some_iff.1 ho').1
    obtain ⟨l, hβ⟩ : ∃ l, β[i]? = some l := ⟨β[i], by simp [hlt]⟩
    cases l with
    | «at» b cap =>
      refine h.setObj ho' hβ rfl (fun b' off hw => ?_) (Keep.refl _ _) (fun _ _ _ => rfl) (Recs.refl _) (by simp) (fun t' sh' xs' e => ?_) fun G => ?_
      · exact ⟨hw.1, by simp⟩
      · cases e; exact ⟨false, xs, rfl, rfl⟩
      · have := (h.obj i _ _ ho' hβ).goes G (fun _ _ _ => rfl)
        exact this
    | nil =>
      have hx : xs = [] := h.obj i _ _ ho' hβ
      subst hx
      have A : Adv β st.objs w β (st.objs.set i (.arr t true [])) w := by
        refine ⟨⟨[], by simp⟩, Keep.refl _ _, fun b' off _ hw' => ?_, fun k f p ts j hk => ?_, fun k t' sh xs' hk hk' => ?_, by simp, .refl _⟩
        · obtain ⟨k, o2, l, h1, h2, h3⟩ := hw'
          rcases getElem?_set_some h1 with ⟨e1, rfl, _⟩ | ⟨e1, h1⟩
          · subst e1; rw [hβ] at h2; cases h2; exact h3.elim
          · exact ⟨k, o2, l, h1, h2, h3⟩
        · by_cases e : i = k
          · subst e; rw [ho'] at hk; cases hk
          · exact ⟨ts, j, by rw [List.getElem?_set, if_neg e]; exact hk⟩
        · rcases getElem?_set_some hk' with ⟨e1, e2, _⟩ | ⟨e1, h1⟩
          · subst e1; cases e2; exact ⟨false, [], ho', rfl⟩
          · exact ⟨sh, xs', h1, rfl⟩
      have G := A.goes (Fb := Fb) h.len
      have back : ∀ (k : Nat) (o2 : AObj) (b c : Nat), (st.objs.set i (.arr t true []))[k]? = some o2 → alive o2 = true → β[k]? = some (.at b c) → st.objs[k]? = some o2 := by
        intro k o2 b c h1 _ h3
        rcases getElem?_set_some h1 with ⟨e1, rfl, _⟩ | ⟨e1, h1⟩
        · subst e1; rw [hβ] at h3; cases h3
        · exact h1
      refine ⟨A, h.adv A (by simp [h.len]) (fun k o2 l h1 h2 => ?_) (fun k j p q b1 c c' h1 h2 h3 h4 h5 h6 => h.inj k j p q b1 c c' (back _ _ _ _ h1 h2 h3) h2 h3 (back _ _ _ _ h4 h5 h6) h5 h6) (fun k p b1 c h1 h2 h3 => h.fb k p b1 c (back _ _ _ _ h1 h2 h3) h2 h3)⟩
      rcases getElem?_set_some h1 with ⟨e1, rfl, _⟩ | ⟨e1, h1⟩
      · subst e1; rw [hβ] at h2; cases h2; rfl
      · exact (h.obj k o2 l h1 h2).goes G fun _ _ _ => rfl
  · exact ⟨.refl _ _ _, h⟩
theorem Rel.shareV (h : Rel cx Fb β st a w) (v : AVal) : Adv β st.objs w β (shareV st.objs v) w ∧ Rel cx Fb β { st with objs := shareV st.objs v } a w := by
  unfold Ev.shareV
  split
  · exact h.shareId _
  · rename_i cs
    have key : ∀ (cs : List AVal) (st : St), Rel cx Fb β st a w → Adv β st.objs w β (cs.foldl (fun o c => match c with | .own i => Ev.shareId i o | _ => o) st.objs) w ∧
        Rel cx Fb β { st with objs := cs.foldl (fun o c => match c with | .own i => Ev.shareId i o | _ => o) st.objs } a w := by
      intro cs
      induction cs with
      | nil => exact fun st h => ⟨.refl _ _ _, h⟩
      | cons c cs ih =>
        intro st h
        simp only [List.foldl_cons]
        split
        · rename_i i
          obtain ⟨a1, r1⟩ := h.shareId i
          obtain ⟨a2, r2⟩ := ih _ r1
          exact ⟨a1.trans a2, r2⟩
        · exact ih st h
    exact key cs st h
  · exact ⟨.refl _ _ _, h⟩
end
end Go.Ev
