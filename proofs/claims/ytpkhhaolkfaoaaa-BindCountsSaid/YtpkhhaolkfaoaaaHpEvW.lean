/-
  THE EVALUATOR, PART 23: objects are picked and renumbered.
-/
import Derived.Test.YtpkhhaolkfaoaaaHpEvV
set_option linter.unusedVariables false
set_option linter.unusedSimpArgs false
set_option linter.unusedSectionVars false
namespace Go.Ev

theorem posOf_some : ∀ {l : List Nat} {i j : Nat}, posOf l i = some j → l[j]? = some i
  | [], _, _, h => by cases h
  | k :: l, i, j, h => by
    simp only [posOf, cond_eq_ite, beq_iff_eq] at h
    split at h
    · rename_i e; cases h; simp [e]
    · obtain ⟨j', h', rfl⟩ := Option.map_eq_some_iff.1 h
      simpa using posOf_some h'

theorem reach_spec : ∀ (n : Nat) (objs : List AObj) (q acc : List Nat), acc.Nodup → (∃ e, reach n objs q acc = acc ++ e ∧ ∀ i ∈ e, i < objs.length) ∧ (reach n objs q acc).Nodup
  | 0, _, _, acc, h => ⟨⟨[], by simp [reach]⟩, h⟩
  | n + 1, _, [], acc, h => ⟨⟨[], by simp [reach]⟩, h⟩
  | n + 1, objs, i :: q, acc, h => by
    unfold reach
    simp only [cond_eq_ite, Bool.or_eq_true, decide_eq_true_eq]
    split
    · exact reach_spec n objs q acc h
    · rename_i hc
      have hn : (acc ++ [i]).Nodup := by
        rw [List.nodup_append]
        refine ⟨h, by simp, fun a ha b hb => ?_⟩
        simp at hb
        subst hb
        intro e
        subst e
        exact hc (.inl (by simpa using ha))
      obtain ⟨⟨e, he, h3⟩, h2⟩ := reach_spec n objs (q ++ objRefs ((objs[i]?).getD .dead)) (acc ++ [i]) hn
      refine ⟨⟨[i] ++ e, by rw [he]; simp, fun k hk => ?_⟩, h2⟩
      simp at hk
      rcases hk with rfl | hk
      · exact Nat.lt_of_not_le fun h => hc (.inr h)
      · exact h3 k hk

theorem nodup_inj {l : List Nat} (h : l.Nodup) {i j : Nat} (hi : i < l.length) (hj : j < l.length) (e : l[i] = l[j]) : i = j := by
  have := List.pairwise_iff_getElem.1 h
  rcases Nat.lt_trichotomy i j with h1 | h1 | h1
  · exact absurd e (this i j hi hj h1)
  · exact h1
  · exact absurd e.symm (this j i hj hi h1)
def pickB (β : List Loc) (ids : List Nat) : List Loc := ids.map fun i => (β[i]?).getD .nil

theorem pickO_get {objs : List AObj} {ids : List Nat} {j : Nat} {o : AObj} (h : (pickO objs ids)[j]? = some o) : ∃ i, ids[j]? = some i ∧ o = renO (posOf ids) (objAt objs i) := by
  obtain ⟨i, hi, rfl⟩ := getElem?_map_some h
  exact ⟨i, hi, rfl⟩
theorem pickB_get {β : List Loc} {ids : List Nat} {j : Nat} {l : Loc} (h : (pickB β ids)[j]? = some l) : ∃ i, ids[j]? = some i ∧ l = (β[i]?).getD .nil := by
  obtain ⟨i, hi, rfl⟩ := getElem?_map_some h
  exact ⟨i, hi, rfl⟩
theorem alive_renO {ρ : Nat → Option Nat} {o : AObj} : alive (renO ρ o) = alive o := by cases o <;> rfl
theorem wrO_renO {ρ : Nat → Option Nat} {o : AObj} {l : Loc} {b off : Nat} : wrO (renO ρ o) l b off ↔ wrO o l b off := by cases o <;> cases l <;> exact Iff.rfl
theorem alive_some {objs : List AObj} {i : Nat} (h : alive (objAt objs i) = true) : objs[i]? = some (objAt objs i) := objAt_some rfl h
theorem renO_arr {ρ : Nat → Option Nat} {o : AObj} {t : Ty} {sh : Bool} {xs : List (T t)} (h : renO ρ o = .arr t sh xs) : o = .arr t sh xs := by
  cases o <;> simp_all [renO]

section
variable {cx : Cx} {Fb : Nat → Nat → Prop} {β : List Loc} {st : St} {a : Act} {w : World}

theorem wr_pick {objs : List AObj} {ids : List Nat} (hlen : β.length = objs.length) {b off : Nat} (h : Wr (pickB β ids) (pickO objs ids) b off) : ∃ (i : Nat) (o : AObj) (l : Loc), i ∈ ids ∧ objs[i]? = some o ∧ β[i]? = some l ∧ wrO o l b off := by
  obtain ⟨j, o, l, h1, h2, h3⟩ := h
  obtain ⟨i, hi, rfl⟩ := pickO_get h1
  obtain ⟨i', hi', rfl⟩ := pickB_get h2
  rw [hi] at hi'; cases hi'
  rw [wrO_renO] at h3
  obtain ⟨ha, cap, hl⟩ := wrO_at h3
  have ho := alive_some ha
  refine ⟨i, _, _, List.mem_of_getElem? hi, ho, ?_, h3⟩
  cases hβ : β[i]? with
  | none => rw [hβ] at hl; simp at hl
  | some l => simp

theorem ren_pick (h : Rel cx Fb β st a w) (ids : List Nat) : Ren (posOf ids) β (pickB β ids) st.objs (pickO st.objs ids) w w (NN Fb β st.objs) (NN Fb (pickB β ids) (pickO st.objs ids)) := by
  refine ⟨fun i j l hp hl => ?_, fun i j t sh xs hp hi ho => ?_, fun _ _ _ h => h, fun ad v _ hn => ?_⟩
  · have := posOf_some hp
    simp [pickB, this, hl]
  · have := posOf_some hp
    obtain ⟨i', hi', ho'⟩ := pickO_get ho
    rw [this] at hi'; cases hi'
    have := renO_arr ho'.symm
    exact ⟨sh, xs, objAt_some this rfl, rfl⟩
  · rcases hn with hn | hn
    · exact .inl hn
    · obtain ⟨i, o, l, _, h1, h2, h3⟩ := wr_pick h.len hn
      exact .inr ⟨i, o, l, h1, h2, h3⟩

theorem RelL.ren {ρ : Nat → Option Nat} {β' : List Loc} {objs objs' : List AObj} {w' : World} {N N' : Nat → Nat → Prop} (g : Ren ρ β β' objs objs' w w' N N') (n : Nat) {cs : List AVal} {vs : Array Value} (h : RelL β objs w N cs vs) :
    RelL β' objs' w' N' (cs.map (renV n ρ)) vs := by
  refine ⟨by simpa using h.1, fun i c v hc hv => ?_⟩
  obtain ⟨d, hd, rfl⟩ := getElem?_map_some hc
  exact RelV.ren g n (h.2 i d v hd hv)

theorem ObjRel.ren {ρ : Nat → Option Nat} {β' : List Loc} {objs objs' : List AObj} {w' : World} {N N' : Nat → Nat → Prop} (g : Ren ρ β β' objs objs' w w' N N') {o : AObj} {l : Loc}
    (hb : ∀ b cap, l = .at b cap → w'.heap[b]? = w.heap[b]?) (h : ObjRel cx β objs w N o l) : ObjRel cx β' objs' w' N' (renO ρ o) l := by
  cases o with
  | dead => trivial
  | box cs =>
    obtain ⟨b, cap, vs, e, fr, rfl, h1, h2, h3⟩ := h
    exact ⟨b, cap, vs, e, fr, rfl, (hb b cap rfl).trans h1, h2, h3.ren g 3⟩
  | arr t sh xs =>
    cases l with
    | nil => exact h
    | «at» b cap =>
      obtain ⟨vs, e, fr, h1, h2, h3, h4, h5⟩ := h
      exact ⟨vs, e, fr, (hb b cap rfl).trans h1, h2, h3, h4, fun i x j c v a b d => (h5 i x j c v a b d).data g.cell g.data (cells_data t x c (List.mem_of_getElem? b))⟩
  | frm f p ts j =>
    obtain ⟨b, cap, tmps, blk, gg, ps, asg, body, fn, rfl, h1, h2, h3, h4⟩ := h
    exact ⟨b, cap, tmps, blk, gg, ps, asg, body, fn, rfl, h1, (hb b cap rfl).trans h2, h3.ren g 3, h4⟩
  | mp kt vt ks vs =>
    obtain ⟨b, cap, es, clk, rfl, h1, h2, h3, h4⟩ := h
    exact ⟨b, cap, es, clk, rfl, (hb b cap rfl).trans h1, h2, h3, fun i k v e x y z => ⟨(h4 i k v e x y z).1.boxData g.cell g.data, (h4 i k v e x y z).2.boxData g.cell g.data⟩⟩
  | sit s pos =>
    obtain ⟨b, cap, rfl, h1⟩ := h
    exact ⟨b, cap, rfl, (hb b cap rfl).trans h1⟩

/-- Objects are picked. -/
theorem Rel.pick (h : Rel cx Fb β st a w) (ids : List Nat) (hnd : ids.Nodup) {Fb' : Nat → Nat → Prop} (hFb : ∀ (i : Nat) (o : AObj) (b c : Nat), i ∈ ids → st.objs[i]? = some o → alive o = true → β[i]? = some (.at b c) → ∀ off, ¬ Fb' b off)
    (hsub : ∀ b off, b < w.heap.size → Fb' b off → NN Fb β st.objs b off) {ts : List AVal} {a' : Act} (hts : RelL β st.objs w (NN Fb β st.objs) ts a'.tmps) :
    Rel cx Fb' (pickB β ids) { tmps := ts.map (renV 3 (posOf ids)), objs := pickO st.objs ids } a' w := by
  have g0 := ren_pick h ids
  have g : Ren (posOf ids) β (pickB β ids) st.objs (pickO st.objs ids) w w (NN Fb β st.objs) (NN Fb' (pickB β ids) (pickO st.objs ids)) := by
    refine ⟨g0.loc, g0.arr, g0.cell, fun ad v hv hn => ?_⟩
    rcases hn with hn | hn
    · obtain ⟨vs, e, fr, hb, _⟩ := cell?_some.1 hv
      exact hsub _ _ (lt_of_get hb) hn
    · exact g0.data ad v hv (.inr hn)
  have back : ∀ {j : Nat} {o : AObj} {b c : Nat}, (pickO st.objs ids)[j]? = some o → alive o = true → (pickB β ids)[j]? = some (.at b c) → ∃ i o', ids[j]? = some i ∧ st.objs[i]? = some o' ∧ alive o' = true ∧ β[i]? = some (.at b c) := by
    intro j o b c h1 h2 h3
    obtain ⟨i, hi, rfl⟩ := pickO_get h1
    obtain ⟨i', hi', hl⟩ := pickB_get h3
    rw [hi] at hi'; cases hi'
    rw [alive_renO] at h2
    refine ⟨i, _, hi, alive_some h2, h2, ?_⟩
    cases hβ : β[i]? with
    | none => rw [hβ] at hl; cases hl
    | some l => rw [hβ] at hl; simp at hl; rw [hl]
  refine ⟨hts.ren g 3, by simp [pickB, pickO], fun j o l h1 h2 => ?_, fun i j o o' b c c' h1 h2 h3 h4 h5 h6 => ?_, fun j o b c h1 h2 h3 => ?_⟩
  · obtain ⟨i, hi, rfl⟩ := pickO_get h1
    obtain ⟨i', hi', rfl⟩ := pickB_get h2
    rw [hi] at hi'; cases hi'
    by_cases ha : alive (objAt st.objs i) = true
    · have ho := alive_some ha
      have hlt : i < β.length := by rw [h.len]; exact (List.getElem?_eq_some_iff.1 ho).1
      have hβ : β[i]? = some β[i] := by simp [hlt]
      rw [hβ]
      exact (h.obj i _ _ ho hβ).ren g fun _ _ _ => rfl
    · have : objAt st.objs i = .dead := by
        cases ho : objAt st.objs i with
        | dead => rfl
        | _ => rw [ho] at ha; exact absurd rfl ha
      rw [this]; trivial
  · obtain ⟨i1, o1, a1, a2, a3, a4⟩ := back h1 h2 h3
    obtain ⟨i2, o2, b1, b2, b3, b4⟩ := back h4 h5 h6
    have := h.inj i1 i2 o1 o2 b c c' a2 a3 a4 b2 b3 b4
    subst this
    have hi := (List.getElem?_eq_some_iff.1 a1).1
    have hj := (List.getElem?_eq_some_iff.1 b1).1
    have e1 : ids[i] = i1 := by simp [hi] at a1; exact a1
    have e2 : ids[j] = i1 := by simp [hj] at b1; exact b1
    exact nodup_inj hnd hi hj (e1.trans e2.symm)
  · obtain ⟨i1, o1, a1, a2, a3, a4⟩ := back h1 h2 h3
    exact hFb i1 o1 b c (List.mem_of_getElem? a1) a2 a3 a4

theorem Adv.pick {β0 : List Loc} {objs0 : List AObj} {w0 : World} {objs : List AObj} (A : Adv β0 objs0 w0 β objs w) (hl0 : β0.length = objs0.length) (hlen : β.length = objs.length) {ids e : List Nat} (hids : ids = List.range objs0.length ++ e) :
    Adv β0 objs0 w0 (pickB β ids) (pickO objs ids) w := by
  have get : ∀ i, i < objs0.length → ids[i]? = some i := fun i hi => by
    rw [hids, List.getElem?_append_left (by simpa using hi)]; simp [hi]
  have objOf : ∀ i, i < objs0.length → (pickO objs ids)[i]? = some (renO (posOf ids) (objAt objs i)) := fun i hi => by
    simp [pickO, get i hi, objAt]
  obtain ⟨ls, rfl⟩ := A.pre
  refine ⟨⟨pickB (β0 ++ ls) e, ?_⟩, A.keep, fun b off hb hw => ?_, fun i f p ts j hi => ?_, fun i t sh xs hi ho => ?_, by simp [pickO, hids], A.lp⟩
  · rw [hids, pickB, List.map_append]
    congr 1
    apply List.ext_getElem?
    intro i
    by_cases hi : i < objs0.length
    · have hb : i < β0.length := by omega
      simp [hi, hb, List.getElem?_append_left hb]
    · rw [List.getElem?_eq_none (by simp; omega), List.getElem?_eq_none (by omega)]
  · obtain ⟨i, o, l, _, h1, h2, h3⟩ := wr_pick hlen hw
    exact A.wr b off hb ⟨i, o, l, h1, h2, h3⟩
  · have hlt := (List.getElem?_eq_some_iff.1 hi).1
    obtain ⟨ts', j', h1⟩ := A.frm i f p ts j hi
    refine ⟨_, j', by rw [objOf i hlt]; simp [objAt, h1, renO]; rfl⟩
  · rw [objOf i hi] at ho
    have := renO_arr (Option.some.inj ho)
    exact A.arr i t sh xs hi (objAt_some this rfl)

theorem keepOnly_get {live : List Nat} : ∀ (ts : List AVal) (k : Nat), (keepOnly live k ts).length = ts.length ∧ ∀ (i : Nat) c, (keepOnly live k ts)[i]? = some c → c = .undef ∨ ts[i]? = some c
  | [], _ => ⟨rfl, by simp [keepOnly]⟩
  | t :: ts, k => by
    obtain ⟨h1, h2⟩ := keepOnly_get ts (k + 1) (live := live)
    refine ⟨by simp [keepOnly, h1], fun i c hc => ?_⟩
    cases i with
    | zero =>
      simp only [keepOnly, List.getElem?_cons_zero, Option.some.injEq, cond_eq_ite] at hc
      split at hc
      · exact .inr (by simp [hc])
      · exact .inl hc.symm
    | succ i => simpa using h2 i c (by simpa [keepOnly] using hc)

theorem canon_rel (h : Rel cx Fb β st a w) {β0 : List Loc} {objs0 : List AObj} {w0 : World} (A : Adv β0 objs0 w0 β st.objs w) (hl0 : β0.length = objs0.length) (live : List Nat) :
    ∃ β', Adv β0 objs0 w0 β' (canon objs0.length live st).objs w ∧ Rel cx Fb β' (canon objs0.length live st) a w := by
  obtain ⟨⟨e, he, _⟩, hnd⟩ := reach_spec 200 st.objs ((st.objs.take objs0.length).flatMap objRefs ++ (keepOnly live 0 st.tmps).flatMap (refs 3)) (List.range objs0.length) List.nodup_range
  refine ⟨_, A.pick hl0 h.len he, h.pick _ hnd (fun i o b c _ h1 h2 h3 => h.fb i o b c h1 h2 h3) (fun b off _ hF => .inl hF) ⟨?_, fun i c v hc hv => ?_⟩⟩
  · exact (keepOnly_get st.tmps 0).1.trans h.tmps.1
  · rcases (keepOnly_get st.tmps 0).2 i c hc with rfl | hc
    · exact .undef _
    · exact h.tmps.2 i c v hc hv
end
end Go.Ev
