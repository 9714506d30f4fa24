/-
  THE EVALUATOR, PART 38: the same, for operations that store, share or make objects, and for calls.
-/
import Derived.Test.YtpkhhaolkfaoaaaHpEwK
set_option linter.unusedVariables false
set_option linter.unusedSimpArgs false
set_option linter.unusedSectionVars false
namespace Go.Ev
section
variable {cx : Cx} {O : Orc cx} {o : Oper}

theorem Lcl.share {ev : Operand → AVal} {objs objsA os : List AObj} {v : AVal} {S : List Nat} (hS : ∀ x ∈ S, x ∈ rdIds cx ev objs o ∧ (isArr objs x = true → x ∈ wrIds cx ev objs o)) (h1 : ShBy S objs objsA)
    (h : ∀ (ev2 : Operand → AVal) (objs2 : List AObj), (∀ x ∈ o.op.operands, ev2 x = ev x) → objs2.length = objs.length → (∀ x, x ∈ wrIds cx ev objs o ++ rdIds cx ev objs o → objs2[x]? = objs[x]?) →
      ∃ objsB, ShBy S objs2 objsB ∧ ∀ (R : Type) (κ : List AObj → AVal → Option R), aopV cx O o ev2 objs2 κ = κ (objsB ++ os) v) : Lcl O o ev objs (objsA ++ os) v := by
  refine ⟨fun ev2 objs2 he hl ho => ?_⟩
  obtain ⟨objsB, hB, hk⟩ := h ev2 objs2 he hl ho
  have lB : objsB.length = objsA.length := by rw [hB.1, h1.1, hl]
  refine ⟨objsB ++ os, hk, by simp [lB], fun x hx => ?_, fun x hx hn => ?_⟩
  · by_cases h2 : x < objs.length
    · rcases hx with hx | hx
      · omega
      · rw [List.getElem?_append_left (by rw [hB.1, hl]; exact h2), List.getElem?_append_left (by rw [h1.1]; exact h2)]
        exact h1.congr hB (ho x (List.mem_append_left _ hx))
    · rw [List.getElem?_append_right (by rw [hB.1, hl]; omega), List.getElem?_append_right (by rw [h1.1]; omega), lB]
  · rw [List.getElem?_append_left (by rw [hB.1, hl]; exact hx)]
    refine hB.keep fun hxs => ?_
    obtain ⟨h3, h4⟩ := hS x hxs
    have : isArr objs2 x = isArr objs x := by unfold isArr; rw [objAt_congr (ho x (List.mem_append_right _ h3))]
    rw [this]
    cases hh : isArr objs x with
    | false => rfl
    | true => exact absurd (h4 hh) hn
theorem Lcl.shareSet {ev : Operand → AVal} {objs objsA : List AObj} {v : AVal} {S : List Nat} {id : Nat} {ob : AObj} (hid : id ∈ wrIds cx ev objs o) (hS : ∀ x ∈ S, x ∈ rdIds cx ev objs o ∧ (isArr objs x = true → x ∈ wrIds cx ev objs o)) (h1 : ShBy S objs objsA)
    (h : ∀ (ev2 : Operand → AVal) (objs2 : List AObj), (∀ x ∈ o.op.operands, ev2 x = ev x) → objs2.length = objs.length → (∀ x, x ∈ wrIds cx ev objs o ++ rdIds cx ev objs o → objs2[x]? = objs[x]?) →
      ∃ objsB, ShBy S objs2 objsB ∧ ∀ (R : Type) (κ : List AObj → AVal → Option R), aopV cx O o ev2 objs2 κ = κ (objsB.set id ob) v) : Lcl O o ev objs (objsA.set id ob) v := by
  refine ⟨fun ev2 objs2 he hl ho => ?_⟩
  obtain ⟨objsB, hB, hk⟩ := h ev2 objs2 he hl ho
  have lB : objsB.length = objsA.length := by rw [hB.1, h1.1, hl]
  refine ⟨objsB.set id ob, hk, by simp [lB], fun x hx => ?_, fun x hx hn => ?_⟩
  · by_cases h2 : x < objs.length
    · rcases hx with hx | hx
      · omega
      · have e2 := h1.congr hB (ho x (List.mem_append_left _ hx))
        by_cases e : id = x
        · subst e
          rw [List.getElem?_set_self (by rw [hB.1, hl]; exact h2), List.getElem?_set_self (by rw [h1.1]; exact h2)]
        · rw [List.getElem?_set_ne e, List.getElem?_set_ne e, e2]
    · rw [List.getElem?_eq_none (by simp [hB.1]; omega), List.getElem?_eq_none (by simp [h1.1]; omega)]
  · have hne : id ≠ x := fun e => hn (e ▸ hid)
    rw [List.getElem?_set_ne hne]
    refine hB.keep fun hxs => ?_
    obtain ⟨h3, h4⟩ := hS x hxs
    have : isArr objs2 x = isArr objs x := by unfold isArr; rw [objAt_congr (ho x (List.mem_append_right _ h3))]
    rw [this]
    cases hh : isArr objs x with
    | false => rfl
    | true => exact absurd (h4 hh) hn

theorem refs_mono : ∀ {n : Nat} {v : AVal} {i : Nat}, i ∈ refs n v → i ∈ refs (n + 1) v
  | 0, _, _, h => by cases h
  | n + 1, v, i, h => by
    cases v with
    | ref cs => obtain ⟨c, hc, h⟩ := List.mem_flatMap.1 h; exact List.mem_flatMap.2 ⟨c, hc, refs_mono h⟩
    | agg cs => obtain ⟨c, hc, h⟩ := List.mem_flatMap.1 h; exact List.mem_flatMap.2 ⟨c, hc, refs_mono h⟩
    | tup cs => obtain ⟨c, hc, h⟩ := List.mem_flatMap.1 h; exact List.mem_flatMap.2 ⟨c, hc, refs_mono h⟩
    | clo f cs => obtain ⟨c, hc, h⟩ := List.mem_flatMap.1 h; exact List.mem_flatMap.2 ⟨c, hc, refs_mono h⟩
    | _ => exact h
theorem refs_cells {t : Ty} {x : T t} {c : AVal} (h : c ∈ cells t x) (n : Nat) : refs n c = [] := by
  cases t <;> simp only [cells, List.mem_cons, List.not_mem_nil, or_false] at h <;> (repeat' (first | (subst h; cases n <;> rfl) | rcases h with h | h))
theorem mem_setCells : ∀ {vs cs : List AVal} {off : Nat} {c : AVal}, c ∈ setCells cs off vs → c ∈ cs ∨ c ∈ vs
  | [], cs, off, c, h => .inl h
  | v :: vs, cs, off, c, h => by
    rcases mem_setCells (vs := vs) (cs := cs.set off v) h with h | h
    · rcases List.mem_or_eq_of_mem_set h with h | h
      · exact .inl h
      · exact .inr (by simp [h])
    · exact .inr (by simp [h])
theorem refs_valCells {v c : AVal} (h : c ∈ valCells v) {i : Nat} (hi : i ∈ refs 2 c) : i ∈ refs 3 v := by
  cases v with
  | agg cs => exact List.mem_flatMap.2 ⟨c, h, hi⟩
  | _ => simp only [valCells, List.mem_singleton] at h; subst h; exact refs_mono hi

theorem goes_store {t : Nat} {a x : Operand} (ho : o.op = .store t a x) : Goes1 cx O o := by
  intro ev objs R κ r h
  have ha : a ∈ o.op.operands := by simp [ho, Op.operands]
  have hx : x ∈ o.op.operands := by simp [ho, Op.operands]
  simp only [aopV, ho, cond_eq_ite] at h
  split at h
  · rename_i id off hev
    split at h
    · rename_i cs hb
      split at h
      · rename_i hc
        have hid : id ∈ wrIds cx ev objs o := by simp [wrIds, ho, hev]
        have L := Lcl.set (O := O) (o := o) (ev := ev) (objs := objs) (v := .tup []) (os := []) (id := id) (ob := .box (setCells cs off (valCells (ev x)))) hid (fun ev2 objs2 he hl hr R κ => by
          simp only [aopV, ho, he a ha, he x hx, hev, objAt_congr (hr id (List.mem_append_left _ hid)), hb, hc, cond_true, List.append_nil])
        rw [List.append_nil] at L
        exact ⟨_, _, h, by simp, L⟩
      · cases h
    · cases h
  · rename_i id i off hev
    split at h
    · rename_i ty xs hb
      split at h
      · rename_i hc
        obtain ⟨d, hd, h⟩ := Option.bind_eq_some_iff.1 h
        obtain ⟨d', hd', h⟩ := Option.bind_eq_some_iff.1 h
        split at h
        · rename_i t3 xs3 hb3
          have hid : id ∈ wrIds cx ev objs o := by simp [wrIds, ho, hev]
          have hrd : ∀ {i}, i ∈ refs 3 (ev x) → i ∈ rdIds cx ev objs o := fun hi => rd_of (by simp [ho]) hx hi
          refine ⟨_, _, h, by simp [(shBy_v (ev x) objs).1], Lcl.shareSet hid (fun y hy => ⟨hrd (owners_refs hy), fun hi => ?_⟩) (shBy_v (ev x) objs) fun ev2 objs2 he hl hr => ⟨_, shBy_v (ev x) objs2, fun R κ => ?_⟩⟩
          · simp only [wrIds, ho, hev]
            exact List.mem_cons_of_mem _ (List.mem_filter.2 ⟨owners_refs hy, hi⟩)
          · have e1 : ∀ y, y ∈ wrIds cx ev objs o ++ rdIds cx ev objs o → (shareV objs2 (ev x))[y]? = (shareV objs (ev x))[y]? := fun y hy => (shBy_v (ev x) objs).congr (shBy_v (ev x) objs2) (hr y hy)
            have e2 : fixL (shareV objs2 (ev x)) (slots ty) (setCells (cells ty d) off (valCells (ev x))) = fixL (shareV objs (ev x)) (slots ty) (setCells (cells ty d) off (valCells (ev x))) :=
              fixL_congr (n := 1) _ _ fun c hc i hi => by
                rcases mem_setCells hc with h1 | h1
                · rw [refs_cells h1] at hi; cases hi
                · exact e1 i (List.mem_append_right _ (hrd (refs_valCells h1 hi)))
            have e3 : objAt (shareV objs2 (ev x)) id = .arr t3 false xs3 := (objAt_congr (e1 id (List.mem_append_left _ hid))).trans hb3
            simp only [aopV, ho, he a ha, he x hx, hev, objAt_congr (hr id (List.mem_append_left _ hid)), hb, hc, cond_true, hd, Option.bind_some, e2, hd', e3]
        · cases h
      · cases h
    · cases h
  · cases h
theorem goes_convert {s d : Nat} {x : Operand} (ho : o.op = .convert s d x) : Goes1 cx O o := by
  intro ev objs R κ r h
  have hx : x ∈ o.op.operands := by simp [ho, Op.operands]
  simp only [aopV, ho] at h
  split at h
  · rename_i k1 k2 k3 n h1 h2 h3
    refine goes_read h fun ev2 objs2 he hl hr R κ => ?_
    simp only [aopV, ho, he x hx, h1, h2, h3]
  · rename_i n h1 h2 h3
    refine goes_read h fun ev2 objs2 he hl hr R κ => ?_
    simp only [aopV, ho, he x hx, h1, h2, h3]
  · rename_i h1 h2 h3
    obtain ⟨xs, hxs, h⟩ := Option.bind_eq_some_iff.1 h
    refine goes_push h fun ev2 objs2 he hl hr R κ => ?_
    simp only [aopV, ho, he x hx, h1, h2, h3, hxs, Option.bind_some, hl]
  · rename_i t1 e1 sz1 bytes1 h1 h2
    obtain ⟨xs, hxs, h⟩ := Option.bind_eq_some_iff.1 h
    obtain ⟨s, hs, h⟩ := Option.bind_eq_some_iff.1 h
    refine goes_read h fun ev2 objs2 he hl hr R κ => ?_
    have e1 : toList objs2 t1 (ev x) = toList objs t1 (ev x) := toList_congr fun i hi => hr i (rd_of (by simp [ho]) hx hi)
    simp only [aopV, ho, he x hx, h1, h2, e1, hxs, hs, Option.bind_some]
  · cases h
theorem goes_makeSlice {t : Nat} {l c : Operand} (ho : o.op = .makeSlice t l c) : Goes1 cx O o := by
  intro ev objs R κ r h
  have hl' : l ∈ o.op.operands := by simp [ho, Op.operands]
  have hc' : c ∈ o.op.operands := by simp [ho, Op.operands]
  simp only [aopV, ho] at h
  split at h
  · rename_i ty e sz bytes k1 n1 k2 n2 h1 h2 h3
    split at h
    · rename_i z hz
      simp only [cond_eq_ite] at h
      split at h
      · rename_i hcond
        refine goes_push h fun ev2 objs2 he hl hr R κ => ?_
        simp only [aopV, ho, he l hl', he c hc', h1, h2, h3, hz, hcond, cond_true, hl]
      · cases h
    · cases h
  · cases h
theorem partsA_congr {fs : List (Nat × Nat)} {ev ev2 : Operand → AVal} : ∀ (ps : List (Nat × Operand)), (∀ p ∈ ps, ev2 p.2 = ev p.2) → partsA cx fs ev2 ps = partsA cx fs ev ps
  | [], _ => rfl
  | (i, x) :: r, h => by
    unfold partsA
    rw [h (i, x) (by simp), partsA_congr r fun p hp => h p (by simp [hp])]
theorem goes_build {t : Nat} {ps : Array (Nat × Operand)} (ho : o.op = .build t ps) : Goes1 cx O o := by
  intro ev objs R κ r h
  have hx : ∀ p ∈ ps.toList, p.2 ∈ o.op.operands := fun p hp => by
    simp only [ho, Op.operands, List.mem_toArray, List.mem_map]
    exact ⟨p, hp, rfl⟩
  simp only [aopV, ho] at h
  split at h
  · rename_i fs sz sl z eq hk
    obtain ⟨qs, hqs, h⟩ := Option.bind_eq_some_iff.1 h
    obtain ⟨cs, hcs, h⟩ := Option.bind_eq_some_iff.1 h
    refine goes_read h fun ev2 objs2 he hl hr R κ => ?_
    have e1 : partsA cx fs ev2 ps.toList = partsA cx fs ev ps.toList := partsA_congr _ fun p hp => he _ (hx p hp)
    simp only [aopV, ho, hk, e1, hqs, hcs, Option.bind_some]
  · cases h
theorem sharePs_congr {ev ev2 : Operand → AVal} : ∀ (ps : List (Nat × Operand)) (objs : List AObj), (∀ p ∈ ps, ev2 p.2 = ev p.2) → sharePs ev2 ps objs = sharePs ev ps objs
  | [], _, _ => rfl
  | (i, x) :: r, objs, h => by
    unfold sharePs
    rw [h (i, x) (by simp), sharePs_congr r _ fun p hp => h p (by simp [hp])]
theorem datums_congr {objs objs2 : List AObj} {t : Ty} {ev ev2 : Operand → AVal} : ∀ (ps : List (Nat × Operand)) (i : Nat), (∀ p ∈ ps, ev2 p.2 = ev p.2) → (∀ p ∈ ps, ∀ i ∈ refs 3 (ev p.2), objs2[i]? = objs[i]?) → datums objs2 t ev2 i ps = datums objs t ev i ps
  | [], _, _, _ => rfl
  | (j, x) :: r, i, h, h' => by
    unfold datums
    rw [h (j, x) (by simp), toDatum_congr (h' (j, x) (by simp)), datums_congr r (i + 1) (fun p hp => h p (by simp [hp])) fun p hp => h' p (by simp [hp])]
theorem goes_buildSlice {t n : Nat} {ps : Array (Nat × Operand)} (ho : o.op = .buildSlice t n ps) : Goes1 cx O o := by
  intro ev objs R κ r h
  have hx : ∀ p ∈ ps.toList, p.2 ∈ o.op.operands := fun p hp => by
    simp only [ho, Op.operands, List.mem_toArray, List.mem_map]
    exact ⟨p, hp, rfl⟩
  have hrd : ∀ p ∈ ps.toList, ∀ i ∈ refs 3 (ev p.2), i ∈ rdIds cx ev objs o := fun p hp i hi => rd_of (by simp [ho]) (hx p hp) hi
  simp only [aopV, ho, cond_eq_ite] at h
  split at h
  · rename_i ty e sz bytes hk
    split at h
    · rename_i hc
      obtain ⟨xs, hxs, h⟩ := Option.bind_eq_some_iff.1 h
      have hl1 := (shBy_ps ev ps.toList objs).1
      refine ⟨_, _, h, by simp [hl1], Lcl.share (S := ps.toList.flatMap fun p => ownersV (ev p.2)) (fun y hy => ?_) (shBy_ps ev ps.toList objs) fun ev2 objs2 he hl hr => ⟨sharePs ev ps.toList objs2, shBy_ps ev _ _, fun R κ => ?_⟩⟩
      · obtain ⟨p, hp, hy⟩ := List.mem_flatMap.1 hy
        refine ⟨hrd p hp y (owners_refs hy), fun hi => ?_⟩
        simp only [wrIds, ho]
        exact List.mem_filter.2 ⟨List.mem_flatMap.2 ⟨p.2, by simpa using hx p hp, owners_refs hy⟩, hi⟩
      · have e1 : sharePs ev2 ps.toList objs2 = sharePs ev ps.toList objs2 := sharePs_congr _ _ fun p hp => he _ (hx p hp)
        have e2 : datums (sharePs ev ps.toList objs2) ty ev2 0 ps.toList = datums (sharePs ev ps.toList objs) ty ev 0 ps.toList :=
          datums_congr _ _ (fun p hp => he _ (hx p hp)) fun p hp i hi => (shBy_ps ev ps.toList objs).congr (shBy_ps ev _ _) (hr i (List.mem_append_right _ (hrd p hp i hi)))
        simp only [aopV, ho, hk, hc, cond_true, e1, e2, hxs, Option.bind_some, (shBy_ps ev ps.toList objs2).1, hl1, hl]
    · cases h
  · cases h
end
end Go.Ev
