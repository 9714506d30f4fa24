/-
  THE EVALUATOR, PART 45: a region whose last operations come one by one, behind all others.
-/
import Derived.Test.YtpkhhaolkfaoaaaHpEwQ
import Derived.Test.YtpkhhaolkfaoaaaHpEwC
set_option linter.unusedVariables false
set_option linter.unusedSimpArgs false
set_option linter.unusedSectionVars false
namespace Go.Ev
section
variable {F : Fence} {n : Nat} {P : Program} {ops : Array Oper} {Q : Exit → Act → World → Prop}
theorem getD_true {listed : Array Bool} {k : Nat} (hk : k < listed.size) : listed.getD k true = listed.getD k false := by
  rw [Array.getD_eq_getD_getElem?, Array.getD_eq_getD_getElem?, Array.getElem?_eq_getElem hk]; rfl
structure Chain (ops : Array Oper) (t : Nat) : Prop where
  head : ∀ j, j < t → j ∈ ((aheadTab ops.toList [])[t]?).getD []
  guard : ∀ (i : Nat) (o : Oper), ops[i]? = some o → i < t → ∀ g want, o.guard = some (g, want) → g < t
  low : ∀ (i : Nat) (o : Oper), ops[i]? = some o → t ≤ i → ∀ e ∈ o.after, Region.binds .any e = true → e.on < i
  next : ∀ (i : Nat) (o : Oper), ops[i]? = some o → t < i → ∃ e ∈ o.after, Region.binds .any e = true ∧ e.on = i - 1
theorem chain_of {t : Nat} (h : chainOk ops.toList t = true) : Chain ops t := by
  unfold chainOk at h
  rw [Bool.and_eq_true, List.all_eq_true, List.all_eq_true] at h
  obtain ⟨h1, h2⟩ := h
  have get : ∀ (i : Nat) (o : Oper), ops[i]? = some o → i < ops.toList.length ∧ ops.toList[i]? = some o := fun i o ho => ⟨by simpa using (Array.getElem?_eq_some_iff.1 ho).1, by simpa using ho⟩
  refine ⟨fun j hj => by simpa using h1 j (by simpa using hj), fun i o ho hi g want hg => ?_, fun i o ho hi e he hb => ?_, fun i o ho hi => ?_⟩
  · obtain ⟨h3, h4⟩ := get i o ho
    have := h2 i (by simpa using h3)
    rw [h4] at this
    simp only [decide_eq_true hi, cond_true, hg, decide_eq_true_eq] at this
    exact this
  · obtain ⟨h3, h4⟩ := get i o ho
    have := h2 i (by simpa using h3)
    rw [h4] at this
    simp only [decide_eq_false (show ¬ i < t by omega), cond_false, Bool.and_eq_true, List.all_eq_true] at this
    have := this.1 e (by simpa using he)
    simpa [hb] using this
  · obtain ⟨h3, h4⟩ := get i o ho
    have := h2 i (by simpa using h3)
    rw [h4] at this
    simp only [decide_eq_false (show ¬ i < t by omega), cond_false, Bool.and_eq_true, decide_eq_true hi, cond_true, List.any_eq_true] at this
    obtain ⟨e, he, h5⟩ := this.2
    simp only [Bool.and_eq_true, beq_iff_eq] at h5
    exact ⟨e, by simpa using he, h5.1, h5.2⟩

/-- When all ahead have come: one by one. -/
theorem any_of_seq {t : Nat} (C : Chain ops t) : ∀ (m k fuel : Nat) (listed : Array Bool) (a : Act) (w : World), k + m = ops.size → t ≤ k → listed.size = ops.size → (∀ j, j < ops.size → (listed.getD j false = true ↔ j < k)) → m ≤ fuel →
    wpOpsIn F n P ops Q ((List.range ops.size).drop k) a w → wpAnyIn F n P .any ops Q fuel listed a w := by
  intro m
  induction m with
  | zero =>
    intro k fuel listed a w hk ht hs hl hf h
    have hnil : Region.ready .any ops listed = [] := by
      apply List.eq_nil_iff_forall_not_mem.2
      intro j hj
      obtain ⟨h1, o, ho, _⟩ := mem_ready.1 hj
      have hjs : j < ops.size := (Array.getElem?_eq_some_iff.1 ho).1
      rw [getD_true (by omega), (hl j hjs).2 (by omega)] at h1
      cases h1
    have hd : (List.range ops.size).drop k = [] := List.drop_of_length_le (by simp; omega)
    rw [hd] at h
    cases fuel with
    | zero => exact ⟨hnil, h⟩
    | succ fuel => exact ⟨fun _ => h, fun i hi => by rw [hnil] at hi; cases hi⟩
  | succ m ih =>
    intro k fuel listed a w hk ht hs hl hf h
    have hks : k < ops.size := by omega
    obtain ⟨fuel, rfl⟩ : ∃ f, fuel = f + 1 := ⟨fuel - 1, by omega⟩
    have hd : (List.range ops.size).drop k = k :: (List.range ops.size).drop (k + 1) := by
      rw [List.drop_eq_getElem_cons (by simpa using hks)]; simp
    rw [hd, wpOpsIn_cons] at h
    have hk0 : listed.getD k false = false := by
      cases hh : listed.getD k false with
      | false => rfl
      | true => have := (hl k hks).1 hh; omega
    have hready : k ∈ Region.ready .any ops listed := mem_ready.2 ⟨by rw [getD_true (by omega)]; exact hk0, ops[k], by simp [hks], fun e he hb => by
      have := C.low k ops[k] (by simp [hks]) ht e he hb
      exact (hl e.on (by omega)).2 this⟩
    refine ⟨fun hr => (by rw [hr] at hready; cases hready), fun i hi => ?_⟩
    obtain ⟨h1, o, ho, h3⟩ := mem_ready.1 hi
    have his : i < ops.size := (Array.getElem?_eq_some_iff.1 ho).1
    rw [getD_true (by omega)] at h1
    have hik : i = k := by
      rcases Nat.lt_trichotomy i k with h4 | h4 | h4
      · rw [(hl i his).2 h4] at h1; cases h1
      · exact h4
      · obtain ⟨e, he, hb, hon⟩ := C.next i o ho (by omega)
        have := (hl e.on (by omega)).1 (h3 e he hb)
        omega
    subst hik
    refine wpOpIn_mono (fun a w h => ?_) h
    refine ih (i + 1) fuel _ a w (by omega) (by omega) (by simp [hs]) (fun j hj => ?_) (by omega) h
    rw [getD_listed (by omega), hl j hj]
    omega

theorem wpOpIn_pre {t i : Nat} (C : Chain ops t) (hi : i < t) (ht : t ≤ ops.size) {pops : Array Oper} (hp : pops.toList = ops.toList.take t) {K : Act → World → Prop} {a : Act} {w : World} (h : wpOpIn F n P pops Q i K a w) : wpOpIn F n P ops Q i K a w := by
  have get : ∀ j, j < t → pops[j]? = ops[j]? := fun j hj => by
    rw [← Array.getElem?_toList, ← Array.getElem?_toList, hp, List.getElem?_take, if_pos hj]
  have ho : ops[i]? = some ops[i] := by simp
  unfold wpOpIn at h ⊢
  rw [get i hi, ho] at h
  rw [ho]
  simp only at h ⊢
  have hw : Region.wanted ops[i] (yielded pops a.tmps) = Region.wanted ops[i] (yielded ops a.tmps) := by
    unfold Region.wanted
    cases hg : ops[i].guard with
    | none => rfl
    | some gw =>
      obtain ⟨g, want⟩ := gw
      have := C.guard i _ ho hi g want hg
      simp only [yielded, get g this]
  rw [← hw]
  exact h

/-- The first ones in any order, then the others. -/
theorem any_pre {t : Nat} (C : Chain ops t) (ht : t < ops.size) {pops : Array Oper} (hp : pops.toList = ops.toList.take t) (hlow : ∀ (i : Nat) (o : Oper), ops[i]? = some o → i < t → ∀ e ∈ o.after, Region.binds .any e = true → e.on < i) :
    ∀ (fuel : Nat) (listed listedp : Array Bool) (a : Act) (w : World), listed.size = ops.size → listedp.size = t → (∀ j, j < t → listed.getD j false = listedp.getD j false) → (∀ j, t ≤ j → listed.getD j false = false) →
      (∀ (j : Nat) (o : Oper), listed.getD j false = true → ops[j]? = some o → ∀ e ∈ o.after, Region.binds .any e = true → listed.getD e.on false = true) →
      wpAnyF F n P pops Q (wpOpsIn F n P ops Q ((List.range ops.size).drop t)) fuel listedp a w → wpAnyIn F n P .any ops Q (fuel + (ops.size - t)) listed a w := by
  have hps : pops.size = t := by
    have := congrArg List.length hp
    simp at this; omega
  have get : ∀ j, j < t → pops[j]? = ops[j]? := fun j hj => by
    rw [← Array.getElem?_toList, ← Array.getElem?_toList, hp, List.getElem?_take, if_pos hj]
  have same : ∀ (listed listedp : Array Bool), listed.size = ops.size → listedp.size = t → (∀ j, j < t → listed.getD j false = listedp.getD j false) → ∀ i, i < t → (i ∈ Region.ready .any ops listed ↔ i ∈ Region.ready .any pops listedp) := by
    intro listed listedp hs hsp heq i hi
    rw [mem_ready, mem_ready, getD_true (by omega), getD_true (by omega), heq i hi, get i hi]
    refine and_congr_right fun _ => exists_congr fun o => and_congr_right fun ho => forall_congr' fun e => forall_congr' fun he => forall_congr' fun hb => ?_
    rw [heq e.on (by have := hlow i o ho hi e he hb; omega)]
  -- when none of the first may come, all of them have
  have full : ∀ (listed listedp : Array Bool), listed.size = ops.size → listedp.size = t → (∀ j, j < t → listed.getD j false = listedp.getD j false) → Region.ready .any pops listedp = [] → ∀ k, k < t → listed.getD k false = true := by
    intro listed listedp hs hsp heq hr
    have key : ∀ m k, k < m → k < t → listed.getD k false = true := by
      intro m
      induction m with
      | zero => intro k hk; omega
      | succ m ih =>
        intro k hk hkt
        cases hl : listed.getD k false with
        | true => rfl
        | false =>
          have hks : k < ops.size := by omega
          have : k ∈ Region.ready .any ops listed := mem_ready.2 ⟨by rw [getD_true (by omega)]; exact hl, ops[k], by simp [hks], fun e he hb => by
            have := hlow k _ (by simp [hks]) hkt e he hb
            exact ih e.on (by omega) (by omega)⟩
          rw [same listed listedp hs hsp heq k hkt, hr] at this
          cases this
    exact fun k hk => key (k + 1) k (by omega) hk
  have fin : ∀ (fuel : Nat) (listed listedp : Array Bool) (a : Act) (w : World), listed.size = ops.size → listedp.size = t → (∀ j, j < t → listed.getD j false = listedp.getD j false) → (∀ j, t ≤ j → listed.getD j false = false) → Region.ready .any pops listedp = [] →
      wpOpsIn F n P ops Q ((List.range ops.size).drop t) a w → wpAnyIn F n P .any ops Q (fuel + (ops.size - t)) listed a w := by
    intro fuel listed listedp a w hs hsp heq hno hr h
    have hf := full listed listedp hs hsp heq hr
    exact any_of_seq C (ops.size - t) t _ listed a w (by omega) (Nat.le_refl _) hs (fun j hj => ⟨fun h => (by
      rcases Nat.lt_or_ge j t with h1 | h1
      · exact h1
      · rw [hno j h1] at h; cases h), fun h => hf j h⟩) (by omega) h
  intro fuel
  induction fuel with
  | zero =>
    intro listed listedp a w hs hsp heq hno hcl h
    exact fin 0 listed listedp a w hs hsp heq hno h.1 h.2
  | succ fuel ih =>
    intro listed listedp a w hs hsp heq hno hcl h
    by_cases hr : Region.ready .any pops listedp = []
    · exact fin (fuel + 1) listed listedp a w hs hsp heq hno hr (h.1 hr)
    · -- one of the first has not come: so none of the others may
      have only : ∀ i ∈ Region.ready .any ops listed, i < t := by
        intro i hi
        obtain ⟨h1, o, ho, h3⟩ := mem_ready.1 hi
        have his : i < ops.size := (Array.getElem?_eq_some_iff.1 ho).1
        rcases Nat.lt_trichotomy i t with h4 | h4 | h4
        · exact h4
        · exfalso
          subst h4
          -- all that come ahead have come
          have up : ∀ m j, j < m → listed.getD j false = true → ∀ k ∈ ((aheadTab ops.toList [])[j]?).getD [], listed.getD k false = true := by
            intro m
            induction m with
            | zero => intro j hj; omega
            | succ m ihm =>
              intro j hj hl k hk
              have hjt : j < i := by
                rcases Nat.lt_or_ge j i with h5 | h5
                · exact h5
                · rw [hno j h5] at hl; cases hl
              have hjs : j < ops.size := by omega
              have hoj : ops[j]? = some ops[j] := by simp [hjs]
              obtain ⟨e, he, hb, h5⟩ := (aheadTab_spec ops.toList []).2 j ops[j] k (by simp [hjs]) (by simpa using hk)
              have hle := hcl j _ hl hoj e (by simpa using he) hb
              rcases h5 with rfl | h5
              · exact hle
              · exact ihm e.on (by have := hlow j _ hoj hjt e (by simpa using he) hb; omega) hle k (by simpa using h5)
          have hall : ∀ k, k < i → listed.getD k false = true := fun k hk => by
            obtain ⟨e, he, hb, h5⟩ := (aheadTab_spec ops.toList []).2 i o k (by simpa using ho) (by simpa using C.head k hk)
            have hle := h3 e (by simpa using he) hb
            rcases h5 with rfl | h5
            · exact hle
            · exact up (e.on + 1) e.on (by omega) hle k (by simpa using h5)
          refine hr (List.eq_nil_iff_forall_not_mem.2 fun j hj => ?_)
          have hjt : j < i := by
            obtain ⟨_, o', ho', _⟩ := mem_ready.1 hj
            have := (Array.getElem?_eq_some_iff.1 ho').1
            omega
          have := mem_ready.1 ((same listed listedp hs hsp heq j hjt).2 hj)
          rw [getD_true (by omega), hall j hjt] at this
          cases this.1
        · exfalso
          obtain ⟨e, he, hb, hon⟩ := C.next i o ho h4
          have := h3 e he hb
          rw [hno e.on (by omega)] at this
          cases this
      have hf1 : fuel + 1 + (ops.size - t) = fuel + (ops.size - t) + 1 := by omega
      rw [hf1]
      refine ⟨fun hn => ?_, fun i hi => ?_⟩
      · exfalso
        refine hr (List.eq_nil_iff_forall_not_mem.2 fun j hj => ?_)
        have hjt : j < t := by
          obtain ⟨_, o', ho', _⟩ := mem_ready.1 hj
          have := (Array.getElem?_eq_some_iff.1 ho').1
          omega
        have := (same listed listedp hs hsp heq j hjt).2 hj
        rw [hn] at this
        cases this
      · have hit := only i hi
        have hip := (same listed listedp hs hsp heq i hit).1 hi
        refine wpOpIn_pre C hit (by omega) hp (wpOpIn_mono (fun a w h => ?_) (h.2 i hip))
        refine ih _ _ a w (by simp [hs]) (by simp [hsp]) (fun j hj => ?_) (fun j hj => ?_) (fun j o hl ho e he hb => ?_) h
        · have e1 := getD_listed (k := j) (j := i) (listed := listed) (by omega)
          have e2 := getD_listed (k := j) (j := i) (listed := listedp) (by omega)
          have e3 := heq j hj
          cases h1 : (listed.setIfInBounds i true).getD j false <;> cases h2 : (listedp.setIfInBounds i true).getD j false <;> simp_all
        · have e1 := getD_listed (k := j) (j := i) (listed := listed) (by omega)
          have e3 := hno j hj
          cases h1 : (listed.setIfInBounds i true).getD j false with
          | false => rfl
          | true =>
            rcases e1.1 h1 with h2 | h2
            · rw [e3] at h2; cases h2
            · omega
        · have e1 := getD_listed (k := j) (j := i) (listed := listed) (by omega)
          have e2 := getD_listed (k := e.on) (j := i) (listed := listed) (by omega)
          refine e2.2 (.inl ?_)
          rcases e1.1 hl with h2 | rfl
          · exact hcl j o h2 ho e he hb
          · obtain ⟨_, o', ho', h3⟩ := mem_ready.1 hi
            rw [ho] at ho'; cases ho'
            exact h3 e he hb
end
section
variable {cx : Cx} {O : Orc cx} {Fb : Nat → Nat → Prop} {β : List Loc} {st : St} {a : Act} {w : World}
theorem adraw2_sim (hok : cx.ok = true) (hO : OrcOK cx O) {ops : Array Oper} {B : Nat} {ro : Option Nat} {β0 : List Loc} {objs0 : List AObj} {w0 : World} (S : Start B ro Fb β0 objs0 w0) (nf id : Nat) {R : Type} {κ : St → Option R} {r : R} {Q : Exit → Act → World → Prop}
    (hQ : ∀ (st' : St) (β' : List Loc) (a' : Act) (w' : World), κ st' = some r → Inv B cx Fb β0 objs0 w0 β' st' a' w' → Q .normal a' w') (I : Inv B cx Fb β0 objs0 w0 β st a w) (hr : adraw2 cx O ops.toList st κ = some r) :
    (Code.region id ops true).wpIn (FW ro) nf cx.prog Q a w := by
  unfold adraw2 at hr
  simp only [cond_eq_ite, beq_iff_eq] at hr
  split at hr
  · exact adraw_sim hok hO S nf id hQ I hr
  · rename_i hne
    have hfind : ∃ t, tailAt ops.toList = t ∧ t < ops.size ∧ chainOk ops.toList t = true := by
      unfold tailAt at hne ⊢
      generalize hf : List.find? _ (List.range ops.toList.length) = q at hne ⊢
      cases q with
      | none => exact absurd rfl hne
      | some t =>
        have h1 := List.find?_some hf
        have h2 := List.mem_of_find?_eq_some hf
        simp only [Bool.and_eq_true] at h1
        exact ⟨t, rfl, by simpa using h2, h1.2⟩
    obtain ⟨t, ht, hts, hch⟩ := hfind
    rw [ht] at hr
    have C := chain_of hch
    have hp : (ops.toList.take t).toArray.toList = ops.toList.take t := by simp
    have hps : (ops.toList.take t).toArray.size = t := by simp; omega
    have hr' : adraw cx O (ops.toList.take t).toArray.toList st (fun st => aops cx O ops.toList (ops.toList.drop t) st κ) = some r := by rw [hp]; exact hr
    have hlow : ∀ (i : Nat) (o : Oper), ops[i]? = some o → i < t → ∀ e ∈ o.after, Region.binds .any e = true → e.on < i := by
      intro i o ho hi e he hb
      have hr2 := hr'
      unfold adraw at hr2
      simp only [cond_eq_ite] at hr2
      split at hr2
      · rename_i hc
        simp only [Bool.and_eq_true] at hc
        have := (tmpsApart_spec _ _ _ 0 hc.1.1 i o (by simp only [List.getElem?_take, if_pos hi]; simpa using ho)).1 e (by simpa using he) hb
        omega
      · cases hr2
    have A := adraw_simF hok hO (ops := (ops.toList.take t).toArray) S nf id (Q := Q) (Fin := wpOpsIn (FW ro) nf cx.prog ops Q ((List.range ops.size).drop t)) (fun st' β' a' w' hκ I' =>
      aops_sim hok hO S nf ops (Q := Q) hQ (ops.toList.drop t) t rfl (by simp; omega) β' st' a' w' I' hκ) I hr'
    refine wpIn_region_any (cx_follows hok) ?_
    have := any_pre C hts hp hlow (Q := Q) t (Array.replicate ops.size false) (Array.replicate t false) a { w with drawn := w.drawn + 1 } (by simp) (by simp) (fun j hj => by
      rw [Array.getD_eq_getD_getElem?, Array.getD_eq_getD_getElem?, Array.getElem?_replicate, Array.getElem?_replicate, if_pos hj, if_pos (by omega)]) (fun j hj => by
      rw [Array.getD_eq_getD_getElem?, Array.getElem?_replicate]; split <;> rfl) (fun j o hl => by
      rw [Array.getD_eq_getD_getElem?, Array.getElem?_replicate] at hl
      split at hl <;> simp at hl) (by rw [hps] at A; exact A)
    rw [show t + (ops.size - t) = ops.size by omega] at this
    exact this
end
end Go.Ev
