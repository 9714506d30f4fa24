/-
  THE EVALUATOR, PART 18: one operation, calls of functions apart.
-/
import Derived.Test.YtpkhhaolkfaoaaaHpEvQ
set_option linter.unusedVariables false
set_option linter.unusedSimpArgs false
set_option linter.unusedSectionVars false
namespace Go.Ev

section
variable {cx : Cx} {Fb : Nat → Nat → Prop} {β : List Loc} {st : St} {a : Act} {w : World}

theorem k_known (hok : cx.ok = true) {t : Nat} (h : (cx.kind t).known = true) : ∃ i, cx.prog.info? t = some i ∧ i.size = cellsK (cx.kind t) := by
  cases hk : cx.kind t with
  | other => rw [hk] at h; cases h
  | st fs sz ss zero eq => obtain ⟨_, ⟨i, z, hi, hs, _⟩, _⟩ := k_st hok hk; exact ⟨i, hi, hs⟩
  | int k => obtain ⟨i, v, hi, hs, _⟩ := k_one (k_int hok hk).2; exact ⟨i, hi, hs⟩
  | bool => obtain ⟨i, v, hi, hs, _⟩ := k_one (k_bool hok hk).2; exact ⟨i, hi, hs⟩
  | str => obtain ⟨i, v, hi, hs, _⟩ := k_one (k_str hok hk).2; exact ⟨i, hi, hs⟩
  | sl ty e sz bytes => obtain ⟨i, v, hi, hs, _⟩ := k_one (k_sl hok hk).2.1; exact ⟨i, hi, hs⟩
  | ptr e => obtain ⟨i, v, hi, hs, _⟩ := k_one (k_ptr hok hk).2; exact ⟨i, hi, hs⟩
  | fn => obtain ⟨i, v, hi, hs, _⟩ := k_one (k_fn hok hk).2; exact ⟨i, hi, hs⟩
  | mp kt vt k e => obtain ⟨i, v, hi, hs, _⟩ := k_one (k_mp hok hk).2; exact ⟨i, hi, hs⟩

theorem storeVar_run {P : Program} {t : Nat} {i : TypeInfo} (hi : P.info? t = some i) {ad : Addr} {v : Value} {w w' : World} (hs : v.cells.size = i.size) (hrun : (storeCells ad v.cells.toList).run P w = .ok () w') :
    (Instr.storeAt t (.pointer (some ad)) v).run P w = .ok () w' := by
  simp [Instr.storeAt, Instr.sureAddr, storeVar, run_sizeOf' hi, hs, hrun]

/-- A store into a row of one's own. -/
theorem setA_shift : ∀ (vs : List Value) (A S : Array Value) (k o n : Nat), (∀ j, j < n → S[j]? = A[k + j]?) → S.size = n → o + vs.length ≤ n → k + n ≤ A.size → ∀ j, j < n → (setA S o vs)[j]? = (setA A (k + o) vs)[k + j]?
  | [], A, S, k, o, n, h, _, _, _, j, hj => h j hj
  | v :: vs, A, S, k, o, n, h, hs, hle, hA, j, hj => by
    rw [setA, setA]
    refine setA_shift vs _ _ k (o + 1) n (fun j hj => ?_) (by simpa using hs) (by simp at hle; omega) (by simpa using hA) j hj
    rw [Array.getElem?_setIfInBounds, Array.getElem?_setIfInBounds]
    simp at hle
    by_cases e : o = j
    · subst e
      simp [show o < S.size by omega, show k + o < A.size by omega]
    · rw [if_neg e, if_neg (by omega)]
      exact h j hj

theorem mul_bounds {i k n s : Nat} (h : i < n) (hk : k < n) (hne : i ≠ k) {j : Nat} (hj : j < s) : k * s + j < i * s ∨ i * s + s ≤ k * s + j := by
  rcases Nat.lt_or_ge k i with h1 | h1
  · left
    have : (k + 1) * s ≤ i * s := Nat.mul_le_mul_right _ (by omega)
    rw [Nat.add_mul] at this; omega
  · right
    have : (i + 1) * s ≤ k * s := Nat.mul_le_mul_right _ (by omega)
    rw [Nat.add_mul] at this; omega

theorem Rel.storeArr (h : Rel cx Fb β st a w) {id b cap i off : Nat} {t : Ty} {xs : List (T t)} {d d' : T t} {us : List AVal} {vs : List Value} (ho : st.objs[id]? = some (.arr t false xs)) (hl : β[id]? = some (.at b cap))
    (hx : xs[i]? = some d) (hle : off + us.length ≤ t.size) (hlen : us.length = vs.length) (hr : ∀ (j : Nat) c v, us[j]? = some c → vs[j]? = some v → RelV β st.objs w (NN Fb β st.objs) c v) (h1 : ∀ v ∈ vs, v.oneCell' = true)
    (hd : uncells t (fixL st.objs (slots t) (setCells (cells t d) off us)) = some d') (hs : ∀ id, .own id ∈ us → Shared st.objs id) :
    (storeCells ⟨b, i * t.size + off, none⟩ vs).run cx.prog w = .ok () (w.setCells b (i * t.size + off) vs) ∧
    Adv β st.objs w β (st.objs.set id (.arr t false (xs.set i d'))) (w.setCells b (i * t.size + off) vs) ∧
    Rel cx Fb β { st with objs := st.objs.set id (.arr t false (xs.set i d')) } a (w.setCells b (i * t.size + off) vs) := by
  obtain ⟨arr, e, fr, hb, hsz, hxl, hfr, hrel⟩ := h.obj id _ _ ho hl
  have hi : i < xs.length := (List.getElem?_eq_some_iff.1 hx).1
  have hseg : i * t.size + t.size ≤ arr.size := by
    rw [hsz]
    have : (i + 1) * t.size ≤ cap * t.size := Nat.mul_le_mul_right _ (by omega)
    rw [Nat.add_mul] at this; omega
  refine ⟨?_, h.setObj ho hl rfl (fun b' off' hw => ?_) (setCells_keep hb _ fun off' _ _ => ⟨rfl, by simp⟩) (fun b' hne _ => setCells_other _ _ _ _ _ hne) (setCells_recs hb) (by simp) (fun t' sh' xs' e => ?_) fun G => ?_⟩
  · have := run_storeCells_cells (P := cx.prog) b (i * t.size + off) vs 0 w (fun j hj => ?_) (fun j hj => ?_) h1
    · simpa using this
    · simp only [Nat.add_zero]
      have : i * t.size + off + j < arr.size := by omega
      rw [Option.isSome_iff_exists]
      exact ⟨arr[i * t.size + off + j], cell?_some.2 ⟨arr, e, fr, hb, rfl, by simp [this]⟩⟩
    · simp only [Nat.add_zero, World.frozen?, hb]
      have := hfr (i * t.size + off + j) (by omega)
      simp; omega
  · exact ⟨hw.1, by simp⟩
  · cases e; exact ⟨false, xs, rfl, by simp⟩
  · refine ⟨_, e, fr, setCells_heap b vs (i * t.size + off) w arr e fr hb, by rw [setA_size]; exact hsz, by simpa using hxl, by rw [setA_size]; exact hfr, fun k x j c v hk hc hv => ?_⟩
    have hj : j < t.size := by rw [← cells_length t x]; exact (List.getElem?_eq_some_iff.1 hc).1
    rcases getElem?_set_some hk with ⟨e1, e2, _⟩ | ⟨e1, hk⟩
    · subst e1; subst e2
      -- the new element
      have S : RelL β st.objs w (NN Fb β st.objs) (cells t d) (arr.extract (i * t.size) (i * t.size + t.size)) := by
        refine ⟨by rw [cells_length]; simp; omega, fun j c v hc hv => ?_⟩
        have hj : j < t.size := by rw [← cells_length t d]; exact (List.getElem?_eq_some_iff.1 hc).1
        rw [Array.getElem?_extract] at hv
        split at hv
        · exact hrel i d j c v hx hc hv
        · cases hv
      have S2 := RelL.setCells us vs _ _ off S hlen hr
      have S3 := fixL_rel h (slots t) _ S2 (fun id hid => by
        have : ∀ (us cs : List AVal) (o : Nat), (∀ c ∈ cs, c.isData = true) → .own id ∈ setCells cs o us → (.own id : AVal) ∈ us := by
          intro us
          induction us with
          | nil => intro cs o hc hm; have := hc _ hm; simp [AVal.isData] at this
          | cons u us ih =>
            intro cs o hc hm
            by_cases hu : u = .own id
            · simp [hu]
            · rw [setCells] at hm
              have hgen : ∀ (us cs : List AVal) (o : Nat), (.own id : AVal) ∈ setCells cs o us → (.own id : AVal) ∈ cs ∨ (.own id : AVal) ∈ us := by
                intro us
                induction us with
                | nil => intro cs o hm; exact .inl hm
                | cons u us ih =>
                  intro cs o hm
                  rw [setCells] at hm
                  rcases ih _ _ hm with hm | hm
                  · rcases List.mem_or_eq_of_mem_set hm with hm | hm
                    · exact .inl hm
                    · exact .inr (by simp [hm])
                  · exact .inr (by simp [hm])
              rcases hgen _ _ _ hm with hm | hm
              · rcases List.mem_or_eq_of_mem_set hm with hm | hm
                · have := hc _ hm; simp [AVal.isData] at this
                · exact absurd hm.symm hu
              · simp [hm]
        exact hs id (this _ _ _ (cells_data t d) hid))
      have S4 := ((uncells_le hd).rel S3).2 j c v hc (by
        rw [← hv]
        exact setA_shift vs arr _ (i * t.size) off t.size (fun j hj => by rw [Array.getElem?_extract, if_pos (by omega)]) (by simp; omega) (by omega) hseg j hj)
      exact S4.goes G
    · have hk' := (List.getElem?_eq_some_iff.1 hk).1
      rw [setA_out] at hv
      · exact (hrel k x j c v hk hc hv).goes G
      · have := mul_bounds hi hk' e1 (s := t.size) hj
        omega
end
end Go.Ev
