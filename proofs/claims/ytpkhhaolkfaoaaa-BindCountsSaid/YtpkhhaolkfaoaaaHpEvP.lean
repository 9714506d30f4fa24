/-
  THE EVALUATOR, PART 16: parts of values; literals; slices of slices.
-/
import Derived.Test.YtpkhhaolkfaoaaaHpEvO
import Derived.Laws.Tables
import Derived.Great.BuildSlice
set_option linter.unusedVariables false
set_option linter.unusedSimpArgs false
set_option linter.unusedSectionVars false
namespace Go.Ev

section
variable {cx : Cx} {Fb : Nat → Nat → Prop} {β : List Loc} {st : St} {a : Act} {w : World}

theorem RelL.drop_get {objs : List AObj} {N : Nat → Nat → Prop} {cs : List AVal} {vs : Array Value} (h : RelL β objs w N cs vs) {off i : Nat} {c : AVal} (hc : (cs.drop off)[i]? = some c) :
    ∃ v, vs[off + i]? = some v ∧ RelV β objs w N c v := by
  rw [List.getElem?_drop] at hc
  have hlt : off + i < vs.size := by rw [← h.1]; exact (List.getElem?_eq_some_iff.1 hc).1
  exact ⟨vs[off + i], by simp [hlt], h.2 _ _ _ hc (by simp [hlt])⟩

/-- A part of a struct. -/
theorem part_run (hok : cx.ok = true) {objs : List AObj} {N : Nat → Nat → Prop} {cs : List AVal} {vs : Array Value} (h : RelL β objs w N cs vs) {t off : Nat} {c : AVal} (hl : loadAs (cx.kind t) (cs.drop off) = some c) :
    ∃ v, (part t vs off).run cx.prog w = .ok v w ∧ RelV β objs w N c v := by
  have plain : ∀ d, cx.prog.underlying t = some d → (match d with | .struct _ | .array _ _ => true | _ => false) = false → (cs.drop off).head? = some c → ∃ v, (part t vs off).run cx.prog w = .ok v w ∧ RelV β objs w N c v := by
    intro d hd hna hh
    rw [List.head?_eq_getElem?] at hh
    obtain ⟨v, hv, hr⟩ := h.drop_get hh
    refine ⟨v, ?_, hr⟩
    have : (isAgg t).run cx.prog w = .ok false w := by
      simp only [isAgg, Sem.run_bind, run_underlying' hd, Result.andThen_ok]
      cases d <;> simp_all
    simp only [Nat.add_zero] at hv
    simp [part, this, hv]
  unfold loadAs at hl
  cases hk : cx.kind t with
  | st fs sz ss zero eq =>
    rw [hk] at hl
    obtain ⟨⟨fields, hu, _⟩, ⟨i, z, hi, hs, _⟩, _⟩ := k_st hok hk
    simp only [cond_eq_ite, decide_eq_true_eq] at hl
    split at hl
    · rename_i hle
      cases hl
      have hle' : off + sz ≤ vs.size ∨ sz = 0 := by rw [← h.1]; simp at hle; omega
      refine ⟨.agg (vs.extract off (off + sz)), ?_, .agg ?_ fun j c v hj hv => ?_⟩
      · have : (isAgg t).run cx.prog w = .ok true w := by simp [isAgg, run_underlying' hu]
        simp [part, this, run_sizeOf' hi, hs]
      · simp
        simp at hle
        rw [← h.1]; omega
      · have hjs : j < sz := by
          rw [List.getElem?_take] at hj; split at hj
          · assumption
          · cases hj
        rw [List.getElem?_take, if_pos hjs] at hj
        obtain ⟨u, hu', hr⟩ := h.drop_get hj
        rw [Array.getElem?_extract] at hv
        split at hv
        · rw [hu'] at hv; cases hv; exact hr
        · cases hv
    · cases hl
  | int k => rw [hk] at hl; exact plain _ (k_int hok hk).1 rfl hl
  | bool => rw [hk] at hl; exact plain _ (k_bool hok hk).1 rfl hl
  | str => rw [hk] at hl; exact plain _ (k_str hok hk).1 rfl hl
  | sl ty e sz bytes => rw [hk] at hl; exact plain _ (k_sl hok hk).1 rfl hl
  | ptr e => rw [hk] at hl; exact plain _ (k_ptr hok hk).1 rfl hl
  | fn => rw [hk] at hl; obtain ⟨⟨a, b, c', hu⟩, _⟩ := k_fn hok hk; exact plain _ hu rfl hl
  | mp kt vt k e => rw [hk] at hl; exact plain _ (k_mp hok hk).1 rfl hl
  | other => rw [hk] at hl; cases hl

theorem foldl_setA : ∀ (vs : List Value) (k off : Nat) (cs : Array Value), (vs.zipIdx k).foldl (fun cs (p : Value × Nat) => cs.setIfInBounds (off + p.2) p.1) cs = setA cs (off + k) vs
  | [], _, _, _ => rfl
  | v :: vs, k, off, cs => by
    rw [List.zipIdx_cons, List.foldl_cons, setA, foldl_setA vs (k + 1) off]
    rfl
theorem fill_step {place : Nat → Option (Nat × Nat)} {cells : Array Value} {i off size : Nat} {v : Value} {rest : List (Nat × Value)} (hp : place i = some (off, size)) (hs : v.cells.size = size) (hle : off + size ≤ cells.size) :
    Instr.fill place cells ((i, v) :: rest) = Instr.fill place (setA cells off v.cells.toList) rest := by
  have := foldl_setA v.cells.toList 0 off cells
  simp only [Nat.add_zero] at this
  rw [Instr.fill, hp]
  simp only
  rw [if_neg (by rw [hs]; simp; omega), ← this, ← Array.foldl_toList, Array.toList_zipIdx]

theorem fill_rel (hok : cx.ok = true) (h : Rel cx Fb β st a w) {fs : List (Nat × Nat)} {place : Nat → Option (Nat × Nat)} (hp : ∀ (i o ty : Nat), fs[i]? = some (o, ty) → place i = some (o, cellsK (cx.kind ty))) :
    ∀ (parts : List (Nat × Operand)) (ps : List (Nat × List AVal)) (cs cs' : List AVal) (vs : Array Value), partsA cx fs st.ev parts = some ps → fillA cs ps = some cs' → RelL β st.objs w (NN Fb β st.objs) cs vs →
    ∃ vs', Instr.fill place vs (parts.map fun x => (x.1, a.eval x.2)) = some vs' ∧ RelL β st.objs w (NN Fb β st.objs) cs' vs' ∧ vs'.size = vs.size
  | [], ps, cs, cs', vs, h1, h2, hr => by
    cases h1; cases h2
    exact ⟨vs, rfl, hr, rfl⟩
  | (i, x) :: parts, ps, cs, cs', vs, h1, h2, hr => by
    unfold partsA at h1
    split at h1
    · rename_i o ty hf
      simp only [cond_eq_ite] at h1
      split at h1
      · rename_i hc
        simp only [Bool.and_eq_true, beq_iff_eq] at hc
        obtain ⟨ps', hps, rfl⟩ := Option.map_eq_some_iff.1 h1
        unfold fillA at h2
        simp only [cond_eq_ite, decide_eq_true_eq] at h2
        split at h2
        · rename_i hle
          obtain ⟨hv, h1c⟩ := valCells_rel (h.ev x) hc.2
          have hsz : (a.eval x).cells.size = cellsK (cx.kind ty) := by rw [← hv.1, hc.1]
          have hr2 := RelL.setCells _ (a.eval x).cells.toList _ _ o hr (by simpa using hv.1) fun j c v hc hv' => hv.2 j c v hc (by simpa using hv')
          obtain ⟨vs', g1, g2, g3⟩ := fill_rel hok h hp parts ps' _ cs' _ hps h2 hr2
          refine ⟨vs', ?_, g2, by rw [g3, setA_size]⟩
          simp only [List.map_cons]
          rw [fill_step (hp i o ty hf) hsz (by rw [← hr.1]; rw [← hc.1]; exact hle)]
          exact g1
        · cases h2
      · cases h1
    · cases h1

theorem places_map {P : Program} {eq : Bool} : ∀ (fs : List (Nat × Nat)) (gs : List Field), fieldsB P cx fs gs eq = true → gs.mapM (fun f => (P.info? f.type).map fun i => (f.offset, i.size)) = some (fs.map fun x => (x.1, cellsK (cx.kind x.2)))
  | [], [], _ => rfl
  | [], _ :: _, h => by simp [fieldsB] at h
  | _ :: _, [], h => by simp [fieldsB] at h
  | (o, t) :: fs, f :: gs, hb => by
    simp only [fieldsB, Bool.and_eq_true, beq_iff_eq] at hb
    obtain ⟨⟨⟨⟨h1, h2⟩, h3⟩, h4⟩, h5⟩ := hb
    have ih := places_map fs gs h5
    split at h3
    · rename_i j hj
      simp only [Bool.and_eq_true, beq_iff_eq] at h3
      subst h2; subst h1
      simp [List.mapM_cons, ih, hj, h3.1]
    · cases h3

/-- A struct literal. -/
theorem build_run (hok : cx.ok = true) (h : Rel cx Fb β st a w) {t sz : Nat} {fs : List (Nat × Nat)} {ss : List (Option Ty)} {z : List AVal} {eq : Bool} (hk : cx.kind t = .st fs sz ss z eq)
    {parts : Array (Nat × Operand)} {ps : List (Nat × List AVal)} {cs : List AVal} (hps : partsA cx fs st.ev parts.toList = some ps) (hf : fillA z ps = some cs) :
    ∃ v, (Instr.build t (parts.map fun (i, x) => (i, a.eval x))).run cx.prog w = .ok v w ∧ RelV β st.objs w (NN Fb β st.objs) (.agg cs) v := by
  obtain ⟨⟨fields, hu, hfb⟩, ⟨i, zz, hi, hs, hz, hzz, hzs, _⟩, _⟩ := k_st hok hk
  obtain ⟨hzl, hzr⟩ := zerosB_len hzz
  have hr0 : RelL β st.objs w (NN Fb β st.objs) z zz := ⟨by simpa using hzl, fun k c v hc hv => zeroB_rel (hzr k c v hc (by simpa using hv))⟩
  have hpl := places_map fs fields.toList hfb
  obtain ⟨vs', g1, g2, g3⟩ := fill_rel hok h (place := fun i => (fs.map fun x => (x.1, cellsK (cx.kind x.2))).toArray[i]?) (fun i o ty hf => by simp [hf]) parts.toList ps z cs zz hps hf hr0
  refine ⟨.agg vs', run_build _ _ _ _ ?_, .agg g2.1 g2.2⟩
  unfold Program.built
  simp only [hi, hu, hz, hpl]
  rw [Array.toList_map]
  exact g1

/-! ### Slice literals -/
theorem datums_spec : ∀ {objs : List AObj} {t : Ty} {ev : Operand → AVal} (parts : List (Nat × Operand)) (k : Nat) {xs : List (T t)}, datums objs t ev k parts = some xs →
    xs.length = parts.length ∧ ∀ (j : Nat) (p : Nat × Operand), parts[j]? = some p → p.1 = k + j ∧ ∃ d, xs[j]? = some d ∧ toDatum objs t (ev p.2) = some d
  | _, _, _, [], _, xs, h => by cases h; exact ⟨rfl, by simp⟩
  | objs, t, ev, (i, x) :: parts, k, xs, h => by
    unfold datums at h
    simp only [cond_eq_ite, beq_iff_eq] at h
    split at h
    · rename_i e
      obtain ⟨d, hd, h⟩ := Option.bind_eq_some_iff.1 h
      obtain ⟨l, hl, h⟩ := Option.bind_eq_some_iff.1 h
      cases h
      obtain ⟨h1, h2⟩ := datums_spec parts (k + 1) hl
      refine ⟨by simp [h1], fun j p hp => ?_⟩
      cases j with
      | zero => simp at hp; subst hp; exact ⟨e.symm, d, rfl, hd⟩
      | succ j =>
        obtain ⟨a, b⟩ := h2 j p (by simpa using hp)
        exact ⟨by omega, by simpa using b⟩
    · cases h

theorem fill_row {n sz : Nat} : ∀ (parts : List (Nat × Value)) (k : Nat) (vs : Array Value), (∀ (j : Nat) p, parts[j]? = some p → p.1 = k + j ∧ p.2.cells.size = sz) → (k + parts.length) * sz ≤ vs.size →
    ∃ vs', Instr.fill (fun i => some (i * sz, sz)) vs parts = some vs' ∧ vs'.size = vs.size ∧ (∀ m, m < k * sz → vs'[m]? = vs[m]?) ∧
      ∀ (j : Nat) p, parts[j]? = some p → ∀ m, m < sz → vs'[(k + j) * sz + m]? = p.2.cells[m]?
  | [], k, vs, _, _ => ⟨vs, rfl, rfl, fun _ _ => rfl, by simp⟩
  | (i, v) :: parts, k, vs, hp, hle => by
    obtain ⟨e1, e2⟩ := hp 0 _ rfl
    simp only [Nat.add_zero] at e1 e2
    subst e1
    have hlen : (i + (parts.length + 1)) * sz ≤ vs.size := by simpa using hle
    have h1 : (i + 1) * sz ≤ vs.size := Nat.le_trans (Nat.mul_le_mul_right _ (by omega)) hlen
    rw [Nat.add_mul, Nat.one_mul] at h1
    obtain ⟨vs', g1, g2, g3, g4⟩ := fill_row (n := n) parts (i + 1) (setA vs (i * sz) v.cells.toList) (fun j p hj => by
      have := hp (j + 1) p (by simpa using hj)
      exact ⟨by omega, this.2⟩) (by rw [setA_size]; simpa [Nat.add_assoc, Nat.add_comm, Nat.add_left_comm] using hlen)
    refine ⟨vs', ?_, by rw [g2, setA_size], fun m hm => ?_, fun j p hj m hm => ?_⟩
    · rw [fill_step (place := fun i => some (i * sz, sz)) rfl e2 h1]
      exact g1
    · rw [g3 m (by rw [Nat.add_mul]; omega), setA_out _ _ _ _ (.inl hm)]
    · cases j with
      | zero =>
        simp at hj; subst hj
        simp only [Nat.add_zero]
        rw [g3 _ (by rw [Nat.add_mul]; omega)]
        have : m < v.cells.toList.length := by simpa [e2] using hm
        rw [setA_in _ _ _ m (v.cells.toList[m]) (by simp [this]) (by omega)]
        have hm' : m < v.cells.size := by rw [e2]; exact hm
        simp [hm']
      | succ j =>
        have := g4 j p (by simpa using hj) m hm
        rw [show i + (j + 1) = i + 1 + j by omega]
        exact this
end
end Go.Ev
