/-
  THE EVALUATOR, PART 8: steps that change memory, and what is kept.
-/
import Derived.Test.YtpkhhaolkfaoaaaHpEvG
set_option linter.unusedVariables false
set_option linter.unusedSimpArgs false
set_option linter.unusedSectionVars false
namespace Go.Ev

/-- What the records of loops keep. -/
def Recs (w w' : World) : Prop := ∀ (b : Nat) (L : Go.Loop), w.heap[b]? = some (.loop L) → ∃ L' : Go.Loop, w'.heap[b]? = some (.loop L') ∧ L'.tmps = L.tmps
theorem Recs.refl (w : World) : Recs w w := fun _ L h => ⟨L, h, rfl⟩
theorem Recs.trans {w w1 w2 : World} (h : Recs w w1) (h' : Recs w1 w2) : Recs w w2 := fun b L hL => by
  obtain ⟨L1, h1, e1⟩ := h b L hL
  obtain ⟨L2, h2, e2⟩ := h' b L1 h1
  exact ⟨L2, h2, e2.trans e1⟩
theorem Recs.grow {w w' : World} (g : Grow w w') : Recs w w' := fun b L h => ⟨L, (g.blk b (lt_of_get h)).trans h, rfl⟩
/-- From one state of objects and memory to a later one. -/
structure Adv (β : List Loc) (objs : List AObj) (w : World) (β' : List Loc) (objs' : List AObj) (w' : World) : Prop where
  pre : ∃ ls, β' = β ++ ls
  keep : Keep (Wr β objs) w w'
  wr : ∀ b off, b < w.heap.size → Wr β' objs' b off → Wr β objs b off
  frm : ∀ (i : Nat) f p ts j, objs[i]? = some (.frm f p ts j) → ∃ ts' j', objs'[i]? = some (.frm f p ts' j')
  arr : ∀ (i : Nat) t sh xs, i < objs.length → objs'[i]? = some (.arr t sh xs) → ∃ sh0 xs0, objs[i]? = some (.arr t sh0 xs0) ∧ xs0.length = xs.length
  len : objs.length ≤ objs'.length
  lp : Recs w w'

theorem Adv.refl (β : List Loc) (objs : List AObj) (w : World) : Adv β objs w β objs w :=
  ⟨⟨[], by simp⟩, .refl _ _, fun _ _ _ h => h, fun _ _ _ ts j h => ⟨ts, j, h⟩, fun _ _ sh xs _ h => ⟨sh, xs, h, rfl⟩, Nat.le_refl _, .refl _⟩
theorem Adv.trans {β β1 β2 : List Loc} {o o1 o2 : List AObj} {w w1 w2 : World} (h : Adv β o w β1 o1 w1) (h' : Adv β1 o1 w1 β2 o2 w2) : Adv β o w β2 o2 w2 := by
  obtain ⟨l1, rfl⟩ := h.pre
  obtain ⟨l2, rfl⟩ := h'.pre
  refine ⟨⟨l1 ++ l2, by simp⟩, h.keep.trans h'.keep (fun _ _ h => h) (fun b off hb hw => h.wr b off hb hw), fun b off hb hw => h.wr b off hb (h'.wr b off (Nat.lt_of_lt_of_le hb h.keep.size) hw), fun i f p ts j hi => ?_, fun i t sh xs hi ho => ?_, Nat.le_trans h.len h'.len, h.lp.trans h'.lp⟩
  · obtain ⟨ts1, j1, h1⟩ := h.frm i f p ts j hi
    exact h'.frm i f p ts1 j1 h1
  · obtain ⟨sh1, xs1, h1, e1⟩ := h'.arr i t sh xs (Nat.lt_of_lt_of_le hi h.len) ho
    obtain ⟨sh0, xs0, h0, e0⟩ := h.arr i t sh1 xs1 hi h1
    exact ⟨sh0, xs0, h0, e0.trans e1⟩
theorem Adv.goes {Fb : Nat → Nat → Prop} {β β' : List Loc} {o o' : List AObj} {w w' : World} (h : Adv β o w β' o' w') (hl : β.length = o.length) : Goes β β' o o' w w' (NN Fb β o) (NN Fb β' o') := by
  obtain ⟨ls, rfl⟩ := h.pre
  refine ⟨fun i l hi => getElem?_append_left' hi, fun i t sh xs hi ho => h.arr i t sh xs (by omega) ho, fun ad v hn hv => h.keep.cell? (fun hw => hn (.inr hw)) hv, fun ad v hv hn => ?_⟩
  obtain ⟨vs, e, fr, hb, _⟩ := cell?_some.1 hv
  rcases hn with hn | hn
  · exact .inl hn
  · exact .inr (h.wr _ _ (lt_of_get hb) hn)
theorem Adv.grow {β : List Loc} {o : List AObj} {w w' : World} (g : Grow w w') : Adv β o w β o w' :=
  ⟨⟨[], by simp⟩, g.keep _, fun _ _ _ h => h, fun _ _ _ ts j h => ⟨ts, j, h⟩, fun _ _ sh xs _ h => ⟨sh, xs, h, rfl⟩, Nat.le_refl _, .grow g⟩

section
variable {cx : Cx} {Fb : Nat → Nat → Prop} {β : List Loc} {st : St} {a : Act} {w : World}

theorem Rel.adv (h : Rel cx Fb β st a w) {β' : List Loc} {objs' : List AObj} {w' : World} (g : Adv β st.objs w β' objs' w')
    (hlen : β'.length = objs'.length)
    (hobj : ∀ (i : Nat) (o : AObj) (l : Loc), objs'[i]? = some o → β'[i]? = some l → ObjRel cx β' objs' w' (NN Fb β' objs') o l)
    (hinj : ∀ (i j : Nat) (o o' : AObj) (b c c' : Nat), objs'[i]? = some o → alive o = true → β'[i]? = some (.at b c) → objs'[j]? = some o' → alive o' = true → β'[j]? = some (.at b c') → i = j)
    (hfb : ∀ (i : Nat) (o : AObj) (b c : Nat), objs'[i]? = some o → alive o = true → β'[i]? = some (.at b c) → ∀ off, ¬ Fb b off) :
    Rel cx Fb β' { st with objs := objs' } a w' := h.step (g.goes h.len) hlen hobj hinj hfb

/-- New objects in new blocks: what is kept. -/
theorem Rel.push_adv (h : Rel cx Fb β st a w) {w' : World} (g : Grow w w') (os : List AObj) (ls : List Loc) (hl : ls.length = os.length)
    (hblk : ∀ (i b cap : Nat), ls[i]? = some (.at b cap) → w.heap.size ≤ b) : Adv β st.objs w (β ++ ls) (st.objs ++ os) w' := by
  refine ⟨⟨ls, rfl⟩, g.keep _, fun b off hb hw => ?_, fun i f p ts j hi => ⟨ts, j, getElem?_append_left' hi⟩, fun i t sh xs hi ho => ?_, by simp, .grow g⟩
  · obtain ⟨i, o, l, ho, hl', hw⟩ := hw
    rcases getElem?_append_some hl' with h3 | ⟨h3, h4⟩
    · rcases getElem?_append_some ho with h1 | ⟨h1, h2⟩
      · exact ⟨i, o, l, h1, h3, hw⟩
      · have := lt_of_loc h3; have := h.len; omega
    · obtain ⟨_, cap, rfl⟩ := wrO_at hw
      have h5 := hblk _ _ _ h4
      have : b = b := rfl
      have hb' : ∃ b', (.at b cap : Loc) = .at b' cap := ⟨b, rfl⟩
      omega
  · rw [List.getElem?_append_left hi] at ho
    exact ⟨sh, xs, ho, rfl⟩

/-- One new block of cells: a variable of one's own; the nil rows in it. -/
theorem Rel.box (h : Rel cx Fb β st a w) (hFb : ∀ b off, Fb b off → b < w.heap.size) (cs : List AVal) (vs : Array Value) (e : TypeId) (tl : List AObj) (htl : ∀ o ∈ tl, ∃ t, o = .arr t false [])
    (hrel : Goes β (β ++ (.at w.heap.size 0 :: List.replicate tl.length .nil)) st.objs (st.objs ++ (.box cs :: tl)) w { w with heap := w.heap.push (.cells vs e) } (NN Fb β st.objs) (NN Fb (β ++ (.at w.heap.size 0 :: List.replicate tl.length .nil)) (st.objs ++ (.box cs :: tl))) →
      RelL (β ++ (.at w.heap.size 0 :: List.replicate tl.length .nil)) (st.objs ++ (.box cs :: tl)) { w with heap := w.heap.push (.cells vs e) } (NN Fb (β ++ (.at w.heap.size 0 :: List.replicate tl.length .nil)) (st.objs ++ (.box cs :: tl))) cs vs) :
    Adv β st.objs w (β ++ (.at w.heap.size 0 :: List.replicate tl.length .nil)) (st.objs ++ (.box cs :: tl)) { w with heap := w.heap.push (.cells vs e) } ∧
    Rel cx Fb (β ++ (.at w.heap.size 0 :: List.replicate tl.length .nil)) (st.push (.box cs :: tl)) a { w with heap := w.heap.push (.cells vs e) } := by
  have hb : ∀ (i b cap : Nat), (Loc.at w.heap.size 0 :: List.replicate tl.length Loc.nil)[i]? = some (.at b cap) → i = 0 ∧ b = w.heap.size := by
    intro i b cap hi
    cases i with
    | zero => simp at hi; exact ⟨rfl, hi.1.symm⟩
    | succ i => simp [List.getElem?_replicate] at hi
  refine ⟨h.push_adv (Grow.push _ _) _ _ (by simp) (fun i b cap hi => by have := (hb i b cap hi).2; omega), (h.push (Grow.push _ _) _ _ (by simp) hFb (fun i b cap hi => by have := (hb i b cap hi).2; omega) (fun i j b c c' hi hj => by rw [(hb _ _ _ hi).1, (hb _ _ _ hj).1]) fun G i o l ho hl => ?_).2⟩
  cases i with
  | zero =>
    simp only [List.getElem?_cons_zero, Option.some.injEq] at ho hl
    subst ho; subst hl
    exact ⟨_, _, vs, e, (0, 0), rfl, by simp, fun j _ hj => by simp at hj, hrel G⟩
  | succ i =>
    simp only [List.getElem?_cons_succ] at ho hl
    obtain ⟨t, rfl⟩ := htl o (List.mem_of_getElem? ho)
    have : l = .nil := by simp [List.getElem?_replicate] at hl; exact hl.2.symm
    subst this
    rfl

/-- A row of one's own that is nil. -/
theorem Rel.nilRow (h : Rel cx Fb β st a w) (hFb : ∀ b off, Fb b off → b < w.heap.size) (t : Ty) (sh : Bool) :
    Adv β st.objs w (β ++ [.nil]) (st.objs ++ [.arr t sh []]) w ∧ Rel cx Fb (β ++ [.nil]) (st.push [.arr t sh []]) a w := by
  have hb : ∀ (i b cap : Nat), [Loc.nil][i]? = some (.at b cap) → False := by
    intro i b cap hi
    cases i <;> simp at hi
  refine ⟨h.push_adv (Grow.refl _) _ _ rfl (fun i b cap hi => (hb i b cap hi).elim), (h.push (Grow.refl _) _ _ rfl hFb (fun i b cap hi => (hb i b cap hi).elim) (fun i j b c c' hi hj => (hb _ _ _ hi).elim) fun G i o l ho hl => ?_).2⟩
  cases i with
  | zero =>
    simp only [List.getElem?_cons_zero, Option.some.injEq] at ho hl
    subst ho; subst hl
    rfl
  | succ i => simp at ho

/-- A row of one's own in a new block. -/
theorem Rel.row (h : Rel cx Fb β st a w) (hFb : ∀ b off, Fb b off → b < w.heap.size) {w' : World} (g : Grow w w') (t : Ty) (sh : Bool) (xs : List (T t)) (cap : Nat) (vs : Array Value) (e : TypeId) (fr : Nat × Nat)
    (hbk : w'.heap[w.heap.size]? = some (.cells vs e fr)) (hs : vs.size = cap * t.size) (hc : xs.length ≤ cap) (hfr : free fr vs.size)
    (hrel : ∀ (i : Nat) (x : T t) (j : Nat) (c : AVal) (v : Value), xs[i]? = some x → (cells t x)[j]? = some c → vs[i * t.size + j]? = some v → RelV β st.objs w (NN Fb β st.objs) c v) :
    Adv β st.objs w (β ++ [.at w.heap.size cap]) (st.objs ++ [.arr t sh xs]) w' ∧ Rel cx Fb (β ++ [.at w.heap.size cap]) (st.push [.arr t sh xs]) a w' := by
  have hb : ∀ (i b c : Nat), [Loc.at w.heap.size cap][i]? = some (.at b c) → i = 0 ∧ b = w.heap.size := by
    intro i b c hi
    cases i with
    | zero => simp at hi; exact ⟨rfl, hi.1.symm⟩
    | succ i => simp at hi
  refine ⟨h.push_adv g _ _ rfl (fun i b cap hi => by have := (hb i b cap hi).2; omega), (h.push g _ _ rfl hFb (fun i b cap hi => by have := (hb i b cap hi).2; omega) (fun i j b c c' hi hj => by rw [(hb _ _ _ hi).1, (hb _ _ _ hj).1]) fun G i o l ho hl => ?_).2⟩
  cases i with
  | zero =>
    simp only [List.getElem?_cons_zero, Option.some.injEq] at ho hl
    subst ho; subst hl
    exact ⟨vs, e, fr, hbk, hs, hc, hfr, fun i x j c v a b d => (hrel i x j c v a b d).goes G⟩
  | succ i => simp at ho

theorem objAt_some {objs : List AObj} {i : Nat} {o : AObj} (h : objAt objs i = o) (ha : alive o = true) : objs[i]? = some o := by
  unfold objAt at h
  cases ho : objs[i]? with
  | none => rw [ho] at h; simp at h; subst h; simp [alive] at ha
  | some o' => rw [ho] at h; simp at h; rw [h]

/-- A variable's cells. -/
theorem rowAt_box {objs : List AObj} {N : Nat → Nat → Prop} {cs : List AVal} {b cap : Nat} (h : ObjRel cx β objs w N (.box cs) (.at b cap)) : RowAt β objs w N cs ⟨b, 0, none⟩ := by
  obtain ⟨b', cap', vs, e, fr, hl, h1, h2, h3⟩ := h
  cases hl
  refine ⟨fun j => (vs[j]?).getD undef, fun j hj => ?_, fun j c hj => ?_⟩
  · have hj' : j < vs.size := by rw [← h3.1]; exact hj
    refine cell?_some.2 ⟨vs, e, fr, by rw [add_block]; exact h1, ?_, ?_⟩
    · unfold Addr.add; split <;> rfl
    · rw [add_off]; simp [hj']
  · have hj' : j < vs.size := by rw [← h3.1]; exact (List.getElem?_eq_some_iff.1 hj).1
    exact h3.2 j c _ hj (by simp [hj'])
theorem mk_add (b o j : Nat) : (⟨b, o, none⟩ : Addr).add j = ⟨b, o + j, none⟩ := by unfold Addr.add; split <;> simp_all
theorem rowAt_ptr {objs : List AObj} {N : Nat → Nat → Prop} {cs : List AVal} {b : Nat} (h : RowAt β objs w N cs ⟨b, 0, none⟩) (off : Nat) : RowAt β objs w N (cs.drop off) ⟨b, off, none⟩ := by
  have := h.drop off
  rw [mk_add] at this
  simpa using this
theorem rowAt_arr {objs : List AObj} {N : Nat → Nat → Prop} {t : Ty} {sh : Bool} {xs : List (T t)} {b cap i : Nat} {x : T t} (h : ObjRel cx β objs w N (.arr t sh xs) (.at b cap)) (hx : xs[i]? = some x) :
    RowAt β objs w N (cells t x) ⟨b, i * t.size, none⟩ := by
  obtain ⟨vs, e, fr, h1, h2, h3, h4, h5⟩ := h
  have hi : i < xs.length := (List.getElem?_eq_some_iff.1 hx).1
  have hlt : ∀ j, j < t.size → i * t.size + j < vs.size := fun j hj => by
    rw [h2]
    have : (i + 1) * t.size ≤ cap * t.size := Nat.mul_le_mul_right _ (by omega)
    rw [Nat.add_mul] at this
    omega
  refine ⟨fun j => (vs[i * t.size + j]?).getD undef, fun j hj => ?_, fun j c hj => ?_⟩
  · rw [cells_length] at hj
    refine cell?_some.2 ⟨vs, e, fr, by rw [add_block]; exact h1, ?_, ?_⟩
    · unfold Addr.add; split <;> rfl
    · rw [add_off]; simp [hlt j hj]
  · have hj' : j < t.size := by rw [← cells_length t x]; exact (List.getElem?_eq_some_iff.1 hj).1
    exact h5 i x j c _ hx hj (by simp [hlt j hj'])

/-- What a load answers. -/
theorem load_run (hok : cx.ok = true) (h : Rel cx Fb β st a w) {c z : AVal} {v : Value} {t : Nat}
    (hl : (match c with
      | .ptr id off => match objAt st.objs id with
        | .box cs => loadAs (cx.kind t) (cs.drop off)
        | _ => none
      | .ref cs => loadAs (cx.kind t) cs
      | .aref id i off => match objAt st.objs id with
        | .arr ty _ xs => (xs[i]?).bind fun x => loadAs (cx.kind t) ((cells ty x).drop off)
        | _ => none
      | _ => none) = some z) (hc : RelV β st.objs w (NN Fb β st.objs) c v) : ∃ u, (Instr.loadAt t v).run cx.prog w = .ok u w ∧ RelV β st.objs w (NN Fb β st.objs) z u := by
  have fin : ∀ {cs : List AVal} {ad : Addr}, v = .pointer (some ad) → RowAt β st.objs w (NN Fb β st.objs) cs ad → loadAs (cx.kind t) cs = some z →
      ∃ u, (Instr.loadAt t v).run cx.prog w = .ok u w ∧ RelV β st.objs w (NN Fb β st.objs) z u := by
    rintro cs ad rfl hrow hz
    obtain ⟨u, h1, h2⟩ := loadAs_run hok hrow hz
    exact ⟨u, by simp [Instr.loadAt, Instr.sureAddr, h1], h2⟩
  split at hl
  · rename_i id off
    cases hc with | ptr hβ =>
    rename_i b cap
    split at hl
    · rename_i cs ho
      have ho' := objAt_some ho rfl
      exact fin rfl (rowAt_ptr (rowAt_box (h.obj id _ _ ho' hβ)) off) hl
    · cases hl
  · rename_i cs
    cases hc with | ref val hcell hr =>
    exact fin rfl ⟨val, fun j hj => (hcell j hj).1, hr⟩ hl
  · rename_i id i off
    cases hc with | aref hid one hv =>
    split at hl
    · rename_i ty sh xs ho
      have ho' := objAt_some ho rfl
      obtain ⟨x, hx, hl⟩ := Option.bind_eq_some_iff.1 hl
      have hβ : β[id]? = some β[id] := by simp [hid]
      obtain ⟨b, cap, hloc, rfl⟩ := hv ty sh xs _ ho' hβ
      have hrow := rowAt_arr (by rw [← hloc]; exact h.obj id _ _ ho' hβ) hx
      have := hrow.drop off
      rw [mk_add] at this
      exact fin rfl this hl
    · cases hl
  · cases hl
end
end Go.Ev
