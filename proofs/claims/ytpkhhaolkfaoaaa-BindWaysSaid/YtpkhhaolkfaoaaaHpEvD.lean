/-
  THE EVALUATOR, PART 4: objects and states of the evaluator against the model's memory.
-/
import Derived.Test.YtpkhhaolkfaoaaaHpEvC
set_option linter.unusedVariables false
set_option linter.unusedSimpArgs false
namespace Go.Ev

def alive : AObj → Bool
  | .dead => false
  | _ => true
def free (fr : Nat × Nat) (n : Nat) : Prop := ∀ j : Nat, j < n → ¬ (fr.1 ≤ j ∧ j < fr.2)
def jumpCode : AEx → Option Code
  | .normal => none
  | .exit id => some (.exit id)
  | .goto l => some (.goto l)
  | .ret => some .ret
def loopState : Option (Option AEx) → LoopState
  | none => .ready
  | some none => .busy
  | some (some _) => .done
def loopJump : Option (Option AEx) → Option Code
  | some (some e) => jumpCode e
  | _ => none
def RelL (β : List Loc) (objs : List AObj) (w : World) (N : Nat → Nat → Prop) (cs : List AVal) (vs : Array Value) : Prop :=
  cs.length = vs.size ∧ ∀ (i : Nat) (c : AVal) (v : Value), cs[i]? = some c → vs[i]? = some v → RelV β objs w N c v

section
variable (cx : Cx) (β : List Loc) (objs : List AObj) (w : World) (N : Nat → Nat → Prop)
/-- An object as it lies. -/
def ObjRel : AObj → Loc → Prop
  | .dead, _ => True
  | .box cs, l => ∃ b cap vs e fr, l = .at b cap ∧ w.heap[b]? = some (.cells vs e fr) ∧ free fr vs.size ∧ RelL β objs w N cs vs
  | .arr _ _ xs, .nil => xs = []
  | .arr t _ xs, .at b cap => ∃ vs e fr, w.heap[b]? = some (.cells vs e fr) ∧ vs.size = cap * t.size ∧ xs.length ≤ cap ∧ free fr vs.size ∧
      ∀ (i : Nat) (x : T t) (j : Nat) (c : AVal) (v : Value), xs[i]? = some x → (cells t x)[j]? = some c → vs[i * t.size + j]? = some v → RelV β objs w N c v
  | .frm f p ts j, l => ∃ b cap tmps blk g ps asg body fn, l = .at b cap ∧ codeAt p (bodyOf cx f) = .rangeFunc g ps asg body ∧
      w.heap[b]? = some (.loop ⟨loopState j, loopJump j, fn, tmps, ps, asg, body, blk⟩) ∧ RelL β objs w N ts tmps ∧ j ≠ some (some .normal)
  | .mp kt vt ks vs, l => ∃ b cap es clk, l = .at b cap ∧ w.heap[b]? = some (.map es clk) ∧ ks.length = es.size ∧ vs.length = es.size ∧
      ∀ (i : Nat) (k : T kt) (v : T vt) (e : MapEntry), ks[i]? = some k → vs[i]? = some v → es[i]? = some e → RelV β objs w N (boxOf kt k) e.key ∧ RelV β objs w N (boxOf vt v) e.val
  | .sit s pos, l => ∃ b cap, l = .at b cap ∧ w.heap[b]? = some (.stringIter ⟨s.toArray⟩ pos)
end

/-- The evaluator's state and the model's. -/
structure Rel (cx : Cx) (Fb : Nat → Nat → Prop) (β : List Loc) (st : St) (a : Act) (w : World) : Prop where
  tmps : RelL β st.objs w (NN Fb β st.objs) st.tmps a.tmps
  len : β.length = st.objs.length
  obj : ∀ (i : Nat) (o : AObj) (l : Loc), st.objs[i]? = some o → β[i]? = some l → ObjRel cx β st.objs w (NN Fb β st.objs) o l
  inj : ∀ (i j : Nat) (o o' : AObj) (b c c' : Nat), st.objs[i]? = some o → alive o = true → β[i]? = some (.at b c) → st.objs[j]? = some o' → alive o' = true → β[j]? = some (.at b c') → i = j
  fb : ∀ (i : Nat) (o : AObj) (b c : Nat), st.objs[i]? = some o → alive o = true → β[i]? = some (.at b c) → ∀ off, ¬ Fb b off

structure Grow (w w' : World) : Prop where
  os : w'.os = w.os
  tape : w'.tape = w.tape
  output : w'.output = w.output
  size : w.heap.size ≤ w'.heap.size
  blk : ∀ b : Nat, b < w.heap.size → w'.heap[b]? = w.heap[b]?
theorem Grow.refl (w : World) : Grow w w := ⟨rfl, rfl, rfl, Nat.le_refl _, fun _ _ => rfl⟩
theorem Grow.trans {w w1 w2 : World} (h : Grow w w1) (h' : Grow w1 w2) : Grow w w2 :=
  ⟨h'.os.trans h.os, h'.tape.trans h.tape, h'.output.trans h.output, Nat.le_trans h.size h'.size, fun b hb => (h'.blk b (Nat.lt_of_lt_of_le hb h.size)).trans (h.blk b hb)⟩
theorem Grow.keep {w w' : World} (h : Grow w w') (W : Nat → Nat → Prop) : Keep W w w' :=
  ⟨h.os, h.tape, h.output, h.size, fun b hb _ => h.blk b hb, fun b vs e fr hb => ⟨vs, (h.blk b (lt_of_get hb)).trans hb, rfl, fun _ _ => rfl⟩⟩
theorem Grow.cell {w w' : World} (h : Grow w w') {ad : Addr} {v : Value} (hv : w.cell? ad = some v) : w'.cell? ad = some v :=
  (h.keep (fun _ _ => False)).cell? (fun h => h) hv
theorem Grow.push (w : World) (o : Go.Obj) : Grow w { w with heap := w.heap.push o } :=
  ⟨rfl, rfl, rfl, by simp, fun b hb => by simp [Array.getElem?_push]; omega⟩
theorem Grow.drew (w : World) (n : Nat) : Grow w { w with drawn := n } := ⟨rfl, rfl, rfl, Nat.le_refl _, fun _ _ => rfl⟩

theorem RelL.goes {β β' : List Loc} {objs objs' : List AObj} {w w' : World} {N N' : Nat → Nat → Prop} (g : Goes β β' objs objs' w w' N N') {cs : List AVal} {vs : Array Value}
    (h : RelL β objs w N cs vs) : RelL β' objs' w' N' cs vs := ⟨h.1, fun i c v hc hv => (h.2 i c v hc hv).goes g⟩
theorem ObjRel.goes {cx : Cx} {β β' : List Loc} {objs objs' : List AObj} {w w' : World} {N N' : Nat → Nat → Prop} (g : Goes β β' objs objs' w w' N N') {o : AObj} {l : Loc}
    (hb : ∀ b cap, l = .at b cap → w'.heap[b]? = w.heap[b]?) (h : ObjRel cx β objs w N o l) : ObjRel cx β' objs' w' N' o l := by
  cases o with
  | dead => trivial
  | box cs =>
    obtain ⟨b, cap, vs, e, fr, rfl, h1, h2, h3⟩ := h
    exact ⟨b, cap, vs, e, fr, rfl, (hb b cap rfl).trans h1, h2, h3.goes g⟩
  | arr t sh xs =>
    cases l with
    | nil => exact h
    | «at» b cap =>
      obtain ⟨vs, e, fr, h1, h2, h3, h4, h5⟩ := h
      exact ⟨vs, e, fr, (hb b cap rfl).trans h1, h2, h3, h4, fun i x j c v a b d => (h5 i x j c v a b d).goes g⟩
  | frm f p ts j =>
    obtain ⟨b, cap, tmps, blk, gg, ps, asg, body, fn, rfl, h1, h2, h3, h4⟩ := h
    exact ⟨b, cap, tmps, blk, gg, ps, asg, body, fn, rfl, h1, (hb b cap rfl).trans h2, h3.goes g, h4⟩
  | mp kt vt ks vs =>
    obtain ⟨b, cap, es, clk, rfl, h1, h2, h3, h4⟩ := h
    exact ⟨b, cap, es, clk, rfl, (hb b cap rfl).trans h1, h2, h3, fun i k v e x y z => ⟨(h4 i k v e x y z).1.goes g, (h4 i k v e x y z).2.goes g⟩⟩
  | sit s pos =>
    obtain ⟨b, cap, rfl, h1⟩ := h
    exact ⟨b, cap, rfl, (hb b cap rfl).trans h1⟩

theorem getElem?_append_some {α : Type} {l l' : List α} {i : Nat} {x : α} (h : (l ++ l')[i]? = some x) : l[i]? = some x ∨ (l.length ≤ i ∧ l'[i - l.length]? = some x) := by
  rw [List.getElem?_append] at h
  split at h
  · exact .inl h
  · exact .inr ⟨by omega, h⟩
theorem getElem?_append_left' {α : Type} {l l' : List α} {i : Nat} {x : α} (h : l[i]? = some x) : (l ++ l')[i]? = some x := by
  rw [List.getElem?_append_left (List.getElem?_eq_some_iff.1 h).1]; exact h

section
variable {cx : Cx} {Fb : Nat → Nat → Prop} {β : List Loc} {st : St} {a : Act} {w : World}

/-- An object's block lies in memory. -/
theorem ObjRel.lt {objs : List AObj} {N : Nat → Nat → Prop} {o : AObj} {b cap : Nat} (h : ObjRel cx β objs w N o (.at b cap)) (ha : alive o = true) : b < w.heap.size := by
  cases o with
  | dead => simp [alive] at ha
  | box cs => obtain ⟨b', cap', vs, e, fr, hl, h1, _⟩ := h; cases hl; exact lt_of_get h1
  | arr t sh xs => obtain ⟨vs, e, fr, h1, _⟩ := h; exact lt_of_get h1
  | frm f p ts j => obtain ⟨b', cap', tmps, blk, gg, ps, asg, body, fn, hl, h1, h2, _⟩ := h; cases hl; exact lt_of_get h2
  | mp kt vt ks vs => obtain ⟨b', cap', es, clk, hl, h1, _⟩ := h; cases hl; exact lt_of_get h1
  | sit s pos => obtain ⟨b', cap', hl, h1⟩ := h; cases hl; exact lt_of_get h1
theorem wrO_at {o : AObj} {l : Loc} {b off : Nat} (h : wrO o l b off) : alive o = true ∧ ∃ cap, l = .at b cap := by
  cases o <;> cases l <;> simp_all [wrO, alive]
theorem Rel.wr_lt (h : Rel cx Fb β st a w) {b off : Nat} (hw : Wr β st.objs b off) : b < w.heap.size := by
  obtain ⟨i, o, l, ho, hl, hw⟩ := hw
  obtain ⟨ha, cap, rfl⟩ := wrO_at hw
  exact (h.obj i o _ ho hl).lt ha

/-- The surroundings change, the variables stay. -/
theorem Rel.step (h : Rel cx Fb β st a w) {β' : List Loc} {objs' : List AObj} {w' : World} (g : Goes β β' st.objs objs' w w' (NN Fb β st.objs) (NN Fb β' objs'))
    (hlen : β'.length = objs'.length)
    (hobj : ∀ (i : Nat) (o : AObj) (l : Loc), objs'[i]? = some o → β'[i]? = some l → ObjRel cx β' objs' w' (NN Fb β' objs') o l)
    (hinj : ∀ (i j : Nat) (o o' : AObj) (b c c' : Nat), objs'[i]? = some o → alive o = true → β'[i]? = some (.at b c) → objs'[j]? = some o' → alive o' = true → β'[j]? = some (.at b c') → i = j)
    (hfb : ∀ (i : Nat) (o : AObj) (b c : Nat), objs'[i]? = some o → alive o = true → β'[i]? = some (.at b c) → ∀ off, ¬ Fb b off) :
    Rel cx Fb β' { st with objs := objs' } a w' := ⟨h.tmps.goes g, hlen, hobj, hinj, hfb⟩

/-- New objects, in new blocks. -/
theorem Rel.push (h : Rel cx Fb β st a w) {w' : World} (g : Grow w w') (os : List AObj) (ls : List Loc) (hl : ls.length = os.length)
    (hFb : ∀ b off, Fb b off → b < w.heap.size)
    (hblk : ∀ (i b cap : Nat), ls[i]? = some (.at b cap) → w.heap.size ≤ b)
    (hinj : ∀ (i j b c c' : Nat), ls[i]? = some (.at b c) → ls[j]? = some (.at b c') → i = j)
    (hnew : Goes β (β ++ ls) st.objs (st.objs ++ os) w w' (NN Fb β st.objs) (NN Fb (β ++ ls) (st.objs ++ os)) →
      ∀ (i : Nat) (o : AObj) (l : Loc), os[i]? = some o → ls[i]? = some l → ObjRel cx (β ++ ls) (st.objs ++ os) w' (NN Fb (β ++ ls) (st.objs ++ os)) o l) :
    Goes β (β ++ ls) st.objs (st.objs ++ os) w w' (NN Fb β st.objs) (NN Fb (β ++ ls) (st.objs ++ os)) ∧ Rel cx Fb (β ++ ls) (st.push os) a w' := by
  have G : Goes β (β ++ ls) st.objs (st.objs ++ os) w w' (NN Fb β st.objs) (NN Fb (β ++ ls) (st.objs ++ os)) := by
    refine ⟨fun i l hi => getElem?_append_left' hi, fun i t sh xs hi ho => ?_, fun ad v _ hv => g.cell hv, fun ad v hv hn => ?_⟩
    · rcases getElem?_append_some ho with h1 | ⟨h1, _⟩
      · exact ⟨sh, xs, h1, rfl⟩
      · have := h.len; omega
    · rcases hn with hn | ⟨i, o, l, ho, hl', hw⟩
      · exact .inl hn
      · rcases getElem?_append_some ho with h1 | ⟨h1, h2⟩
        · rcases getElem?_append_some hl' with h3 | ⟨h3, h4⟩
          · exact .inr ⟨i, o, l, h1, h3, hw⟩
          · have := lt_of_loc (β := β) (i := i) (l := l); have := h.len; have := (List.getElem?_eq_some_iff.1 h1).1; omega
        · exfalso
          obtain ⟨_, cap, rfl⟩ := wrO_at hw
          obtain ⟨vs, e, fr, hb, _⟩ := cell?_some.1 hv
          have hlt := lt_of_get hb
          rcases getElem?_append_some hl' with h3 | ⟨h3, h4⟩
          · have := lt_of_loc h3; have := h.len; omega
          · have := hblk _ _ _ h4; omega
  refine ⟨G, h.step G (by simp [h.len, hl]) (fun i o l ho hl' => ?_) (fun i j o o' b c c' ho ha hl' ho' ha' hl'' => ?_) (fun i o b c ho ha hl' off hF => ?_)⟩
  · rcases getElem?_append_some ho with h1 | ⟨h1, h2⟩
    · rcases getElem?_append_some hl' with h3 | ⟨h3, h4⟩
      · by_cases ha : alive o = true
        · exact (h.obj i o l h1 h3).goes G fun b cap e => g.blk b (by subst e; exact (h.obj i o _ h1 h3).lt ha)
        · cases o with
          | dead => trivial
          | _ => exact absurd rfl ha
      · have := (List.getElem?_eq_some_iff.1 h1).1; have := h.len; omega
    · rcases getElem?_append_some hl' with h3 | ⟨h3, h4⟩
      · have := lt_of_loc h3; have := h.len; omega
      · exact hnew G _ o l h2 (by rw [h.len] at h4; exact h4)
  · have key : ∀ (i : Nat) (o : AObj) (b c : Nat), (st.objs ++ os)[i]? = some o → alive o = true → (β ++ ls)[i]? = some (.at b c) →
        (st.objs[i]? = some o ∧ β[i]? = some (.at b c) ∧ b < w.heap.size) ∨ (β.length ≤ i ∧ ls[i - β.length]? = some (.at b c) ∧ w.heap.size ≤ b) := by
      intro i o b c ho ha hl'
      rcases getElem?_append_some hl' with h3 | ⟨h3, h4⟩
      · rcases getElem?_append_some ho with h1 | ⟨h1, h2⟩
        · exact .inl ⟨h1, h3, (h.obj i o _ h1 h3).lt ha⟩
        · have := lt_of_loc h3; have := h.len; omega
      · exact .inr ⟨h3, h4, hblk _ _ _ h4⟩
    rcases key i o b c ho ha hl' with ⟨p1, p2, p3⟩ | ⟨p1, p2, p3⟩ <;> rcases key j o' b c' ho' ha' hl'' with ⟨q1, q2, q3⟩ | ⟨q1, q2, q3⟩
    · exact h.inj i j o o' b c c' p1 ha p2 q1 ha' q2
    · omega
    · omega
    · have := hinj _ _ _ _ _ p2 q2; omega
  · rcases getElem?_append_some hl' with h3 | ⟨h3, h4⟩
    · rcases getElem?_append_some ho with h1 | ⟨h1, h2⟩
      · exact h.fb i o b c h1 ha h3 off hF
      · have := lt_of_loc h3; have := h.len; omega
    · have := hblk _ _ _ h4; have := hFb _ _ hF; omega

theorem Rel.grow (h : Rel cx Fb β st a w) {w' : World} (g : Grow w w') (hFb : ∀ b off, Fb b off → b < w.heap.size) : Rel cx Fb β st a w' := by
  have := (h.push g [] [] rfl hFb (by simp) (by simp) (by simp)).2
  simpa [St.push] using this

theorem RelL.set {objs : List AObj} {N : Nat → Nat → Prop} {cs : List AVal} {vs : Array Value} (h : RelL β objs w N cs vs) (d : Nat) {c : AVal} {v : Value} (hv : RelV β objs w N c v) :
    RelL β objs w N (cs.set d c) (vs.setIfInBounds d v) := by
  refine ⟨by simpa using h.1, fun i c' v' hc hv' => ?_⟩
  rw [List.getElem?_set] at hc
  rw [Array.getElem?_setIfInBounds] at hv'
  by_cases e : d = i
  · subst e
    simp only [if_true] at hc hv'
    split at hc
    · split at hv'
      · cases hc; cases hv'; exact hv
      · cases hv'
    · cases hc
  · rw [if_neg e] at hc hv'
    exact h.2 i c' v' hc hv'
theorem Rel.put (h : Rel cx Fb β st a w) (d : Option Nat) {c : AVal} {v : Value} (hv : RelV β st.objs w (NN Fb β st.objs) c v) : Rel cx Fb β (st.put d c) (a.put d v) w := by
  cases d with
  | none => exact h
  | some d => exact ⟨h.tmps.set d hv, h.len, h.obj, h.inj, h.fb⟩
theorem put_objs (st : St) (d : Option Nat) (c : AVal) : (st.put d c).objs = st.objs := by cases d <;> rfl

theorem RelV.ofVal0 {objs : List AObj} {N : Nat → Nat → Prop} (v : Value) : RelV β objs w N (ofVal0 v) v := by
  unfold Ev.ofVal0
  split
  · exact .bool _
  · rename_i k n
    cases hc : (decide (k = .u8) && !(decide (0 ≤ n) && decide (n < 256)))
    · exact .int fun hk => by simp [hk] at hc; omega
    · exact .undef _
  · rename_i s
    have := RelV.str (β := β) (objs := objs) (w := w) (N := N) s.data.toList
    simpa using this
  · exact .nilp
  · exact .nils
  · exact .nilm
  · exact .nilf
  · exact .clo rfl (by simp)
  · exact .tup rfl (by simp)
  · exact .undef _
theorem RelV.ofVal {objs : List AObj} {N : Nat → Nat → Prop} (v : Value) : RelV β objs w N (ofVal v) v := by
  unfold Ev.ofVal
  split
  · rename_i cs
    refine .agg (by simp) fun i c v hc hv => ?_
    obtain ⟨x, hx, rfl⟩ := getElem?_map_some hc
    obtain rfl : x = v := by simp at hv; rw [hx] at hv; simpa using hv
    exact .ofVal0 _
  · exact .ofVal0 _
theorem Rel.ev (h : Rel cx Fb β st a w) (x : Operand) : RelV β st.objs w (NN Fb β st.objs) (st.ev x) (a.eval x) := by
  cases x with
  | tmp t =>
    simp only [St.ev, Act.eval]
    cases hc : st.tmps[t]? with
    | none => exact .undef _
    | some c =>
      have hlt := (List.getElem?_eq_some_iff.1 hc).1
      rw [h.tmps.1] at hlt
      exact h.tmps.2 t c _ hc (by rw [Array.getD_eq_getD_getElem?]; simp [hlt])
  | const v => exact .ofVal v
  | global g => exact .undef _
  | func f => exact .clo rfl (by simp)
end
end Go.Ev
