/-
  THE EVALUATOR, PART 37: what an operation does hangs on what it sees alone.
-/
import Derived.Test.YtpkhhaolkfaoaaaHpEwC
set_option linter.unusedVariables false
set_option linter.unusedSimpArgs false
set_option linter.unusedSectionVars false
namespace Go.Ev
section
variable {cx : Cx}

/-- In all surroundings that look alike to the operation, it does the same. -/
structure Lcl {cx : Cx} (O : Orc cx) (o : Oper) (ev : Operand → AVal) (objs objs1 : List AObj) (v : AVal) : Prop where
  again : ∀ (ev2 : Operand → AVal) (objs2 : List AObj), (∀ x ∈ o.op.operands, ev2 x = ev x) → objs2.length = objs.length →
    (∀ x, x ∈ wrIds cx ev objs o ++ rdIds cx ev objs o → objs2[x]? = objs[x]?) →
    ∃ objs3, (∀ (R : Type) (κ : List AObj → AVal → Option R), aopV cx O o ev2 objs2 κ = κ objs3 v) ∧ objs3.length = objs1.length ∧
      (∀ x, (objs.length ≤ x ∨ x ∈ wrIds cx ev objs o) → objs3[x]? = objs1[x]?) ∧
      (∀ x, x < objs.length → x ∉ wrIds cx ev objs o → objs3[x]? = objs2[x]?)

/-- An operation that changes nothing. -/
theorem Lcl.read {O : Orc cx} {o : Oper} {ev : Operand → AVal} {objs : List AObj} {v : AVal}
    (h : ∀ (ev2 : Operand → AVal) (objs2 : List AObj), (∀ x ∈ o.op.operands, ev2 x = ev x) → objs2.length = objs.length → (∀ x, x ∈ rdIds cx ev objs o → objs2[x]? = objs[x]?) →
      ∀ (R : Type) (κ : List AObj → AVal → Option R), aopV cx O o ev2 objs2 κ = κ objs2 v) : Lcl O o ev objs objs v :=
  ⟨fun ev2 objs2 he hl ho => ⟨objs2, h ev2 objs2 he hl (fun x hx => ho x (List.mem_append_right _ hx)), hl, fun x hx => by
    rcases hx with hx | hx
    · rw [List.getElem?_eq_none hx, List.getElem?_eq_none (by omega)]
    · exact ho x (List.mem_append_left _ hx), fun _ _ _ => rfl⟩⟩
/-- New objects. -/
theorem Lcl.push {O : Orc cx} {o : Oper} {ev : Operand → AVal} {objs : List AObj} {v : AVal} {os : List AObj}
    (h : ∀ (ev2 : Operand → AVal) (objs2 : List AObj), (∀ x ∈ o.op.operands, ev2 x = ev x) → objs2.length = objs.length → (∀ x, x ∈ rdIds cx ev objs o → objs2[x]? = objs[x]?) →
      ∀ (R : Type) (κ : List AObj → AVal → Option R), aopV cx O o ev2 objs2 κ = κ (objs2 ++ os) v) : Lcl O o ev objs (objs ++ os) v :=
  ⟨fun ev2 objs2 he hl ho => ⟨objs2 ++ os, h ev2 objs2 he hl (fun x hx => ho x (List.mem_append_right _ hx)), by simp [hl], fun x hx => by
    by_cases h1 : x < objs.length
    · rcases hx with hx | hx
      · omega
      · rw [List.getElem?_append_left h1, List.getElem?_append_left (by omega)]; exact ho x (List.mem_append_left _ hx)
    · rw [List.getElem?_append_right (by omega), List.getElem?_append_right (by omega), hl], fun x hx _ => List.getElem?_append_left (by omega)⟩⟩
/-- One object is changed, and new ones come. -/
theorem Lcl.set {O : Orc cx} {o : Oper} {ev : Operand → AVal} {objs : List AObj} {v : AVal} {os : List AObj} {id : Nat} {ob : AObj} (hid : id ∈ wrIds cx ev objs o)
    (h : ∀ (ev2 : Operand → AVal) (objs2 : List AObj), (∀ x ∈ o.op.operands, ev2 x = ev x) → objs2.length = objs.length → (∀ x, x ∈ wrIds cx ev objs o ++ rdIds cx ev objs o → objs2[x]? = objs[x]?) →
      ∀ (R : Type) (κ : List AObj → AVal → Option R), aopV cx O o ev2 objs2 κ = κ (objs2.set id ob ++ os) v) : Lcl O o ev objs (objs.set id ob ++ os) v :=
  ⟨fun ev2 objs2 he hl ho => ⟨objs2.set id ob ++ os, h ev2 objs2 he hl ho, by simp [hl], fun x hx => by
    by_cases h1 : x < objs.length
    · rcases hx with hx | hx
      · omega
      · rw [List.getElem?_append_left (by simp; omega), List.getElem?_append_left (by simp; omega)]
        by_cases e : id = x
        · subst e; simp [h1, hl]
        · rw [List.getElem?_set_ne e, List.getElem?_set_ne e]; exact ho x (List.mem_append_left _ hx)
    · rw [List.getElem?_append_right (by simp; omega), List.getElem?_append_right (by simp; omega)]; simp [hl], fun x hx hn => by
      have hne : id ≠ x := fun e => hn (e ▸ hid)
      rw [List.getElem?_append_left (by simp; omega), List.getElem?_set_ne hne]⟩⟩

theorem objAt_congr {objs objs2 : List AObj} {x : Nat} (h : objs2[x]? = objs[x]?) : objAt objs2 x = objAt objs x := by unfold objAt; rw [h]

/-- What an operation that goes on does. -/
def Goes1 (cx : Cx) (O : Orc cx) (o : Oper) : Prop := ∀ (ev : Operand → AVal) (objs : List AObj) (R : Type) (κ : List AObj → AVal → Option R) (r : R),
  aopV cx O o ev objs κ = some r → ∃ objs1 v, κ objs1 v = some r ∧ objs.length ≤ objs1.length ∧ Lcl O o ev objs objs1 v

variable {O : Orc cx} {o : Oper}
theorem goes_read {o : Oper} {ev : Operand → AVal} {objs : List AObj} {R : Type} {κ : List AObj → AVal → Option R} {r : R} {v : AVal} (h : κ objs v = some r)
    (hh : ∀ (ev2 : Operand → AVal) (objs2 : List AObj), (∀ x ∈ o.op.operands, ev2 x = ev x) → objs2.length = objs.length → (∀ x, x ∈ rdIds cx ev objs o → objs2[x]? = objs[x]?) →
      ∀ (R : Type) (κ : List AObj → AVal → Option R), aopV cx O o ev2 objs2 κ = κ objs2 v) : ∃ objs1 v, κ objs1 v = some r ∧ objs.length ≤ objs1.length ∧ Lcl O o ev objs objs1 v :=
  ⟨objs, v, h, Nat.le_refl _, .read hh⟩
theorem goes_push {o : Oper} {ev : Operand → AVal} {objs : List AObj} {R : Type} {κ : List AObj → AVal → Option R} {r : R} {v : AVal} {os : List AObj} (h : κ (objs ++ os) v = some r)
    (hh : ∀ (ev2 : Operand → AVal) (objs2 : List AObj), (∀ x ∈ o.op.operands, ev2 x = ev x) → objs2.length = objs.length → (∀ x, x ∈ rdIds cx ev objs o → objs2[x]? = objs[x]?) →
      ∀ (R : Type) (κ : List AObj → AVal → Option R), aopV cx O o ev2 objs2 κ = κ (objs2 ++ os) v) : ∃ objs1 v, κ objs1 v = some r ∧ objs.length ≤ objs1.length ∧ Lcl O o ev objs objs1 v :=
  ⟨objs ++ os, v, h, by simp, .push hh⟩

theorem goes_move {x : Operand} (ho : o.op = .move x) : Goes1 cx O o := by
  intro ev objs R κ r h
  simp only [aopV, ho] at h
  refine goes_read h fun ev2 objs2 he hl hr R κ => ?_
  simp only [aopV, ho, he x (by simp [ho, Op.operands])]
theorem goes_assign {x : Operand} (ho : o.op = .assign x) : Goes1 cx O o := by
  intro ev objs R κ r h
  simp only [aopV, ho] at h
  split at h
  · rename_i hx
    split at h
    · rename_i hk
      refine goes_push h fun ev2 objs2 he hl hr R κ => ?_
      simp only [aopV, ho, he x (by simp [ho, Op.operands]), hx, hk, hl]
    · rename_i hk
      refine goes_read h fun ev2 objs2 he hl hr R κ => ?_
      simp only [aopV, ho, he x (by simp [ho, Op.operands]), hx]
  · rename_i hx
    refine goes_read h fun ev2 objs2 he hl hr R κ => ?_
    simp only [aopV, ho, he x (by simp [ho, Op.operands])]
theorem goes_pick {c a b : Operand} (ho : o.op = .pick c a b) : Goes1 cx O o := by
  intro ev objs R κ r h
  simp only [aopV, ho] at h
  split at h
  · rename_i t hc
    cases t
    all_goals
      refine goes_read h fun ev2 objs2 he hl hr R κ => ?_
      simp only [aopV, ho, he c (by simp [ho, Op.operands]), he a (by simp [ho, Op.operands]), he b (by simp [ho, Op.operands]), hc, cond_true, cond_false]
  · cases h
theorem goes_alloc {e : Nat} (ho : o.op = .alloc e) : Goes1 cx O o := by
  intro ev objs R κ r h
  simp only [aopV, ho] at h
  split at h
  all_goals first
    | (rename_i hk
       refine goes_push h fun ev2 objs2 he hl hr R κ => ?_
       simp only [aopV, ho, hk, hl])
    | cases h
theorem goes_box {t : Nat} {x : Operand} (ho : o.op = .box t x) : Goes1 cx O o := by
  intro ev objs R κ r h
  simp only [aopV, ho, cond_eq_ite] at h
  split at h
  · rename_i hk
    refine goes_push h fun ev2 objs2 he hl hr R κ => ?_
    simp only [aopV, ho, he x (by simp [ho, Op.operands]), hk, hl, cond_true]
  · cases h

theorem rd_of {ev : Operand → AVal} {objs : List AObj} (hc : ∀ c, o.op ≠ .call c) {x : Operand} (hx : x ∈ o.op.operands) {i : Nat} (hi : i ∈ refs 3 (ev x)) : i ∈ rdIds cx ev objs o := by
  have : i ∈ opIds ev o := List.mem_flatMap.2 ⟨x, by simpa using hx, hi⟩
  unfold rdIds
  split
  · rename_i c hc'
    exact absurd hc' (hc c)
  · exact this

theorem goes_load {t : Nat} {a : Operand} (ho : o.op = .load t a) : Goes1 cx O o := by
  intro ev objs R κ r h
  have ha : a ∈ o.op.operands := by simp [ho, Op.operands]
  have rd : ∀ {i}, i ∈ refs 3 (ev a) → i ∈ rdIds cx ev objs o := fun hi => rd_of (by simp [ho]) ha hi
  simp only [aopV, ho] at h
  split at h
  · rename_i id off hx
    split at h
    · rename_i cs hb
      obtain ⟨v, hv, h⟩ := Option.bind_eq_some_iff.1 h
      refine goes_read h fun ev2 objs2 he hl hr R κ => ?_
      simp only [aopV, ho, he a ha, hx, objAt_congr (hr id (rd (by simp [hx, refs]))), hb, hv, Option.bind_some]
    · cases h
  · rename_i cs hx
    obtain ⟨v, hv, h⟩ := Option.bind_eq_some_iff.1 h
    refine goes_read h fun ev2 objs2 he hl hr R κ => ?_
    simp only [aopV, ho, he a ha, hx, hv, Option.bind_some]
  · rename_i id i off hx
    split at h
    · rename_i ty sh xs hb
      obtain ⟨x, hi, h⟩ := Option.bind_eq_some_iff.1 h
      obtain ⟨v, hv, h⟩ := Option.bind_eq_some_iff.1 h
      refine goes_read h fun ev2 objs2 he hl hr R κ => ?_
      simp only [aopV, ho, he a ha, hx, objAt_congr (hr id (rd (by simp [hx, refs]))), hb, hi, hv, Option.bind_some]
    · cases h
  · cases h
theorem goes_nilCheck {x : Operand} (ho : o.op = .nilCheck x) : Goes1 cx O o := by
  intro ev objs R κ r h
  have ha : x ∈ o.op.operands := by simp [ho, Op.operands]
  have rd : ∀ {i}, i ∈ refs 3 (ev x) → i ∈ rdIds cx ev objs o := fun hi => rd_of (by simp [ho]) ha hi
  simp only [aopV, ho, cond_eq_ite] at h
  split at h
  case h_3 i j off hx =>
    split at h
    · rename_i hlv
      refine goes_read h fun ev2 objs2 he hl hr R κ => ?_
      have : liveRef objs2 (.aref i j off) = true := by
        rw [← hlv]; simp only [liveRef, objAt_congr (hr i (rd (by simp [hx, refs])))]
      simp only [aopV, ho, he x ha, hx, this, cond_true]
    · cases h
  all_goals first
    | (rename_i hx
       refine goes_read h fun ev2 objs2 he hl hr R κ => ?_
       simp only [aopV, ho, he x ha, hx])
    | cases h
theorem goes_binOp {op : BinOp} {t : Nat} {x y : Operand} {b : _} (ho : o.op = .binOp op t x y b) : Goes1 cx O o := by
  intro ev objs R κ r h
  simp only [aopV, ho, cond_eq_ite] at h
  split at h
  · cases h
  rename_i hbad
  obtain ⟨v, hv, h⟩ := Option.bind_eq_some_iff.1 h
  refine goes_read h fun ev2 objs2 he hl hr R κ => ?_
  simp only [aopV, ho, he x (by simp [ho, Op.operands]), he y (by simp [ho, Op.operands]), hv, Option.bind_some, cond_eq_ite, if_neg hbad]
theorem goes_unOp {op : UnOp} {t : Nat} {x : Operand} (ho : o.op = .unOp op t x) : Goes1 cx O o := by
  intro ev objs R κ r h
  simp only [aopV, ho] at h
  obtain ⟨v, hv, h⟩ := Option.bind_eq_some_iff.1 h
  refine goes_read h fun ev2 objs2 he hl hr R κ => ?_
  simp only [aopV, ho, he x (by simp [ho, Op.operands]), hv, Option.bind_some]
theorem goes_field {s f : Nat} {x : Operand} (ho : o.op = .field s x f) : Goes1 cx O o := by
  intro ev objs R κ r h
  simp only [aopV, ho] at h
  split at h
  · rename_i cs hx
    obtain ⟨p, hp, h⟩ := Option.bind_eq_some_iff.1 h
    obtain ⟨v, hv, h⟩ := Option.bind_eq_some_iff.1 h
    refine goes_read h fun ev2 objs2 he hl hr R κ => ?_
    simp only [aopV, ho, he x (by simp [ho, Op.operands]), hx, hp, hv, Option.bind_some]
  · cases h
theorem liveRef_congr {objs objs2 : List AObj} {v : AVal} (h : ∀ i ∈ refs 3 v, objs2[i]? = objs[i]?) : liveRef objs2 v = liveRef objs v := by
  cases v with
  | aref id i off => simp only [liveRef, objAt_congr (h id (by simp [refs]))]
  | _ => rfl
theorem goes_fieldAddr {s f : Nat} {x : Operand} (ho : o.op = .fieldAddr s x f) : Goes1 cx O o := by
  intro ev objs R κ r h
  have ha : x ∈ o.op.operands := by simp [ho, Op.operands]
  simp only [aopV, ho, cond_eq_ite] at h
  split at h
  · rename_i hlv
    obtain ⟨p, hp, h⟩ := Option.bind_eq_some_iff.1 h
    obtain ⟨v, hv, h⟩ := Option.bind_eq_some_iff.1 h
    refine goes_read h fun ev2 objs2 he hl hr R κ => ?_
    have e1 : liveRef objs2 (ev x) = true := (liveRef_congr fun i hi => hr i (rd_of (by simp [ho]) ha hi)).trans hlv
    simp only [aopV, ho, he x ha, e1, hp, hv, Option.bind_some, cond_true]
  · cases h
theorem goes_indexAddr {t : Nat} {x y : Operand} (ho : o.op = .indexAddr t x y) : Goes1 cx O o := by
  intro ev objs R κ r h
  have ha : x ∈ o.op.operands := by simp [ho, Op.operands]
  have hb : y ∈ o.op.operands := by simp [ho, Op.operands]
  simp only [aopV, ho, cond_eq_ite] at h
  split at h
  · rename_i hk hx hy
    split at h
    · rename_i ht
      obtain ⟨p, hp, h⟩ := Option.bind_eq_some_iff.1 h
      refine goes_read h fun ev2 objs2 he hl hr R κ => ?_
      simp only [aopV, ho, he x ha, he y hb, hk, hx, hy, ht, hp, Option.bind_some, cond_true]
    · cases h
  · rename_i hk hx hy
    split at h
    · rename_i hob
      split at h
      · rename_i ht
        obtain ⟨p, hp, h⟩ := Option.bind_eq_some_iff.1 h
        refine goes_read h fun ev2 objs2 he hl hr R κ => ?_
        simp only [aopV, ho, he x ha, he y hb, hk, hx, hy, objAt_congr (hr _ (rd_of (by simp [ho]) ha (by rw [hx]; simp [refs]; rfl))), hob, ht, hp, Option.bind_some, cond_true]
      · cases h
    · cases h
  · cases h
theorem goes_index {t : Nat} {x y : Operand} (ho : o.op = .index t x y) : Goes1 cx O o := by
  intro ev objs R κ r h
  have ha : x ∈ o.op.operands := by simp [ho, Op.operands]
  have hb : y ∈ o.op.operands := by simp [ho, Op.operands]
  simp only [aopV, ho, cond_eq_ite] at h
  split at h
  · rename_i hk hx hy
    obtain ⟨p, hp, h⟩ := Option.bind_eq_some_iff.1 h
    refine goes_read h fun ev2 objs2 he hl hr R κ => ?_
    simp only [aopV, ho, he x ha, he y hb, hk, hx, hy, hp, Option.bind_some, cond_true]
  · cases h
theorem goes_extract {x : Operand} {i : Nat} (ho : o.op = .extract x i) : Goes1 cx O o := by
  intro ev objs R κ r h
  simp only [aopV, ho] at h
  split at h
  · rename_i vs hx
    obtain ⟨v, hv, h⟩ := Option.bind_eq_some_iff.1 h
    refine goes_read h fun ev2 objs2 he hl hr R κ => ?_
    simp only [aopV, ho, he x (by simp [ho, Op.operands]), hx, hv, Option.bind_some]
  · cases h

theorem goes_makeFunc {g : _} {first caps : Array Operand} (ho : o.op = .makeFunc g first caps) : Goes1 cx O o := by
  intro ev objs R κ r h
  cases g with
  | func f =>
    simp only [aopV, ho, cond_eq_ite] at h
    split at h
    · rename_i hf
      refine goes_read h fun ev2 objs2 he hl hr R κ => ?_
      have : caps.toList.map ev2 = caps.toList.map ev := List.map_congr_left fun x hx => he x (by simp only [ho, Op.operands]; exact Array.mem_append.2 (.inr (by simpa using hx)))
      simp only [aopV, ho, this, hf, cond_true]
    · cases h
  | _ => simp only [aopV, ho] at h; cases h
theorem goes_len {c : Go.Call} {x : Operand} {t : Nat} (ho : o.op = .call c) (hc : c.callee = .builtin .len) (hx : c.args.toList = [x]) (ht : c.argTypes.toList = [t]) : Goes1 cx O o := by
  intro ev objs R κ r h
  have ha : x ∈ o.op.operands := by
    simp only [ho, Op.operands, Call.operands, hc]
    exact Array.mem_append.2 (.inr (by rw [← Array.mem_toList_iff, hx]; simp))
  simp only [aopV, ho, hc, hx, ht] at h
  obtain ⟨v, hv, h⟩ := Option.bind_eq_some_iff.1 h
  refine goes_read h fun ev2 objs2 he hl hr R κ => ?_
  have e1 : lenOf (cx.kind t) objs2 (ev x) = some v := by
    rw [← hv]
    unfold lenOf
    split
    all_goals first
      | rfl
      | (rename_i hk hxx
         rw [objAt_congr (hr _ (by
          simp only [rdIds, ho, hc]
          exact List.mem_flatMap.2 ⟨x, by simpa using ha, by rw [hxx]; simp [refs]⟩))])
  simp only [aopV, ho, hc, hx, ht, he x ha, e1, Option.bind_some]
theorem goes_max {c : Go.Call} (ho : o.op = .call c) (hc : c.callee = .builtin .max) : Goes1 cx O o := by
  intro ev objs R κ r h
  simp only [aopV, ho, hc] at h
  split at h
  · rename_i x y hx
    have ha : ∀ z ∈ [x, y], z ∈ o.op.operands := fun z hz => by
      simp only [ho, Op.operands, Call.operands, hc]
      exact Array.mem_append.2 (.inr (by rw [← Array.mem_toList_iff, hx]; exact hz))
    simp only [cond_eq_ite] at h
    split at h
    · rename_i k a k' b h1 h2
      split at h
      · rename_i hk
        refine goes_read h fun ev2 objs2 he hl hr R κ => ?_
        simp only [aopV, ho, hc, hx, he x (ha x (by simp)), he y (ha y (by simp)), h1, h2, hk, cond_true]
      · cases h
    · cases h
  · cases h
theorem goes_min {c : Go.Call} (ho : o.op = .call c) (hc : c.callee = .builtin .min) : Goes1 cx O o := by
  intro ev objs R κ r h
  simp only [aopV, ho, hc] at h
  split at h
  · rename_i x y hx
    have ha : ∀ z ∈ [x, y], z ∈ o.op.operands := fun z hz => by
      simp only [ho, Op.operands, Call.operands, hc]
      exact Array.mem_append.2 (.inr (by rw [← Array.mem_toList_iff, hx]; exact hz))
    simp only [cond_eq_ite] at h
    split at h
    · rename_i k a k' b h1 h2
      split at h
      · rename_i hk
        refine goes_read h fun ev2 objs2 he hl hr R κ => ?_
        simp only [aopV, ho, hc, hx, he x (ha x (by simp)), he y (ha y (by simp)), h1, h2, hk, cond_true]
      · cases h
    · cases h
  · cases h

/-! ### Sharing -/
def shObj : AObj → AObj
  | .arr t _ xs => .arr t true xs
  | o => o
def ownersV : AVal → List Nat
  | .own i => [i]
  | .agg cs => cs.filterMap fun c => match c with | .own i => some i | _ => none
  | _ => []
theorem shObj_idem (o : AObj) : shObj (shObj o) = shObj o := by cases o <;> rfl
/-- The rows of some numbers are shared. -/
def ShBy (S : List Nat) (objs objs1 : List AObj) : Prop := objs1.length = objs.length ∧ ∀ x, objs1[x]? = if x ∈ S then (objs[x]?).map shObj else objs[x]?
theorem ShBy.refl (objs : List AObj) : ShBy [] objs objs := ⟨rfl, fun x => by simp⟩
theorem ShBy.trans {S S' : List Nat} {objs objs1 objs2 : List AObj} (h : ShBy S objs objs1) (h' : ShBy S' objs1 objs2) : ShBy (S ++ S') objs objs2 := by
  refine ⟨h'.1.trans h.1, fun x => ?_⟩
  rw [h'.2 x, h.2 x]
  by_cases h1 : x ∈ S <;> by_cases h2 : x ∈ S' <;> simp [h1, h2, Function.comp_def, shObj_idem]
theorem shBy_id (i : Nat) (objs : List AObj) : ShBy [i] objs (shareId i objs) := by
  unfold shareId
  split
  · rename_i t xs ho
    have ho' : objs[i]? = some (.arr t false xs) := by
      unfold objAt at ho
      cases hh : objs[i]? with
      | none => rw [hh] at ho; simp at ho
      | some o => rw [hh] at ho; simp at ho; rw [ho]
    refine ⟨by simp, fun x => ?_⟩
    by_cases e : i = x
    · subst e
      have := (List.getElem?_eq_some_iff.1 ho').1
      rw [List.getElem?_set_self this, ho']
      simp [shObj]
    · rw [List.getElem?_set_ne e]; simp [Ne.symm e]
  · rename_i hno
    refine ⟨rfl, fun x => ?_⟩
    by_cases e : x = i
    · subst e
      simp only [List.mem_singleton, if_true]
      cases hh : objs[x]? with
      | none => rfl
      | some o =>
        cases o with
        | arr t sh xs =>
          cases sh with
          | false => exact absurd (by unfold objAt; rw [hh]; rfl) (hno t xs)
          | true => rfl
        | _ => rfl
    · simp [e]
theorem shBy_cells : ∀ (cs : List AVal) (objs : List AObj), ShBy (cs.filterMap fun c => match c with | .own i => some i | _ => none) objs (cs.foldl (fun o c => match c with | .own i => shareId i o | _ => o) objs)
  | [], objs => .refl objs
  | c :: cs, objs => by
    have ih := shBy_cells cs
    cases c with
    | own i => exact (shBy_id i objs).trans (ih _)
    | _ => exact ih objs
theorem shBy_v (v : AVal) (objs : List AObj) : ShBy (ownersV v) objs (shareV objs v) := by
  cases v with
  | own i => exact shBy_id i objs
  | agg cs => exact shBy_cells cs objs
  | _ => exact .refl objs
theorem shBy_ps (ev : Operand → AVal) : ∀ (ps : List (Nat × Operand)) (objs : List AObj), ShBy (ps.flatMap fun p => ownersV (ev p.2)) objs (sharePs ev ps objs)
  | [], objs => .refl objs
  | (_, x) :: r, objs => (shBy_v (ev x) objs).trans (shBy_ps ev r _)
def ownersAs (cx : Cx) (f : Nat) : Nat → List AVal → List Nat
  | _, [] => []
  | i, v :: vs => (bif cx.mutp f i then [] else ownersV v) ++ ownersAs cx f (i + 1) vs
theorem shBy_as (f : Nat) : ∀ (vs : List AVal) (i : Nat) (objs : List AObj), ShBy (ownersAs cx f i vs) objs (shares cx f i objs vs)
  | [], _, objs => .refl objs
  | v :: vs, i, objs => by
    unfold ownersAs shares
    cases cx.mutp f i
    · exact (shBy_v v objs).trans (shBy_as f vs _ _)
    · exact shBy_as f vs _ _
theorem owners_refs {v : AVal} {i : Nat} (h : i ∈ ownersV v) : i ∈ refs 3 v := by
  cases v with
  | own j => simpa [ownersV, refs] using h
  | agg cs =>
    obtain ⟨c, hc, h⟩ := List.mem_filterMap.1 h
    refine List.mem_flatMap.2 ⟨c, hc, ?_⟩
    cases c <;> simp_all [refs]
  | _ => cases h
theorem ownersAs_refs {f : Nat} : ∀ {vs : List AVal} {i : Nat} {x : Nat}, x ∈ ownersAs cx f i vs → ∃ v ∈ vs, x ∈ refs 3 v
  | v :: vs, i, x, h => by
    unfold ownersAs at h
    rcases List.mem_append.1 h with h | h
    · cases hm : cx.mutp f i <;> rw [hm] at h
      · exact ⟨v, by simp, owners_refs h⟩
      · cases h
    · obtain ⟨u, hu, hx⟩ := ownersAs_refs h
      exact ⟨u, by simp [hu], hx⟩
/-- Two lists of objects, alike at x, are so when shared. -/
theorem ShBy.congr {S : List Nat} {objs objs1 objs2 objs3 : List AObj} (h : ShBy S objs objs1) (h' : ShBy S objs2 objs3) {x : Nat} (e : objs2[x]? = objs[x]?) : objs3[x]? = objs1[x]? := by
  rw [h.2, h'.2, e]
theorem ShBy.keep {S : List Nat} {objs objs1 : List AObj} (h : ShBy S objs objs1) {x : Nat} (e : x ∈ S → isArr objs x = false) : objs1[x]? = objs[x]? := by
  rw [h.2]
  split
  · rename_i hx
    have := e hx
    unfold isArr objAt at this
    cases hh : objs[x]? with
    | none => rfl
    | some o =>
      rw [hh] at this
      cases o with
      | arr t sh xs => cases sh <;> simp_all [shObj]
      | _ => rfl
  · rfl
theorem toList_congr {objs objs2 : List AObj} {t : Ty} {v : AVal} (h : ∀ i ∈ refs 3 v, objs2[i]? = objs[i]?) : toList objs2 t v = toList objs t v := by
  cases v with
  | own i => simp only [toList, fixS, objAt_congr (h i (by simp [refs]))]
  | _ => rfl
theorem fixS_congr {objs objs2 : List AObj} {s : Option Ty} {v : AVal} {n : Nat} (h : ∀ i ∈ refs (n + 1) v, objs2[i]? = objs[i]?) : fixS objs2 s v = fixS objs s v := by
  cases s with
  | none => rfl
  | some t =>
    cases v with
    | own i => simp only [fixS, objAt_congr (h i (by simp [refs]))]
    | _ => rfl
theorem fixL_congr {objs objs2 : List AObj} {n : Nat} : ∀ (ss : List (Option Ty)) (cs : List AVal), (∀ c ∈ cs, ∀ i ∈ refs (n + 1) c, objs2[i]? = objs[i]?) → fixL objs2 ss cs = fixL objs ss cs
  | [], _, _ => by simp [fixL]
  | _ :: _, [], _ => by simp [fixL]
  | s :: ss, c :: cs, h => by
    simp only [fixL]
    rw [fixS_congr (h c (by simp)), fixL_congr ss cs fun d hd => h d (by simp [hd])]
theorem toDatum_congr {objs objs2 : List AObj} {t : Ty} {v : AVal} (h : ∀ i ∈ refs 3 v, objs2[i]? = objs[i]?) : toDatum objs2 t v = toDatum objs t v := by
  unfold toDatum
  cases v with
  | agg cs =>
    simp only [valCells]
    rw [fixL_congr (n := 1) _ cs fun c hc i hi => h i (List.mem_flatMap.2 ⟨c, hc, hi⟩)]
  | _ =>
    simp only [valCells]
    rw [fixL_congr (n := 2) _ _ fun c hc i hi => h i (by simp at hc; subst hc; exact hi)]
end
end Go.Ev
