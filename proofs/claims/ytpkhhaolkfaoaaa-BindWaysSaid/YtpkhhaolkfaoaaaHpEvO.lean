/-
  THE EVALUATOR, PART 15: values as data.
-/
import Derived.Test.YtpkhhaolkfaoaaaHpEvN
set_option linter.unusedVariables false
set_option linter.unusedSimpArgs false
set_option linter.unusedSectionVars false
namespace Go.Ev

section
variable {cx : Cx} {Fb : Nat → Nat → Prop} {β : List Loc} {st : St} {a : Act} {w : World}

def Shared (objs : List AObj) (id : Nat) : Prop := ∀ t sh xs, objs[id]? = some (.arr t sh xs) → sh = true

theorem RelV.notFull {objs : List AObj} {N : Nat → Nat → Prop} {t : Ty} {full : Bool} {xs : List (T t)} {v : Value} (h : RelV β objs w N (.sl t full xs) v) : RelV β objs w N (.sl t false xs) v := by
  cases h with
  | sl0 => exact .sl0 _ _
  | sl val hcap _ hc hr => exact .sl val hcap (by simp) hc hr

theorem own_data (h : Rel cx Fb β st a w) {id : Nat} {t : Ty} {xs : List (T t)} {v : Value} (hv : RelV β st.objs w (NN Fb β st.objs) (.own id) v) (ho : st.objs[id]? = some (.arr t true xs)) :
    RelV β st.objs w (NN Fb β st.objs) (.sl t false xs) v := by
  cases hv with
  | own hid one hv =>
    have hβ : β[id]? = some β[id] := by simp [hid]
    have hvv := hv t true xs _ ho hβ
    have hob := h.obj id _ _ ho hβ
    cases hl : β[id] with
    | nil =>
      rw [hl] at hob hvv
      have hob : xs = [] := hob
      subst hob; subst hvv
      exact .sl0 _ _
    | «at» b cap =>
      rw [hl] at hob hvv hβ
      obtain ⟨vs, e, fr, h1, h2, h3, h4, h5⟩ := hob
      subst hvv
      refine .sl (fun k => (vs[k]?).getD undef) h3 (by simp) (fun j hj => ⟨?_, ?_⟩) fun i x j c hx hc => ?_
      · have : j < vs.size := by rw [h2]; exact Nat.lt_of_lt_of_le hj (Nat.mul_le_mul_right _ h3)
        refine cell?_some.2 ⟨vs, e, fr, by rw [add_block]; exact h1, by rw [mk_add], by rw [add_off]; simp [this]⟩
      · simp only [Nat.zero_add]
        rintro (hn | ⟨k, o, l, h6, h7, h8⟩)
        · exact h.fb id _ b cap ho rfl hβ _ hn
        · obtain ⟨ha, cap', rfl⟩ := wrO_at h8
          have hbb : (.at b cap' : Loc) = .at b cap' := rfl
          have e1 : id = k := h.inj id k _ o b cap cap' ho rfl hβ h6 ha h7
          subst e1
          rw [ho] at h6; cases h6
          have := h8.2 rfl
          omega
      · have hj : j < t.size := by rw [← cells_length t x]; exact (List.getElem?_eq_some_iff.1 hc).1
        have hi := (List.getElem?_eq_some_iff.1 hx).1
        have : i * t.size + j < vs.size := by rw [h2]; exact mulIdx (by omega) hj
        exact h5 i x j c _ hx hc (by simp [this])

theorem fixS_rel (h : Rel cx Fb β st a w) {s : Option Ty} {c : AVal} {v : Value} (hc : RelV β st.objs w (NN Fb β st.objs) c v) (hs : ∀ id, c = .own id → Shared st.objs id) :
    RelV β st.objs w (NN Fb β st.objs) (fixS st.objs s c) v := by
  cases s with
  | none => unfold fixS; split <;> simp_all
  | some t =>
    unfold fixS
    split
    · rename_i t' e1
      cases hc; exact .sl0 _ _
    · rename_i t' id e1
      split
      · rename_i t2 sh xs ho
        cases hb : t2 == t' with
        | false => exact .undef _
        | true =>
          simp only [cond_true]
          have ho' := objAt_some ho rfl
          have := hs id rfl _ _ _ ho'
          subst this
          exact own_data h hc ho'
      · exact .undef _
    · exact hc.notFull
    · exact hc

theorem fixL_get {objs : List AObj} : ∀ (ss : List (Option Ty)) (cs : List AVal), (fixL objs ss cs).length = cs.length ∧ ∀ (i : Nat) (c : AVal), (fixL objs ss cs)[i]? = some c → ∃ s d, cs[i]? = some d ∧ c = fixS objs s d := by
  intro ss
  induction ss with
  | nil => intro cs; exact ⟨by simp [fixL], fun i c hc => ⟨none, c, by simpa [fixL] using hc, by unfold fixS; split <;> simp_all⟩⟩
  | cons s ss ih =>
    intro cs
    cases cs with
    | nil => exact ⟨rfl, by simp [fixL]⟩
    | cons d cs =>
      obtain ⟨l, hh⟩ := ih cs
      refine ⟨by simp [fixL, l], fun i c hc => ?_⟩
      cases i with
      | zero => simp [fixL] at hc; exact ⟨s, d, rfl, hc.symm⟩
      | succ i => simpa using hh i c (by simpa [fixL] using hc)
theorem fixL_rel (h : Rel cx Fb β st a w) (ss : List (Option Ty)) (cs : List AVal) {vs : Array Value} (hr : RelL β st.objs w (NN Fb β st.objs) cs vs)
    (hs : ∀ id, .own id ∈ cs → Shared st.objs id) : RelL β st.objs w (NN Fb β st.objs) (fixL st.objs ss cs) vs := by
  obtain ⟨l, hh⟩ := fixL_get (objs := st.objs) ss cs
  refine ⟨l.trans hr.1, fun i c v hc hv => ?_⟩
  obtain ⟨s, d, hd, rfl⟩ := hh i c hc
  exact fixS_rel h (hr.2 i d v hd hv) fun id e => hs id (by subst e; exact List.mem_of_getElem? hd)

inductive LeL (β : List Loc) (objs : List AObj) (w : World) (N : Nat → Nat → Prop) : List AVal → List AVal → Prop
  | nil : LeL β objs w N [] []
  | cons {c c' : AVal} {cs cs' : List AVal} (h : ∀ v, RelV β objs w N c v → RelV β objs w N c' v) (t : LeL β objs w N cs cs') : LeL β objs w N (c :: cs) (c' :: cs')
theorem LeL.get {objs : List AObj} {N : Nat → Nat → Prop} {cs cs' : List AVal} (h : LeL β objs w N cs cs') : cs.length = cs'.length ∧ ∀ (i : Nat) c', cs'[i]? = some c' → ∃ c, cs[i]? = some c ∧ ∀ v, RelV β objs w N c v → RelV β objs w N c' v := by
  induction h with
  | nil => exact ⟨rfl, by simp⟩
  | cons h t ih =>
    refine ⟨by simp [ih.1], fun i c' hc => ?_⟩
    cases i with
    | zero => simp at hc; subst hc; exact ⟨_, rfl, h⟩
    | succ i => simpa using ih.2 i c' (by simpa using hc)
theorem LeL.rel {objs : List AObj} {N : Nat → Nat → Prop} {cs cs' : List AVal} (h : LeL β objs w N cs cs') {vs : Array Value} (hr : RelL β objs w N cs vs) : RelL β objs w N cs' vs := by
  obtain ⟨l, hh⟩ := h.get
  refine ⟨l ▸ hr.1, fun i c v hc hv => ?_⟩
  obtain ⟨d, hd, hg⟩ := hh i c hc
  exact hg v (hr.2 i d v hd hv)
theorem uncells_le {objs : List AObj} {N : Nat → Nat → Prop} {t : Ty} {cs : List AVal} {d : T t} (h : uncells t cs = some d) : LeL β objs w N cs (cells t d) := by
  unfold uncells at h
  split at h
  case h_1 n =>
    cases h
    refine .cons (fun v hv => ?_) .nil
    cases hv with
    | int hb =>
      obtain ⟨h1, h2⟩ := hb rfl
      have e : ((UInt8.ofNat n.toNat).toNat : Int) = n := by simp; omega
      show RelV _ _ _ _ (.int .u8 ((UInt8.ofNat n.toNat).toNat : Int)) _
      rw [e]
      exact .int hb
  case h_2 k k' n =>
    split at h
    · rename_i e; subst e; cases h; exact .cons (fun _ h => h) .nil
    · cases h
  case h_5 t t' full xs =>
    split at h
    · rename_i e; subst e; cases h; exact .cons (fun _ h => h.notFull) .nil
    · cases h
  all_goals first | (cases h; done) | skip
  all_goals (have h := Option.some.inj h; subst h)
  all_goals repeat' first | exact .nil | refine .cons ?_ ?_ | exact fun _ h => h | exact fun _ h => h.notFull

theorem uncells_length {t : Ty} {cs : List AVal} {d : T t} (h : uncells t cs = some d) : cs.length = t.size := by
  have := (uncells_le (β := []) (objs := []) (w := default) (N := fun _ _ => False) h).get.1
  rw [this, cells_length]
theorem slots_length (t : Ty) : (slots t).length = t.size := by cases t <;> rfl

/-- The rows in a value. -/
def ownsOf : AVal → List Nat
  | .own i => [i]
  | .agg cs => cs.filterMap fun c => match c with | .own i => some i | _ => none
  | _ => []
theorem shareId_len (i : Nat) (objs : List AObj) : (shareId i objs).length = objs.length := by unfold shareId; split <;> simp
theorem shareId_get {i k : Nat} {objs : List AObj} {t : Ty} {sh : Bool} {xs : List (T t)} (h : (shareId i objs)[k]? = some (.arr t sh xs)) : ∃ sh0, objs[k]? = some (.arr t sh0 xs) ∧ (sh0 = true → sh = true) := by
  unfold shareId at h
  split at h
  · rename_i t' xs' ho
    rcases getElem?_set_some h with ⟨e1, e2, _⟩ | ⟨_, h1⟩
    · cases e2; subst e1; exact ⟨false, objAt_some ho rfl, by simp⟩
    · exact ⟨sh, h1, fun h => h⟩
  · exact ⟨sh, h, fun h => h⟩
theorem shareId_shared (i : Nat) (objs : List AObj) : Shared (shareId i objs) i := by
  intro t sh xs h
  unfold shareId at h
  split at h
  · rcases getElem?_set_some h with ⟨e1, e2, _⟩ | ⟨e1, _⟩
    · cases e2; rfl
    · exact absurd rfl e1
  · rename_i hno
    cases sh with
    | true => rfl
    | false => exact absurd (by unfold objAt; rw [h]; rfl) (hno t xs)
theorem Shared.shareId {objs : List AObj} {k : Nat} (h : Shared objs k) (i : Nat) : Shared (shareId i objs) k := by
  intro t sh xs hk
  obtain ⟨sh0, h0, hi⟩ := shareId_get hk
  exact hi (h _ _ _ h0)
theorem foldl_shared (cs : List AVal) : ∀ (objs : List AObj),
    (∀ k, Shared objs k → Shared (cs.foldl (fun o c => match c with | .own i => shareId i o | _ => o) objs) k) ∧
    (∀ id, .own id ∈ cs → Shared (cs.foldl (fun o c => match c with | .own i => shareId i o | _ => o) objs) id) ∧
    (cs.foldl (fun o c => match c with | .own i => shareId i o | _ => o) objs).length = objs.length := by
  induction cs with
  | nil => intro objs; exact ⟨fun k h => h, by simp, rfl⟩
  | cons c cs ih =>
    intro objs
    simp only [List.foldl_cons]
    by_cases hc : ∃ i, c = .own i
    · obtain ⟨i, rfl⟩ := hc
      obtain ⟨h1, h2, h3⟩ := ih (shareId i objs)
      refine ⟨fun k hk => h1 k (hk.shareId i), fun id hid => ?_, h3.trans (shareId_len _ _)⟩
      simp only [List.mem_cons, AVal.own.injEq] at hid
      rcases hid with rfl | hid
      · exact h1 _ (shareId_shared _ _)
      · exact h2 id hid
    · have e : (fun (o : List AObj) (c : AVal) => match c with | .own i => shareId i o | _ => o) objs c = objs := by
        cases c <;> first | rfl | exact absurd ⟨_, rfl⟩ hc
      simp only at e
      rw [e]
      obtain ⟨h1, h2, h3⟩ := ih objs
      refine ⟨h1, fun id hid => ?_, h3⟩
      simp only [List.mem_cons] at hid
      rcases hid with rfl | hid
      · exact absurd ⟨_, rfl⟩ hc
      · exact h2 id hid
theorem shareV_shared (objs : List AObj) (v : AVal) : (∀ k, Shared objs k → Shared (shareV objs v) k) ∧ (∀ id, .own id ∈ valCells v → Shared (shareV objs v) id) ∧ (shareV objs v).length = objs.length := by
  unfold shareV
  split
  · rename_i i
    exact ⟨fun k h => h.shareId i, fun id hid => by simp [valCells] at hid; subst hid; exact shareId_shared _ _, shareId_len _ _⟩
  · rename_i cs
    exact foldl_shared cs objs
  · rename_i h1 h2
    refine ⟨fun k h => h, fun id hid => ?_, rfl⟩
    have : valCells v = [v] := by
      unfold valCells
      split
      · exact (h2 _ rfl).elim
      · rfl
    rw [this] at hid
    simp at hid
    exact absurd hid.symm (h1 _)
theorem sharePs_spec (st0 : Operand → AVal) : ∀ (ps : List (Nat × Operand)) (objs : List AObj), (∀ k, Shared objs k → Shared (sharePs st0 ps objs) k) ∧ (∀ p ∈ ps, ∀ id, .own id ∈ valCells (st0 p.2) → Shared (sharePs st0 ps objs) id) ∧ (sharePs st0 ps objs).length = objs.length
  | [], objs => ⟨fun k h => h, by simp, rfl⟩
  | (i, x) :: ps, objs => by
    obtain ⟨h1, h2, h3⟩ := sharePs_spec st0 ps (shareV objs (st0 x))
    obtain ⟨g1, g2, g3⟩ := shareV_shared objs (st0 x)
    refine ⟨fun k hk => h1 k (g1 k hk), fun p hp id hid => ?_, h3.trans g3⟩
    simp only [List.mem_cons] at hp
    rcases hp with rfl | hp
    · exact h1 id (g2 id hid)
    · exact h2 p hp id hid
theorem Rel.sharePs (h : Rel cx Fb β st a w) (st0 : Operand → AVal) : ∀ (ps : List (Nat × Operand)) (objs : List AObj), Adv β st.objs w β objs w → Rel cx Fb β { st with objs := objs } a w →
    Adv β st.objs w β (sharePs st0 ps objs) w ∧ Rel cx Fb β { st with objs := Ev.sharePs st0 ps objs } a w
  | [], _, A, R => ⟨A, R⟩
  | (_, x) :: ps, objs, A, R => by
    obtain ⟨A2, R2⟩ := R.shareV (st0 x)
    exact h.sharePs st0 ps _ (A.trans A2) R2

/-- A value seen as a datum. -/
theorem toDatum_rel (h : Rel cx Fb β st a w) {t : Ty} {c : AVal} {v : Value} {d : T t} (hc : RelV β st.objs w (NN Fb β st.objs) c v) (hd : toDatum st.objs t c = some d)
    (hs : ∀ id, .own id ∈ valCells c → Shared st.objs id) (hok : okCells c = true) : RelL β st.objs w (NN Fb β st.objs) (cells t d) v.cells := by
  unfold toDatum at hd
  exact (uncells_le hd).rel (fixL_rel h _ _ (valCells_rel hc hok).1 hs)
end
end Go.Ev
