/-
  THE EVALUATOR, PART 36: a law's call.
-/
import Derived.Test.YtpkhhaolkfaoaaaHpEwI
import Derived.WideShapes
set_option linter.unusedVariables false
set_option linter.unusedSimpArgs false
set_option linter.unusedSectionVars false
namespace Go.Ev
section
variable {cx : Cx} {H : Type} {enc : TypeId × Value → H} {w : World} {sp : Nat → Bool} {held : Bool}

theorem relL_nil {β : List Loc} {objs : List AObj} {N : Nat → Nat → Prop} : RelL β objs w N [] ([] : List Value).toArray := ⟨rfl, by simp⟩
theorem relL_cons {β : List Loc} {objs : List AObj} {N : Nat → Nat → Prop} {c : AVal} {v : Value} {cs : List AVal} {vs : List Value} (h : RelV β objs w N c v) (t : RelL β objs w N cs vs.toArray) : RelL β objs w N (c :: cs) (v :: vs).toArray := by
  refine ⟨by simpa using t.1, fun i d u hd hu => ?_⟩
  cases i with
  | zero => simp at hd hu; subst hd; subst hu; exact h
  | succ i => exact t.2 i d u (by simpa using hd) (by simpa using hu)

theorem arg_struct (hok : cx.ok = true) (hd : dataB cx = true) {t : Nat} {ty : Ty} (hf : flatK cx 20 t = some (ctOf ty)) {fs : Array Field} (hu : cx.prog.underlying t = some (.struct fs)) {r : Reach} {base : Nat} {v : Value}
    (hval : Value.okWide cx.prog w r base t v) {d : DataW H} {ps : List MemPlace} (hwt : ∀ n ∈ d.weights cx.prog t, n ≤ reachBytes) (h : DataW.Trod enc cx.prog w 0 sp held t v d ps) : ∃ x : T ty, RelV [] [] w N0 (.agg (cells ty x)) v ∧ (∀ c ∈ cells ty x, Good c) ∧ ∀ (β : DataW H → Nat) (βs : List (DataW H) → Nat), BulkLaws β βs → ∀ m, ((cells ty x).map (bulkN m)).sum ≤ β d := by
  obtain ⟨fuel, h⟩ := h
  have hv : ∃ cs, v = .agg cs := by
    unfold Value.okWide at hval
    rw [hu] at hval
    obtain ⟨cs, h, _⟩ := hval
    exact ⟨cs, h⟩
  obtain ⟨arr, rfl⟩ := hv
  obtain ⟨cs, S⟩ := trod_shown hok hd fuel 20 t _ d ps _ h hf hwt
  obtain ⟨x, hx⟩ := mkT ty cs S.len S.has S.good
  subst hx
  exact ⟨x, .agg (by simpa [Value.cells] using S.rel.1) (fun i c v hc hv => S.rel.2 i c v hc (by simpa [Value.cells] using hv)), S.good, fun β βs hl m => by rw [← hl.single]; exact S.bulk β βs hl m⟩
theorem arg_slice (hok : cx.ok = true) (hd : dataB cx = true) {t e sz bytes : Nat} {ty : Ty} (hk : cx.kind t = .sl ty e sz bytes) {r : Reach} {base : Nat} {v : Value}
    (hval : Value.okWide cx.prog w r base t v) {d : DataW H} {ps : List MemPlace} (hwt : ∀ n ∈ d.weights cx.prog t, n ≤ reachBytes) (h : DataW.Trod enc cx.prog w 0 sp held t v d ps) : ∃ xs : List (T ty), RelV [] [] w N0 (.sl ty false xs) v ∧ Good (.sl ty false xs) ∧ ∀ (β : DataW H → Nat) (βs : List (DataW H) → Nat), BulkLaws β βs → ∀ m, bulkN m (.sl ty false xs) ≤ β d := by
  obtain ⟨fuel, h⟩ := h
  obtain ⟨a, len, cap, rfl⟩ := WideShapes.okWide_slice (k_sl hok hk).1 hval
  obtain ⟨cs, S⟩ := trod_shown hok hd fuel 1 t _ d ps [.sl ty] h (by simp [flatK, hk]) hwt
  obtain ⟨l, hh, hr, hg, hb⟩ := S
  rcases cs with _ | ⟨c0, _ | ⟨c1, _⟩⟩ <;> simp at l
  obtain ⟨xs, rfl⟩ := hh 0 _ _ rfl rfl
  exact ⟨xs, hr.2 0 _ _ rfl (by simp [Value.cells]), hg _ (by simp [CT.av]), fun β βs hl m => by rw [← hl.single]; simpa [CT.av] using hb β βs hl m⟩
theorem arg_str (hok : cx.ok = true) (hd : dataB cx = true) {t : Nat} (hk : cx.kind t = .str) {r : Reach} {base : Nat} {v : Value}
    (hval : Value.okWide cx.prog w r base t v) {d : DataW H} {ps : List MemPlace} (hwt : ∀ n ∈ d.weights cx.prog t, n ≤ reachBytes) (h : DataW.Trod enc cx.prog w 0 sp held t v d ps) : ∃ s : Bytes, RelV [] [] w N0 (.str s) v ∧ Good (.str s) ∧ ∀ (β : DataW H → Nat) (βs : List (DataW H) → Nat), BulkLaws β βs → ∀ m, bulkN m (.str s) ≤ β d := by
  obtain ⟨fuel, h⟩ := h
  obtain ⟨a, rfl⟩ := WideShapes.okWide_string (k_str hok hk).1 hval
  obtain ⟨cs, l, hh, hr, hg, hb⟩ := trod_shown hok hd fuel 1 t _ d ps [.str] h (by simp [flatK, hk]) hwt
  rcases cs with _ | ⟨c0, _ | ⟨c1, _⟩⟩ <;> simp at l
  obtain ⟨xs, rfl⟩ := hh 0 _ _ rfl rfl
  exact ⟨xs, hr.2 0 _ _ rfl (by simp [Value.cells]), hg _ (by simp [CT.av]), fun β βs hl m => by rw [← hl.single]; simpa [CT.av] using hb β βs hl m⟩
theorem arg_int (hok : cx.ok = true) (hd : dataB cx = true) {t : Nat} {k : IntKind} (hk : cx.kind t = .int k) {r : Reach} {base : Nat} {v : Value}
    (hval : Value.okWide cx.prog w r base t v) {d : DataW H} {ps : List MemPlace} (hwt : ∀ n ∈ d.weights cx.prog t, n ≤ reachBytes) (h : DataW.Trod enc cx.prog w 0 sp held t v d ps) : ∃ n : Int, RelV [] [] w N0 (.int k n) v ∧ Good (.int k n) ∧ ∀ (β : DataW H → Nat) (βs : List (DataW H) → Nat), BulkLaws β βs → ∀ m, bulkN m (.int k n) ≤ β d := by
  obtain ⟨fuel, h⟩ := h
  obtain ⟨a, rfl⟩ := WideShapes.okWide_int (k_int hok hk).1 hval
  obtain ⟨cs, l, hh, hr, hg, hb⟩ := trod_shown hok hd fuel 1 t _ d ps [.int k] h (by simp [flatK, hk]) hwt
  rcases cs with _ | ⟨c0, _ | ⟨c1, _⟩⟩ <;> simp at l
  obtain ⟨xs, rfl⟩ := hh 0 _ _ rfl rfl
  exact ⟨xs, hr.2 0 _ _ rfl (by simp [Value.cells]), hg _ (by simp [CT.av]), fun β βs hl m => by rw [← hl.single]; simpa [CT.av] using hb β βs hl m⟩
theorem arg_bool (hok : cx.ok = true) (hd : dataB cx = true) {t : Nat} (hk : cx.kind t = .bool) {r : Reach} {base : Nat} {v : Value}
    (hval : Value.okWide cx.prog w r base t v) {d : DataW H} {ps : List MemPlace} (hwt : ∀ n ∈ d.weights cx.prog t, n ≤ reachBytes) (h : DataW.Trod enc cx.prog w 0 sp held t v d ps) : ∃ b : Bool, RelV [] [] w N0 (.bool b) v ∧ True ∧ True := by
  obtain ⟨a, rfl⟩ := WideShapes.okWide_bool (k_bool hok hk).1 hval
  exact ⟨a, .bool a, trivial, trivial⟩

theorem law_calls (hok : cx.ok = true) (hro : RoAll cx) {k f : Nat} {args : List AVal} {r : TA (cx.rty f args [])} (hr : acall cx k f args [] = some r) (henc : (encP [] (cx.rty f args []) r).2 = .bool true) {cargs : Array Value}
    (h : RelL [] [] w N0 args cargs) (hx : ExtAll cx := by exact extAll_none fun _ _ _ => rfl) : Calls cx.prog f cargs w fun e w' => e = .returned (.bool true) ∧ RowKit.Below w.heap.size w w' := by
  refine (acall_sim hok hro hr (Fb := fun _ _ => False) (β := []) (cargs := cargs) (w := w) hx ⟨h, rfl, by simp, by simp, by simp⟩ (fun _ _ h => h.elim)).mono fun e w' he => ?_
  obtain ⟨v, β', rfl, A, R⟩ := he
  refine ⟨?_, A.keep.below fun b off _ hw => ?_⟩
  · have := R.tmps.2 0 _ v rfl rfl
    rw [henc] at this
    cases this; rfl
  · obtain ⟨i, o, l, h, _⟩ := hw
    simp at h
end
end Go.Ev
