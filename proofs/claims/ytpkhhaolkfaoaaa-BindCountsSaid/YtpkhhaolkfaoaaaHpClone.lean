/-
  slices.Clone at []int, of the kit's shelf, at this program; and what is said of it to the evaluator.
-/
import Derived.Test.YtpkhhaolkfaoaaaProg
import Derived.Test.YtpkhhaolkfaoaaaHpBW
import Derived.Test.YtpkhhaolkfaoaaaHpEwF
import Derived.Shelf.Slices.Clone
import Derived.Lib.OwnBridge
import Derived.KernelRfl
set_option linter.unusedVariables false
set_option linter.unusedSectionVars false
set_option linter.unusedSimpArgs false
namespace Go.Ev.HpBW
set_option maxRecDepth 100000
open Go.Proofs Go.RowKit
def numb : Go.Shelf.Ren := ⟨fun _ => 56, fun t => match t with | 3 => 3 | 4 => 4 | _ => 42, fun x => x⟩
theorem lays : Lays2.n15 Try.prog numb := by
  have t3 : Try.prog.underlying 3 = some (TypeDesc.int IntKind.i64) := by kernel_rfl
  have t4 : Try.prog.underlying 4 = some (TypeDesc.bool) := by kernel_rfl
  have t42 : Try.prog.underlying 42 = some (TypeDesc.slice 3) := by kernel_rfl
  have info : ∀ t z s, ((Try.prog.info? t).map fun i => (i.zero, i.size)) = some (some z, s) → (∀ w, (Go.sizeOf t).run Try.prog w = .ok s w) ∧ (∀ w, (zeroValue t).run Try.prog w = .ok z w) := by
    intro t z s h
    obtain ⟨i, hi, h⟩ := Option.map_eq_some_iff.1 h
    have h1 := (Prod.mk.inj h).1
    have h2 := (Prod.mk.inj h).2
    subst h2
    exact ⟨fun w => run_sizeOf' hi w, fun w => run_zeroValue' hi h1 w⟩
  have i3 := info 3 (.int .i64 0) 1 (by kernel_rfl)
  have i4 := info 4 (.bool false) 1 (by kernel_rfl)
  have i42 := info 42 (.slice none 0 0) 1 (by kernel_rfl)
  have a3 : ∀ w, (isAgg 3).run Try.prog w = .ok false w := fun w => by simp [isAgg, run_underlying' t3]
  have a4 : ∀ w, (isAgg 4).run Try.prog w = .ok false w := fun w => by simp [isAgg, run_underlying' t4]
  have a42 : ∀ w, (isAgg 42).run Try.prog w = .ok false w := fun w => by simp [isAgg, run_underlying' t42]
  exact {
    mixed := by kernel_rfl
    f15 := by kernel_rfl
    t3 := t3, a3 := a3, z3 := i3.1, v3 := i3.2
    t4 := t4, a4 := a4, z4 := i4.1, v4 := i4.2
    t22 := t42, a22 := a42, z22 := i42.1, v22 := i42.2
    i3 := by kernel_rfl }
theorem getD_int {xs : List Int} {j : Nat} (h : j < xs.length) : @List.getD Int xs j 0 = xs[j] := by simp [List.getD, h]
theorem getB_int {xs : List Int} {j : Nat} (h : j < xs.length) : xs.toArray[j]! = @List.getD Int xs j 0 := by simp [List.getD, h]
theorem lt_toArray {xs : List Int} {j : Nat} (h : j < xs.length) : j < xs.toArray.size := by simpa using h
theorem getD_some {xs : List Int} {i : Nat} {y : Int} (h : xs[i]? = some y) : y = @List.getD Int xs (i * 1 + 0) 0 := by simp [List.getD, h]
theorem holds_all {xs : List Int} {w : World} {g : Nat} (h : Sort.Holds (Value.int .i64) w g 0 (xs.take xs.length).toArray) : Sort.Holds (Value.int .i64) w g 0 xs.toArray := by
  rwa [List.take_length] at h
theorem ext_ok : ExtAll cx := by
  intro f args objs v h Fb β cargs w hR hFb
  change ext f args objs = some v at h
  unfold ext at h
  split at h
  · rename_i xs
    split at h
    · rename_i hbig
      cases h
      have h1 : cargs.size = 1 := hR.tmps.1.symm
      obtain ⟨x, rfl⟩ : ∃ x, cargs = #[x] := ⟨cargs[0], by
        apply Array.ext
        · simp [h1]
        · intro i hi _
          have : i = 0 := by omega
          subst this; rfl⟩
      obtain ⟨l, hl⟩ : ∃ l, β[0]? = some l := by
        have := hR.len
        simp at this
        exact ⟨β[0], by simp⟩
      have h2 := hR.tmps.2 0 (.own 0) x rfl rfl
      have ho := hR.obj 0 _ l rfl hl
      have hx : x = ownVal l xs.length := by
        cases h2 with | own hid one h => exact h _ _ _ l rfl hl
      subst hx
      cases l with
      | nil =>
        have hxs : xs = [] := ho
        subst hxs
        exact (Any.slices_Clone_int_nil lays 0 0 w).mono fun e w' he => ⟨_, he.1, by rw [he.2]; exact .refl _, .sl0 _ _⟩
      | «at» b cap =>
        obtain ⟨vs, e, fr, hb, hs, hcap, hfr, hcells⟩ := ho
        have hcell : ∀ j, j < xs.length → w.cell? ⟨b, 0 + j, none⟩ = some (.int .i64 (@List.getD Int xs j 0)) := by
          intro j hj
          have hjs : j < vs.size := by rw [hs]; simp [Ty.size]; omega
          have := hcells j xs[j] 0 (.int .i64 xs[j]) vs[j] (by simp) rfl (by simp [Ty.size])
          refine cell?_some.2 ⟨vs, e, fr, hb, rfl, ?_⟩
          generalize hv : vs[j] = v at this
          cases this
          rw [Nat.zero_add, Array.getElem?_eq_getElem hjs, hv]
          exact congrArg (fun x => some (Value.int .i64 x)) (getD_int hj).symm
        refine (Any.slices_Clone_int lays b 0 xs.length cap xs w (Nat.le_refl _) hbig hcell).mono fun e w' he => ?_
        obtain ⟨v', rfl, hown, hnn, hbel⟩ := he
        have hg : Grow w w' := ⟨hbel.os, hbel.tape, hbel.output, hbel.size, hbel.block⟩
        obtain ⟨g, c', rfl, hbg, hgl, hnc, hcm, hlen, hH⟩ := Lib.holds_of_ownsRow hown hnn
        refine ⟨_, rfl, hg, .sl (fun j => .int .i64 (@List.getD Int xs j 0)) hnc (fun h => by cases h) (fun j hj => ?_) fun i y j c hy hj => ?_⟩
        · have hj' : j < xs.length := by simpa [Ty.size] using hj
          have hH' : Sort.Holds (Value.int .i64) w' g 0 (@List.toArray Int xs) := holds_all hH
          have := (hH' j (lt_toArray hj')).1
          refine ⟨?_, fun hN => ?_⟩
          · rw [Addr.add_lit]
            rw [this]
            exact congrArg (fun x => some (Value.int .i64 x)) (getB_int hj')
          · rcases hN with hN | hN
            · have := hFb _ _ hN
              simp at this; omega
            · have := hR.wr_lt hN
              simp at this; omega
        · have hi := (List.getElem?_eq_some_iff.1 hy).1
          have hj0 : j = 0 := by
            have := (List.getElem?_eq_some_iff.1 hj).1
            simp [cells] at this; exact this
          subst hj0
          simp [cells] at hj
          subst hj
          have e : y = @List.getD Int xs (i * 1 + 0) 0 := getD_some hy
          exact e ▸ RelV.int (k := .i64) (n := y) (fun h => by cases h)
    · cases h
  · cases h
theorem clone_eq (k : Nat) {xs : List Int} (h : xs.length * 8 ≤ 140737488355328) : slices_Clone_int (k + 1) xs = some (xs, xs, ()) := by
  unfold slices_Clone_int
  have hf : cx.prog.funcs[56]? = some Try.f56 := by kernel_rfl
  obtain ⟨c, hb⟩ : ∃ c, Try.f56.body = some c := Option.isSome_iff_exists.1 (by kernel_rfl)
  have hx : cx.ext 56 [.own 0] [.arr (.int .i64) false xs] = some (.sl (.int .i64) false xs) := by
    change ext 56 [.own 0] [.arr (.int .i64) false xs] = _
    unfold ext
    exact if_pos h
  change acallBody cx (orcAt cx k) k 56 [.own 0] [.arr (.int .i64) false xs] = _
  simp only [acallBody, hf, hb, hx]
  rfl
end Go.Ev.HpBW
