/-
  THE EVALUATOR, PART 12: append, whole; texts of bytes and back.
-/
import Derived.Test.YtpkhhaolkfaoaaaHpEvK
import Derived.Laws.BytesString
set_option linter.unusedVariables false
set_option linter.unusedSimpArgs false
set_option linter.unusedSectionVars false
namespace Go.Ev
section
variable {cx : Cx} {Fb : Nat → Nat → Prop} {β : List Loc} {st : St} {a : Act} {w : World}

/-- What is appended. -/
structure Src (cx : Cx) (β : List Loc) (objs : List AObj) (w : World) (N : Nat → Nat → Prop) (ty : Ty) (t2 : Nat) (u : Value) (ys : List (T ty)) (f : Nat → Value) : Prop where
  desc : ∃ d, cx.prog.underlying t2 = some d ∧ ((∃ e2, d = .slice e2) ∨ d = .string)
  len : ∀ w', (Builtin.lenOf u).run cx.prog w' = .ok ys.length w'
  first : ∀ w', Grow w w' → (Builtin.firstCells ty.size ys.length u).run cx.prog w' = .ok ((List.range (ys.length * ty.size)).map f).toArray w'
  cov : Cover β objs w N ty ys f

theorem srcOf (hok : cx.ok = true) (h : Rel cx Fb β st a w) {ty : Ty} {t2 : Nat} {c : AVal} {u : Value} {ys : List (T ty)}
    (hy : (match cx.kind t2, c with
            | .str, .str s => ofU8 ty s
            | .sl _ _ _ _, v => toList st.objs ty v
            | _, _ => none) = some ys) (hc : RelV β st.objs w (NN Fb β st.objs) c u) : ∃ f, Src cx β st.objs w (NN Fb β st.objs) ty t2 u ys f := by
  split at hy
  · skip
    rename_i _ s hk
    cases hc
    unfold ofU8 at hy
    split at hy
    · cases hy
      refine ⟨fun k => .int .u8 ((s[k]?.getD 0).toNat : Int), ⟨_, (k_str hok hk).1, .inr rfl⟩, fun w' => by simp [Builtin.lenOf, ByteArray.size]; rfl, fun w' _ => ?_, ?_⟩
      · have hex : (⟨s.toArray⟩ : ByteArray).extract 0 (List.length (α := T .u8) s) = ⟨s.toArray⟩ := by
          apply ByteArray.ext
          rw [ByteArray.data_extract]
          have : List.length (α := T .u8) s = List.length s := rfl
          simp [this]
        simp only [Builtin.firstCells, Sem.run_pure, hex]
        congr 1
        apply Array.ext'
        apply List.ext_getElem?
        intro k
        have hlen : List.length (α := T .u8) s = List.length s := rfl
        by_cases hk : k < s.length
        · simp [Ty.size, hlen, hk]
        · simp [Ty.size, hlen, hk]
      · intro i x j c hx hc
        have hj : j = 0 := by
          have := (List.getElem?_eq_some_iff.1 hc).1
          simp [cells] at this; omega
        subst hj
        simp [cells] at hc
        subst hc
        have hx' : (s : List UInt8)[i]? = some x := hx
        simp only [Ty.size, Nat.mul_one, Nat.add_zero, hx', Option.getD_some]
        have hlt8 := UInt8.toNat_lt x
        exact RelV.int (n := ((UInt8.toNat x : Nat) : Int)) fun _ => ⟨by omega, by omega⟩
    · cases hy
  · rename_i _ _ t' e sz bytes hc hk
    obtain ⟨A, cap, f, rfl, hcap, hrow⟩ := rowOf h (by assumption) hy
    refine ⟨f, ⟨_, (k_sl hok hk).1, .inl ⟨_, rfl⟩⟩, fun w' => by simp [Builtin.lenOf], fun w' g => ?_, hrow.cov⟩
    exact run_firstRow (fun e => by rw [hrow.nil e]; rfl) fun ad e j hj => g.cell (hrow.cell ad e j hj)
  · cases hy

theorem zeroCells_size (z : Array Value) (n : Nat) : (Builtin.zeroCells z n).size = n * z.size := by simp [Builtin.zeroCells]
theorem grownCap_ge' (w : World) (need old e : Nat) : need ≤ grownCap w need old e := by
  unfold grownCap Question.cut
  simp

/-- A row grows into a new block. -/
theorem Rel.newRow (hok : cx.ok = true) (h : Rel cx Fb β st a w) (hFb : ∀ b off, Fb b off → b < w.heap.size) {ty : Ty} {sh : Bool} {xs ys : List (T ty)} {f g : Nat → Value} {z : Array Value} {old e : Nat}
    (hz : z.size = ty.size) (hx : Cover β st.objs w (NN Fb β st.objs) ty xs f) (hy : Cover β st.objs w (NN Fb β st.objs) ty ys g) :
    let cap := grownCap w (xs.length + ys.length) old e
    let w' := w.drew.alloc (.cells (((List.range (xs.length * ty.size)).map f).toArray ++ ((List.range (ys.length * ty.size)).map g).toArray ++ Builtin.zeroCells z (cap - (xs.length + ys.length))) e)
    Adv β st.objs w (β ++ [.at w.heap.size cap]) (st.objs ++ [.arr ty sh (xs ++ ys)]) w' ∧ Rel cx Fb (β ++ [.at w.heap.size cap]) (st.push [.arr ty sh (xs ++ ys)]) a w' := by
  intro cap w'
  have hge : xs.length + ys.length ≤ cap := grownCap_ge' _ _ _ _
  refine h.row hFb (Grow.drewAlloc _ _) ty sh (xs ++ ys) cap _ e (0, 0) (drewAlloc_heap _ _) ?_ (by simpa using hge) (fun j _ hj => by simp at hj) ?_
  · simp only [Array.size_append, List.size_toArray, List.length_map, List.length_range, zeroCells_size, hz]
    rw [← Nat.add_mul, ← Nat.add_mul]
    congr 1
    omega
  · intro i x j c v hx' hc hv
    have hj : j < ty.size := by rw [← cells_length ty x]; exact (List.getElem?_eq_some_iff.1 hc).1
    have hi : i < xs.length + ys.length := by have := (List.getElem?_eq_some_iff.1 hx').1; simpa using this
    have := (hx.append hy) i x j c hx' hc
    have hlt : i * ty.size + j < xs.length * ty.size + ys.length * ty.size := by rw [← Nat.add_mul]; exact mulIdx hi hj
    have hval : v = (if i * ty.size + j < xs.length * ty.size then f (i * ty.size + j) else g (i * ty.size + j - xs.length * ty.size)) := by
      rw [Array.getElem?_append_left (by simpa using hlt), Array.getElem?_append] at hv
      simp only [List.size_toArray, List.length_map, List.length_range] at hv
      split at hv
      · rename_i hlt2
        rw [if_pos hlt2]
        simp [hlt2] at hv
        exact hv.symm
      · rename_i hge2
        rw [if_neg hge2]
        simp [show i * ty.size + j - xs.length * ty.size < ys.length * ty.size by omega] at hv
        exact hv.symm
    rw [hval]; exact this

theorem own_last {β : List Loc} {w : World} {N : Nat → Nat → Prop} {t : Ty} {sh : Bool} {xs : List (T t)} {l : Loc} {objs0 : List AObj} {n : Nat} (hn : n = objs0.length) (hlen : β.length = objs0.length) :
    RelV (β ++ [l]) (objs0 ++ [.arr t sh xs]) w N (.own n) (ownVal l xs.length) := by
  subst hn
  refine .own (by simp; omega) (by cases l <;> rfl) fun t' sh' xs' l' ho hl => ?_
  rw [List.getElem?_append_right (Nat.le_refl _)] at ho
  simp at ho
  obtain ⟨rfl, ho⟩ := ho
  rw [← hlen, List.getElem?_append_right (Nat.le_refl _)] at hl
  simp at hl
  subst hl
  simp at ho
  rw [ho.2]

/-- append, to what is one's own. -/
theorem append_own (hok : cx.ok = true) (h : Rel cx Fb β st a w) (hFb : ∀ b off, Fb b off → b < w.heap.size) {t t2 ty' : Nat} {ty : Ty} {e sz bytes : Nat} (hk : cx.kind t = .sl ty e sz bytes)
    {id : Nat} {sh : Bool} {xs ys : List (T ty)} {v u : Value} {f : Nat → Value} (hv : RelV β st.objs w (NN Fb β st.objs) (.own id) v) (ho : st.objs[id]? = some (.arr ty sh xs)) (hs : Src cx β st.objs w (NN Fb β st.objs) ty t2 u ys f)
    (hb : (xs.length + ys.length) * bytes ≤ 140737488355328) :
    ∃ v' β' w', (Builtin.append_ #[t, t2] ty' #[v, u]).run cx.prog w = .ok v' w' ∧ Adv β st.objs w β' (st.objs.set id .dead ++ [.arr ty sh (xs ++ ys)]) w' ∧
      Rel cx Fb β' { st with objs := st.objs.set id .dead ++ [.arr ty sh (xs ++ ys)] } a w' ∧ RelV β' (st.objs.set id .dead ++ [.arr ty sh (xs ++ ys)]) w' (NN Fb β' (st.objs.set id .dead ++ [.arr ty sh (xs ++ ys)])) (.own st.objs.length) v' := by
  obtain ⟨hu, _, i, z, hi, hsz, hsz2, hby, hpos, hz, hzs⟩ := k_sl hok hk
  obtain ⟨d, hd, hd2⟩ := hs.desc
  subst hsz2
  subst hby
  have hlt : id < β.length := by rw [h.len]; exact (List.getElem?_eq_some_iff.1 ho).1
  obtain ⟨l, hl⟩ : ∃ l, β[id]? = some l := ⟨β[id], by simp [hlt]⟩
  have hvv : v = ownVal l xs.length := by cases hv with | own _ _ hv => exact hv ty sh xs l ho hl
  subst hvv
  obtain ⟨A1, R1⟩ := h.kill ho
  have G1 := A1.goes (Fb := Fb) h.len
  have len1 : β.length = (st.objs.set id .dead).length := by simp [h.len]
  have cov1 : ∀ {zs : List (T ty)} {g : Nat → Value}, Cover β st.objs w (NN Fb β st.objs) ty zs g → Cover β (st.objs.set id .dead) w (NN Fb β (st.objs.set id .dead)) ty zs g := fun h => h.goes G1
  have fin : ∀ (A : Option Addr) (old : Nat) (g : Nat → Value), ownVal l xs.length = .slice A xs.length old → RowOf β st.objs w (NN Fb β st.objs) ty xs A g → old < xs.length + ys.length →
      ∃ v' β' w', (Builtin.append_ #[t, t2] ty' #[ownVal l xs.length, u]).run cx.prog w = .ok v' w' ∧ Adv β st.objs w β' (st.objs.set id .dead ++ [.arr ty sh (xs ++ ys)]) w' ∧
      Rel cx Fb β' { st with objs := st.objs.set id .dead ++ [.arr ty sh (xs ++ ys)] } a w' ∧ RelV β' (st.objs.set id .dead ++ [.arr ty sh (xs ++ ys)]) w' (NN Fb β' (st.objs.set id .dead ++ [.arr ty sh (xs ++ ys)])) (.own st.objs.length) v' := by
    intro A old g hA hrow hlt
    obtain ⟨A2, R2⟩ := R1.newRow (sh := sh) (z := z.cells) (old := old) (e := e) hok hFb hzs (cov1 hrow.cov) (cov1 hs.cov)
    rw [hA]
    refine ⟨_, _, _, append_grow (n := ys.length) hu hd hd2 hi hz (hs.len w) (by rw [hsz]; exact hs.first _ (Grow.drew' w)) (by
      rw [hsz]
      exact run_firstRow (fun e => by rw [hrow.nil e]; rfl) fun ad e j hj => (Grow.drew' w).cell (hrow.cell ad e j hj)) hlt hb hpos, A1.trans A2, R2, ?_⟩
    have := own_last (w := w.drew.alloc (.cells (((List.range (xs.length * ty.size)).map g).toArray ++ ((List.range (ys.length * ty.size)).map f).toArray ++ Builtin.zeroCells z.cells (grownCap w (xs.length + ys.length) old e - (xs.length + ys.length))) e))
      (N := NN Fb (β ++ [.at w.heap.size (grownCap w (xs.length + ys.length) old e)]) (st.objs.set id .dead ++ [.arr ty sh (xs ++ ys)])) (t := ty) (sh := sh) (xs := xs ++ ys) (l := .at w.heap.size (grownCap w (xs.length + ys.length) old e)) (objs0 := st.objs.set id .dead) (n := st.objs.length) (by simp) len1
    simpa [ownVal] using this
  cases l with
  | nil =>
    have hx : xs = [] := h.obj id _ _ ho hl
    subst hx
    by_cases hn : ys.length = 0
    · have hys : ys = [] := List.eq_nil_of_length_eq_zero hn
      subst hys
      obtain ⟨A2, R2⟩ := R1.nilRow hFb ty sh
      refine ⟨.slice none 0 0, _, w, append_none hu hd hd2 hi (hs.len w) (by rw [hsz]; simpa using hs.first w (Grow.refl w)) rfl, A1.trans A2, R2, ?_⟩
      exact own_last (l := .nil) (by simp) len1
    · exact fin none 0 (fun _ => undef) rfl ⟨fun _ => rfl, by simp, by intro i x j c h; simp at h⟩ (by simp; omega)
  | «at» b cap =>
    obtain ⟨arr, e', fr, hbk, hs2, hxl, hfr, hrel⟩ := h.obj id _ _ ho hl
    by_cases hroom : xs.length + ys.length ≤ cap
    · obtain ⟨A2, R2⟩ := h.growRow (f := f) (vs := (List.range (ys.length * ty.size)).map f) ho hl hroom (by simp) (fun j hj => by simp [hj]) hs.cov
      refine ⟨_, β ++ [.at b cap], _, append_room (e := e) (i := i) hu hd hd2 hi (hs.len w) (by rw [hsz]; exact hs.first w (Grow.refl w)) hroom ?_ ?_ ?_, ?_, ?_, ?_⟩
      · intro j hj
        simp only [List.size_toArray, List.length_map, List.length_range] at hj
        have : xs.length * i.size + j < arr.size := by
          rw [hs2, hsz]; have := Nat.mul_le_mul_right ty.size hroom; rw [Nat.add_mul] at this; omega
        rw [Option.isSome_iff_exists]
        exact ⟨arr[xs.length * i.size + j], cell?_some.2 ⟨arr, e', fr, hbk, rfl, by simp [this]⟩⟩
      · intro j hj
        simp only [List.size_toArray, List.length_map, List.length_range] at hj
        have : xs.length * i.size + j < arr.size := by
          rw [hs2, hsz]; have := Nat.mul_le_mul_right ty.size hroom; rw [Nat.add_mul] at this; omega
        have := hfr _ this
        simp only [World.frozen?, hbk]
        simp; omega
      · intro v hv
        simp at hv
        obtain ⟨k, hk, rfl⟩ := hv
        exact hs.cov.one ty.size_pos k hk
      · rw [hsz]; exact A2
      · rw [hsz]; exact R2
      · have := own_last (w := w.setCells b (xs.length * i.size) ((List.range (ys.length * ty.size)).map f).toArray.toList) (N := NN Fb (β ++ [.at b cap]) (st.objs.set id .dead ++ [.arr ty sh (xs ++ ys)])) (t := ty) (sh := sh) (xs := xs ++ ys) (l := .at b cap) (objs0 := st.objs.set id .dead) (n := st.objs.length) (by simp) len1
        simpa [ownVal] using this
    · obtain ⟨A, cap', g, hA, hc1, hrow⟩ := rowOf h hv (xs := xs) (by
        unfold toList
        rw [fixS_own]
        have : objAt st.objs id = .arr ty sh xs := by unfold objAt; rw [ho]; rfl
        rw [this]
        simp)
      have hA' := hA
      simp only [ownVal, Value.slice.injEq, true_and] at hA'
      obtain ⟨rfl, rfl⟩ := hA'
      exact fin _ _ g rfl hrow (by omega)
end
end Go.Ev
