/-
  THE EVALUATOR, PART 13: append to what is not one's own; texts of bytes and back.
-/
import Derived.Test.YtpkhhaolkfaoaaaHpEvL
set_option linter.unusedVariables false
set_option linter.unusedSimpArgs false
set_option linter.unusedSectionVars false
namespace Go.Ev
section
variable {cx : Cx} {Fb : Nat → Nat → Prop} {β : List Loc} {st : St} {a : Act} {w : World}

theorem append_new (hok : cx.ok = true) (h : Rel cx Fb β st a w) (hFb : ∀ b off, Fb b off → b < w.heap.size) {t t2 ty' : Nat} {ty : Ty} {e sz bytes : Nat} (hk : cx.kind t = .sl ty e sz bytes)
    {xs ys : List (T ty)} {A : Option Addr} {cap : Nat} {u : Value} {f g : Nat → Value} (hrow : RowOf β st.objs w (NN Fb β st.objs) ty xs A g) (hs : Src cx β st.objs w (NN Fb β st.objs) ty t2 u ys f)
    (hcap : cap < xs.length + ys.length ∨ (A = none ∧ cap = 0)) (hb : (xs.length + ys.length) * bytes ≤ 140737488355328) :
    ∃ v' β' w', (Builtin.append_ #[t, t2] ty' #[.slice A xs.length cap, u]).run cx.prog w = .ok v' w' ∧ Adv β st.objs w β' (st.objs ++ [.arr ty false (xs ++ ys)]) w' ∧
      Rel cx Fb β' (st.push [.arr ty false (xs ++ ys)]) a w' ∧ RelV β' (st.objs ++ [.arr ty false (xs ++ ys)]) w' (NN Fb β' (st.objs ++ [.arr ty false (xs ++ ys)])) (.own st.objs.length) v' := by
  obtain ⟨hu, _, i, z, hi, hsz, hsz2, hby, hpos, hz, hzs⟩ := k_sl hok hk
  obtain ⟨d, hd, hd2⟩ := hs.desc
  subst hsz2
  subst hby
  by_cases hlt : cap < xs.length + ys.length
  · obtain ⟨A2, R2⟩ := h.newRow (sh := false) (z := z.cells) (old := cap) (e := e) hok hFb hzs hrow.cov hs.cov
    refine ⟨_, _, _, append_grow (n := ys.length) hu hd hd2 hi hz (hs.len w) (by rw [hsz]; exact hs.first _ (Grow.drew' w)) (by
      rw [hsz]
      exact run_firstRow (fun e => by rw [hrow.nil e]; rfl) fun ad e j hj => (Grow.drew' w).cell (hrow.cell ad e j hj)) hlt hb hpos, A2, R2, ?_⟩
    have := own_last (w := w.drew.alloc (.cells (((List.range (xs.length * ty.size)).map g).toArray ++ ((List.range (ys.length * ty.size)).map f).toArray ++ Builtin.zeroCells z.cells (grownCap w (xs.length + ys.length) cap e - (xs.length + ys.length))) e))
      (N := NN Fb (β ++ [.at w.heap.size (grownCap w (xs.length + ys.length) cap e)]) (st.objs ++ [.arr ty false (xs ++ ys)])) (t := ty) (sh := false) (xs := xs ++ ys) (l := .at w.heap.size (grownCap w (xs.length + ys.length) cap e)) (objs0 := st.objs) (n := st.objs.length) rfl h.len
    simpa [ownVal] using this
  · rcases hcap with hcap | ⟨hA, hc0⟩
    · omega
    · subst hc0
      have hx := hrow.nil hA
      subst hx
      have hy : ys = [] := List.eq_nil_of_length_eq_zero (by simp at hlt; exact hlt ▸ rfl)
      subst hy
      obtain ⟨A2, R2⟩ := h.nilRow hFb ty false
      refine ⟨.slice none 0 0, β ++ [.nil], w, append_none hu hd hd2 hi (hs.len w) (by rw [hsz]; simpa using hs.first w (Grow.refl w)) hA, A2, R2, ?_⟩
      exact own_last (l := .nil) rfl h.len

/-- '[]byte(s)'. -/
theorem toBytes (hok : cx.ok = true) (h : Rel cx Fb β st a w) (hFb : ∀ b off, Fb b off → b < w.heap.size) {s d e sz bytes : Nat} {ty : Ty} {l : Bytes} {xs : List (T ty)} (hks : cx.kind s = .str) (hkd : cx.kind d = .sl ty e sz bytes)
    (hx : ofU8 ty l = some xs) (he : cx.prog.underlying e = some (.int .u8)) :
    ∃ v' β' w', (convert s d (.string ⟨l.toArray⟩)).run cx.prog w = .ok v' w' ∧ Adv β st.objs w β' (st.objs ++ [.arr ty false xs]) w' ∧
      Rel cx Fb β' (st.push [.arr ty false xs]) a w' ∧ RelV β' (st.objs ++ [.arr ty false xs]) w' (NN Fb β' (st.objs ++ [.arr ty false xs])) (.own st.objs.length) v' := by
  unfold ofU8 at hx
  split at hx
  · cases hx
    have hsz : (⟨l.toArray⟩ : ByteArray).size = l.length := by simp [ByteArray.size]
    have hrun := Go.Lib.run_convert_string_bytes w s d e ⟨l.toArray⟩ (k_str hok hks).1 (k_sl hok hkd).1 he
    have hcapge : l.length ≤ grownCap w (⟨l.toArray⟩ : ByteArray).size 0 e := by rw [hsz]; exact grownCap_ge' _ _ _ _
    have g : Grow w (Go.Lib.bytesWorld w e ⟨l.toArray⟩) := by
      refine ⟨rfl, rfl, rfl, by rw [Go.Lib.bytesWorld_size]; omega, fun b hb => Go.Lib.bytesWorld_at_old w e _ b hb⟩
    have hcs : (Go.Lib.bytesCells w e ⟨l.toArray⟩).size = grownCap w (⟨l.toArray⟩ : ByteArray).size 0 e := by
      simp [Go.Lib.bytesCells, hsz] at hcapge ⊢
      omega
    obtain ⟨A2, R2⟩ := h.row hFb g .u8 false l (grownCap w (⟨l.toArray⟩ : ByteArray).size 0 e) _ e _ (Go.Lib.bytesWorld_at_new w e ⟨l.toArray⟩) (by rw [hcs]; simp [Ty.size]) hcapge (fun j hj => by omega) (fun i x j c v hx hc hv => by
      have hj : j = 0 := by
        have := (List.getElem?_eq_some_iff.1 hc).1
        simp [cells] at this; omega
      subst hj
      simp [cells] at hc
      subst hc
      have hx' : (l : List UInt8)[i]? = some x := hx
      have hlt8 := UInt8.toNat_lt x
      have hil : i < l.length := (List.getElem?_eq_some_iff.1 hx').1
      have : v = .int .u8 ((UInt8.toNat x : Nat) : Int) := by
        simp only [Go.Lib.bytesCells, Ty.size, Nat.mul_one, Nat.add_zero] at hv
        rw [Array.getElem?_append_left (by simpa using hil)] at hv
        simp only [Array.getElem?_map, List.getElem?_toArray, hx'] at hv
        exact (Option.some.inj hv).symm
      rw [this]
      exact RelV.int (n := ((UInt8.toNat x : Nat) : Int)) fun _ => ⟨by omega, by omega⟩)
    refine ⟨_, _, _, hrun, A2, R2, ?_⟩
    have := own_last (w := Go.Lib.bytesWorld w e ⟨l.toArray⟩) (N := NN Fb (β ++ [.at w.heap.size (grownCap w (⟨l.toArray⟩ : ByteArray).size 0 e)]) (st.objs ++ [.arr .u8 false l])) (t := .u8) (sh := false) (xs := l) (l := .at w.heap.size (grownCap w (⟨l.toArray⟩ : ByteArray).size 0 e)) (objs0 := st.objs) (n := st.objs.length) rfl h.len
    simp only [ownVal, hsz] at this ⊢
    exact this
  · cases hx

/-- 'string(b)'. -/
theorem toText (hok : cx.ok = true) (h : Rel cx Fb β st a w) {s d e sz bytes : Nat} {ty : Ty} {c : AVal} {v : Value} {l : Bytes} {xs : List (T ty)} (hks : cx.kind s = .sl ty e sz bytes) (hkd : cx.kind d = .str)
    (hc : RelV β st.objs w (NN Fb β st.objs) c v) (hx : toList st.objs ty c = some xs) (hl : toU8 ty xs = some l) (he : cx.prog.underlying e = some (.int .u8)) :
    (convert s d v).run cx.prog w = .ok (.string ⟨l.toArray⟩) w := by
  unfold toU8 at hl
  split at hl
  · cases hl
    obtain ⟨A, cap, f, rfl, hcap, hrow⟩ := rowOf h hc hx
    rw [run_convert_bytes_string w s d e _ _ _ (k_sl hok hks).1 he (k_str hok hkd).1]
    cases A with
    | none =>
      have := hrow.nil rfl
      subst this
      simp [Conv.bytesToString]
      rfl
    | some ad =>
      have hcell : ∀ j, j < List.length (α := T .u8) l → w.cell? (ad.add j) = some (f j) := fun j hj => hrow.cell ad rfl j (by simpa [Ty.size] using hj)
      have hload := run_loadRow (P := cx.prog) hcell
      have hf : (List.range (List.length (α := T .u8) l)).map f = ((l : List UInt8).map fun x => ((UInt8.toNat x : Nat) : Int)).map (Value.int .u8) := by
        apply List.ext_getElem?
        intro k
        by_cases hk : k < List.length (α := T .u8) l
        · have hk' : k < List.length (α := UInt8) l := hk
          have hx' : (l : List (T .u8))[k]? = some ((l : List UInt8)[k]) := by
            have : (l : List UInt8)[k]? = some ((l : List UInt8)[k]) := by simp [hk']
            exact this
          have := hrow.cov k ((l : List UInt8)[k]) 0 _ hx' rfl
          simp only [Ty.size, Nat.mul_one, Nat.add_zero] at this
          have hv : f k = .int .u8 ((UInt8.toNat ((l : List UInt8)[k]) : Nat) : Int) := by
            generalize f k = y at this
            cases this
            rfl
          simp [hk, hk', hv]
        · have hk' : ¬ k < List.length (α := UInt8) l := hk
          simp [hk, hk']
      rw [hf] at hload
      rw [run_bytesToString w ad _ cap _ hload]
      congr 2
      have key : ∀ (l : List UInt8) (b : ByteArray), (l.map fun x => ((UInt8.toNat x : Nat) : Int)).foldl (fun r n => r.push (UInt8.ofNat n.toNat)) b = ⟨(b.data.toList ++ l).toArray⟩ := by
        intro l
        induction l with
        | nil => intro b; simp
        | cons x l ih =>
          intro b
          simp only [List.map_cons, List.foldl_cons]
          rw [ih]
          simp [ByteArray.push]
      rw [key]
      simp
  · cases hl
end
end Go.Ev
