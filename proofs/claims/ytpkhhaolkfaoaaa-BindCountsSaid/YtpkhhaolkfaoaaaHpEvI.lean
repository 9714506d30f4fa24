/-
  THE EVALUATOR, PART 9: rows as lists; append; stores.
-/
import Derived.Test.YtpkhhaolkfaoaaaHpEvH
import Derived.Laws.Append
import Derived.Laws.AppendOwn
import Derived.Laws.IdiomCopy
set_option linter.unusedVariables false
set_option linter.unusedSimpArgs false
set_option linter.unusedSectionVars false
namespace Go.Ev

theorem mulIdx {i n s j : Nat} (hi : i < n) (hj : j < s) : i * s + j < n * s := by
  have : (i + 1) * s ≤ n * s := Nat.mul_le_mul_right _ (by omega)
  rw [Nat.add_mul] at this
  omega

/-- A list of data, cell by cell. -/
def Cover (β : List Loc) (objs : List AObj) (w : World) (N : Nat → Nat → Prop) (t : Ty) (xs : List (T t)) (f : Nat → Value) : Prop :=
  ∀ (i : Nat) (x : T t) (j : Nat) (c : AVal), xs[i]? = some x → (cells t x)[j]? = some c → RelV β objs w N c (f (i * t.size + j))

section
variable {cx : Cx} {Fb : Nat → Nat → Prop} {β : List Loc} {st : St} {a : Act} {w : World}

theorem Cover.goes {β' : List Loc} {objs objs' : List AObj} {w' : World} {N N' : Nat → Nat → Prop} {t : Ty} {xs : List (T t)} {f : Nat → Value} (g : Goes β β' objs objs' w w' N N')
    (h : Cover β objs w N t xs f) : Cover β' objs' w' N' t xs f := fun i x j c a b => (h i x j c a b).goes g
theorem Cover.append {objs : List AObj} {N : Nat → Nat → Prop} {t : Ty} {xs ys : List (T t)} {f g : Nat → Value} (h : Cover β objs w N t xs f) (h' : Cover β objs w N t ys g) :
    Cover β objs w N t (xs ++ ys) (fun k => if k < xs.length * t.size then f k else g (k - xs.length * t.size)) := by
  intro i x j c hx hc
  have hj : j < t.size := by rw [← cells_length t x]; exact (List.getElem?_eq_some_iff.1 hc).1
  rcases getElem?_append_some hx with h1 | ⟨h1, h2⟩
  · have hi := (List.getElem?_eq_some_iff.1 h1).1
    simp only [if_pos (mulIdx hi hj)]
    exact h i x j c h1 hc
  · obtain ⟨d, rfl⟩ : ∃ d, i = xs.length + d := ⟨i - xs.length, by omega⟩
    have e : (xs.length + d) * t.size + j = xs.length * t.size + (d * t.size + j) := by rw [Nat.add_mul]; omega
    simp only [e]
    rw [if_neg (by omega), Nat.add_sub_cancel_left]
    rw [Nat.add_sub_cancel_left] at h2
    exact h' d x j c h2 hc

/-- What stands for a list of data: a slice, whose cells can be read. -/
structure RowOf (β : List Loc) (objs : List AObj) (w : World) (N : Nat → Nat → Prop) (t : Ty) (xs : List (T t)) (A : Option Addr) (f : Nat → Value) : Prop where
  nil : A = none → xs = []
  cell : ∀ ad, A = some ad → ∀ j, j < xs.length * t.size → w.cell? (ad.add j) = some (f j)
  cov : Cover β objs w N t xs f

theorem fixS_own {objs : List AObj} {t : Ty} {id : Nat} : fixS objs (some t) (.own id) = (match objAt objs id with | .arr t' _ xs => bif t' == t then .sl t' false xs else .undef | _ => .undef) := rfl
theorem rowOf (h : Rel cx Fb β st a w) {t : Ty} {c : AVal} {v : Value} {xs : List (T t)} (hc : RelV β st.objs w (NN Fb β st.objs) c v) (hx : toList st.objs t c = some xs) :
    ∃ A cap f, v = .slice A xs.length cap ∧ xs.length ≤ cap ∧ RowOf β st.objs w (NN Fb β st.objs) t xs A f := by
  unfold toList at hx
  cases hc with
  | nils =>
    simp only [fixS, dite_true] at hx
    cases hx
    exact ⟨none, 0, fun _ => undef, rfl, Nat.le_refl _, ⟨fun _ => rfl, by simp, by intro i x j c h; simp at h⟩⟩
  | sl0 t' full =>
    simp only [fixS] at hx
    split at hx
    · rename_i he; subst he; cases hx
      exact ⟨none, 0, fun _ => undef, rfl, Nat.le_refl _, ⟨fun _ => rfl, by simp, by intro i x j c h; simp at h⟩⟩
    · cases hx
  | sl val hcap hfull hcell hr =>
    rename_i t' full ys ad cap
    simp only [fixS] at hx
    split at hx
    · rename_i he; subst he; cases hx
      exact ⟨some ad, cap, val, rfl, hcap, ⟨by simp, fun ad' e j hj => by cases e; exact (hcell j hj).1, hr⟩⟩
    · cases hx
  | own hid one hv =>
    rename_i id
    rw [fixS_own] at hx
    split at hx
    · rename_i t' full' xs' he
      split at he
      · rename_i t2 sh ys ho
        cases hbt : (t2 == t) with
        | false => rw [hbt] at he; cases he
        | true =>
          rw [hbt] at he
          simp only [cond_true] at he
          cases he
          obtain rfl : t' = t := by simpa using hbt
          simp only [dite_true, Option.some.injEq] at hx
          subst hx
          have ho' := objAt_some ho rfl
          have hβ : β[id]? = some β[id] := by simp [hid]
          have hvv := hv t' sh xs' _ ho' hβ
          have hob := h.obj id _ _ ho' hβ
          cases hl : β[id] with
          | nil =>
            rw [hl] at hob hvv
            have hob : xs' = [] := hob
            subst hob
            exact ⟨none, 0, fun _ => undef, hvv, Nat.le_refl _, ⟨fun _ => rfl, by simp, by intro i x j c h; simp at h⟩⟩
          | «at» b cap =>
            rw [hl] at hob hvv
            obtain ⟨vs, e, fr, h1, h2, h3, h4, h5⟩ := hob
            refine ⟨some ⟨b, 0, none⟩, cap, fun k => (vs[k]?).getD undef, hvv, h3, ⟨by simp, fun ad e' j hj => ?_, fun i x j c hx hc => ?_⟩⟩
            · cases e'
              have : j < vs.size := by rw [h2]; exact Nat.lt_of_lt_of_le hj (Nat.mul_le_mul_right _ h3)
              refine cell?_some.2 ⟨vs, e, fr, by rw [add_block]; exact h1, by rw [mk_add], by rw [add_off]; simp [this]⟩
            · have hj : j < t'.size := by rw [← cells_length t' x]; exact (List.getElem?_eq_some_iff.1 hc).1
              have hi := (List.getElem?_eq_some_iff.1 hx).1
              have : i * t'.size + j < vs.size := by rw [h2]; exact mulIdx (by omega) hj
              exact h5 i x j c _ hx hc (by simp [this])
      · cases he
    · cases hx
  | undef v => simp [fixS] at hx
  | int _ => simp [fixS] at hx
  | bool _ => simp [fixS] at hx
  | str _ => simp [fixS] at hx
  | ptr _ => simp [fixS] at hx
  | nilp => simp [fixS] at hx
  | ref _ _ _ => simp [fixS] at hx
  | aref _ _ _ => simp [fixS] at hx
  | agg _ _ => simp [fixS] at hx
  | tup _ _ => simp [fixS] at hx
  | clo _ _ => simp [fixS] at hx
  | nilf => simp [fixS] at hx
  | map _ => simp [fixS] at hx
  | nilm => simp [fixS] at hx
  | yld _ => simp [fixS] at hx
  | it _ => simp [fixS] at hx

/-- Cells of data are one cell each. -/
theorem RelV.one {objs : List AObj} {N : Nat → Nat → Prop} {c : AVal} {v : Value} (h : RelV β objs w N c v) (hs : c.scalar = true) : v.oneCell' = true := by
  cases h <;> first | rfl | assumption | (simp [AVal.scalar] at hs)
theorem data_scalar {c : AVal} (h : c.isData = true) : c.scalar = true := by cases c <;> simp_all [AVal.isData, AVal.scalar]
theorem Cover.one {objs : List AObj} {N : Nat → Nat → Prop} {t : Ty} {xs : List (T t)} {f : Nat → Value} (h : Cover β objs w N t xs f) (hs : 0 < t.size) (k : Nat) (hk : k < xs.length * t.size) : (f k).oneCell' = true := by
  have hi : k / t.size < xs.length := Nat.div_lt_of_lt_mul (by rw [Nat.mul_comm]; exact hk)
  have hj : k % t.size < t.size := Nat.mod_lt _ hs
  have e : k / t.size * t.size + k % t.size = k := by rw [Nat.mul_comm]; exact Nat.div_add_mod k t.size
  have hc : k % t.size < (cells t xs[k / t.size]).length := by rw [cells_length]; exact hj
  have := h (k / t.size) xs[k / t.size] (k % t.size) ((cells t xs[k / t.size])[k % t.size]) (by simp [hi]) (by simp [hc])
  rw [e] at this
  exact this.one (data_scalar (cells_data _ _ _ (List.getElem_mem _)))
theorem Ty.size_pos (t : Ty) : 0 < t.size := by cases t <;> simp [Ty.size]

theorem run_loadRow {P : Program} {ad : Addr} {n : Nat} {f : Nat → Value} (h : ∀ j, j < n → w.cell? (ad.add j) = some (f j)) : (loadCells ad n).run P w = .ok ((List.range n).map f).toArray w :=
  run_loadCells (P := P) w ad n f h
theorem run_firstRow {P : Program} {A : Option Addr} {n cap sz : Nat} {f : Nat → Value} (hn : A = none → n = 0) (h : ∀ ad, A = some ad → ∀ j, j < n * sz → w.cell? (ad.add j) = some (f j)) :
    (Builtin.firstCells sz n (.slice A n cap)).run P w = .ok ((List.range (n * sz)).map f).toArray w := by
  cases A with
  | none =>
    have := hn rfl
    subst this
    simp [Builtin.firstCells]
  | some ad => simpa [Builtin.firstCells] using run_loadRow (P := P) (h ad rfl)

theorem append_room {P : Program} {t t2 ty e : Nat} {i : TypeInfo} {d : TypeDesc} (ht : P.underlying t = some (.slice e)) (ht2 : P.underlying t2 = some d) (hd : (∃ e2, d = .slice e2) ∨ d = .string) (hi : P.info? e = some i)
    {b sLen sCap n : Nat} {x : Value} {news : Array Value} (hl : (Builtin.lenOf x).run P w = .ok n w) (hf : (Builtin.firstCells i.size n x).run P w = .ok news w) (hroom : sLen + n ≤ sCap)
    (hc : ∀ j, j < news.size → (w.cell? ⟨b, sLen * i.size + j, none⟩).isSome = true) (hz : ∀ j, j < news.size → w.frozen? ⟨b, sLen * i.size + j, none⟩ = false) (h1 : ∀ v ∈ news.toList, v.oneCell' = true) :
    (Builtin.append_ #[t, t2] ty #[.slice (some ⟨b, 0, none⟩) sLen sCap, x]).run P w = .ok (.slice (some ⟨b, 0, none⟩) (sLen + n) sCap) (w.setCells b (sLen * i.size) news.toList) := by
  have hst := run_storeCells_cells (P := P) b (sLen * i.size) news.toList 0 w (by simpa using hc) (by simpa using hz) h1
  simp only [Nat.add_zero] at hst
  rcases hd with ⟨e2, rfl⟩ | rfl
  · simp [Builtin.append_, run_underlying' ht, run_underlying' ht2, sizeOf, typeInfo, hi, hl, hf, hroom, mk_add, hst]
  · simp [Builtin.append_, run_underlying' ht, run_underlying' ht2, sizeOf, typeInfo, hi, hl, hf, hroom, mk_add, hst]

theorem append_none {P : Program} {t t2 ty e : Nat} {i : TypeInfo} {d : TypeDesc} (ht : P.underlying t = some (.slice e)) (ht2 : P.underlying t2 = some d) (hd : (∃ e2, d = .slice e2) ∨ d = .string) (hi : P.info? e = some i)
    {x : Value} {A : Option Addr} (hl : (Builtin.lenOf x).run P w = .ok 0 w) (hf : (Builtin.firstCells i.size 0 x).run P w = .ok #[] w) (hA : A = none) :
    (Builtin.append_ #[t, t2] ty #[.slice A 0 0, x]).run P w = .ok (.slice none 0 0) w := by
  subst hA
  rcases hd with ⟨e2, rfl⟩ | rfl
  · simp [Builtin.append_, run_underlying' ht, run_underlying' ht2, sizeOf, typeInfo, hi, hl, hf]
  · simp [Builtin.append_, run_underlying' ht, run_underlying' ht2, sizeOf, typeInfo, hi, hl, hf]

theorem append_grow {P : Program} {t t2 ty e : Nat} {i : TypeInfo} {d : TypeDesc} {z : Value} (ht : P.underlying t = some (.slice e)) (ht2 : P.underlying t2 = some d) (hd : (∃ e2, d = .slice e2) ∨ d = .string) (hi : P.info? e = some i) (hz : i.zero = some z)
    {A : Option Addr} {sLen sCap n : Nat} {x : Value} {olds news : Array Value} (hl : (Builtin.lenOf x).run P w = .ok n w) (hf : (Builtin.firstCells i.size n x).run P w.drew = .ok news w.drew)
    (ho : (Builtin.firstCells i.size sLen (.slice A sLen sCap)).run P w.drew = .ok olds w.drew) (hg : sCap < sLen + n) (hb : (sLen + n) * i.bytes ≤ 140737488355328) (hpos : 0 < i.bytes) :
    (Builtin.append_ #[t, t2] ty #[.slice A sLen sCap, x]).run P w =
      .ok (.slice (some ⟨w.heap.size, 0, none⟩) (sLen + n) (grownCap w (sLen + n) sCap e)) (w.drew.alloc (.cells (olds ++ news ++ Builtin.zeroCells z.cells (grownCap w (sLen + n) sCap e - (sLen + n))) e)) := by
  have hfit := growslice_fits (bytes := i.bytes) hg hb
  have hn : ¬ (sLen + n ≤ sCap) := by omega
  have hm : sLen + n ≤ (sLen + n) * i.bytes := Nat.le_mul_of_pos_right _ hpos
  have h63' : ¬ (9223372036854775807 < ((sLen : Int) + (n : Int))) := by omega
  have h48' : ¬ (281474976710656 < Builtin.nextslicecap (sLen + n) sCap * i.bytes) := by omega
  have hb0 : ¬ i.bytes = 0 := by omega
  rcases hd with ⟨e2, rfl⟩ | rfl
  · simp [Builtin.append_, run_underlying' ht, run_underlying' ht2, sizeOf, typeInfo, zeroValue, hi, hz, hl, hn, h63', h48', hb0, Question.forced, hf, ho, newRow, grownCap]
  · simp [Builtin.append_, run_underlying' ht, run_underlying' ht2, sizeOf, typeInfo, zeroValue, hi, hz, hl, hn, h63', h48', hb0, Question.forced, hf, ho, newRow, grownCap]
end
end Go.Ev
