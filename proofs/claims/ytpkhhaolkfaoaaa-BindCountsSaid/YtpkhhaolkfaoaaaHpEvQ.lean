/-
  THE EVALUATOR, PART 17: slice literals; slices of slices and texts.
-/
import Derived.Test.YtpkhhaolkfaoaaaHpEvP
import Derived.Laws.Slices
set_option linter.unusedVariables false
set_option linter.unusedSimpArgs false
set_option linter.unusedSectionVars false
namespace Go.Ev

theorem uncells_data {t : Ty} {cs : List AVal} {d : T t} (h : uncells t cs = some d) : ∀ c ∈ cs, c.isData = true := by
  unfold uncells at h
  split at h <;> first | (cases h; done) | simp [AVal.isData]
theorem fixS_scalar {objs : List AObj} {s : Option Ty} {c : AVal} (h : (fixS objs s c).isData = true) : c.scalar = true := by
  unfold fixS at h
  split at h
  · rfl
  · rfl
  · rfl
  · exact data_scalar h
theorem toDatum_ok {objs : List AObj} {t : Ty} {c : AVal} {d : T t} (h : toDatum objs t c = some d) : okCells c = true := by
  unfold toDatum at h
  have hd := uncells_data h
  have key : ∀ c' ∈ valCells c, c'.scalar = true := by
    intro c' hc
    obtain ⟨i, hi, rfl⟩ := List.getElem_of_mem hc
    obtain ⟨hl, hh⟩ := fixL_get (objs := objs) (slots t) (valCells c)
    have hi' : i < (fixL objs (slots t) (valCells c)).length := by rw [hl]; exact hi
    obtain ⟨s, e, he, heq⟩ := hh i ((fixL objs (slots t) (valCells c))[i]) (by simp [hi'])
    have : (valCells c)[i] = e := by simp [hi] at he; exact he
    rw [this]
    exact fixS_scalar (by rw [← heq]; exact hd _ (List.getElem_mem _))
  cases c <;> simp_all [valCells, okCells]

section
variable {cx : Cx} {Fb : Nat → Nat → Prop} {β : List Loc} {st : St} {a : Act} {w : World}

theorem buildSlice_sim (hok : cx.ok = true) (h : Rel cx Fb β st a w) (hFb : ∀ b off, Fb b off → b < w.heap.size) {t e sz bytes len : Nat} {ty : Ty} (hk : cx.kind t = .sl ty e sz bytes) {parts : Array (Nat × Operand)} {xs : List (T ty)}
    (hlen : len = parts.size) (hsm : len * ty.size ≤ 16777216) (hd : datums (sharePs st.ev parts.toList st.objs) ty st.ev 0 parts.toList = some xs) :
    ∃ v β' w', (Instr.buildSlice t len (parts.map fun (i, x) => (i, a.eval x))).run cx.prog w = .ok v w' ∧
      Adv β st.objs w β' (sharePs st.ev parts.toList st.objs ++ [.arr ty false xs]) w' ∧ Rel cx Fb β' (({ st with objs := sharePs st.ev parts.toList st.objs } : St).push [.arr ty false xs]) a w' ∧
      RelV β' (sharePs st.ev parts.toList st.objs ++ [.arr ty false xs]) w' (NN Fb β' (sharePs st.ev parts.toList st.objs ++ [.arr ty false xs])) (.own (sharePs st.ev parts.toList st.objs).length) v := by
  obtain ⟨hu, _, i, z, hi, hsz, hsz2, hby, hpos, hz, hzs⟩ := k_sl hok hk
  subst hsz2
  obtain ⟨A1, R1⟩ := h.sharePs st.ev parts.toList st.objs (.refl _ _ _) h
  obtain ⟨s1, s2, s3⟩ := sharePs_spec st.ev parts.toList st.objs
  generalize hobjs : sharePs st.ev parts.toList st.objs = objs at *
  obtain ⟨d1, d2⟩ := datums_spec _ _ hd
  have ev : ∀ x, RelV β objs w (NN Fb β objs) (st.ev x) (a.eval x) := fun x => by
    have := R1.ev x
    cases x <;> exact this
  have part : ∀ (j : Nat) p, parts.toList[j]? = some p → ∃ d, xs[j]? = some d ∧ RelL β objs w (NN Fb β objs) (cells ty d) (a.eval p.2).cells := by
    intro j p hp
    obtain ⟨_, d, hd1, hd2⟩ := d2 j p hp
    exact ⟨d, hd1, toDatum_rel R1 (ev p.2) hd2 (s2 p (List.mem_of_getElem? hp)) (toDatum_ok hd2)⟩
  have hcount : parts.toList.length = len := by simp [hlen]
  obtain ⟨vs', g1, g2, g3, g4⟩ := fill_row (n := 0) (sz := ty.size) (parts.toList.map fun x => (x.1, a.eval x.2)) 0 ((Array.range (len * ty.size)).map (z.cells[· % z.cells.size]!)) (fun j p hp => by
    obtain ⟨q, hq, rfl⟩ := getElem?_map_some hp
    obtain ⟨d, hd1, hd2⟩ := part j q hq
    exact ⟨(d2 j q hq).1, by rw [← hd2.1, cells_length]⟩) (by simp [hcount])
  have hvs : vs'.size = len * ty.size := by rw [g2]; simp
  have hrun : (Instr.buildSlice t len (parts.map fun (i, x) => (i, a.eval x))).run cx.prog w = .ok (.slice (some ⟨w.heap.size, 0, none⟩) len len) (w.alloc (.cells vs' e)) := by
    by_cases hz0 : len * ty.size = 0
    · have hl0 : len = 0 := by
        rcases Nat.mul_eq_zero.1 hz0 with h1 | h1
        · exact h1
        · have := ty.size_pos; omega
      subst hl0
      have hp0 : parts = #[] := Array.eq_empty_of_size_eq_zero hlen.symm
      subst hp0
      have hv0 : vs' = #[] := Array.eq_empty_of_size_eq_zero (by simpa using hvs)
      subst hv0
      have e0 : Array.map (fun x => (default : Value)) (Array.range 0) = #[] := Array.eq_empty_of_size_eq_zero (by simp)
      simp [Instr.buildSlice, run_underlying' hu, run_sizeOf' hi, Instr.fill, newRow, e0]
    · refine run_buildSlice w t e len _ vs' i z hu hi hz (by rw [hsz]; omega) (by rw [hsz]; exact hz0) ?_
      rw [hsz, Array.toList_map]
      exact g1
  have hxl : xs.length = len := by rw [d1, hcount]
  obtain ⟨A2, R2⟩ := R1.row hFb (Grow.push w (.cells vs' e)) ty false xs len vs' e (0, 0) (by simp) hvs (by omega) (fun j _ hj => by simp at hj) (fun i x j c v hx hc hv => by
    have hi := (List.getElem?_eq_some_iff.1 hx).1
    have hj : j < ty.size := by rw [← cells_length ty x]; exact (List.getElem?_eq_some_iff.1 hc).1
    have hp : parts.toList[i]? = some (parts.toList[i]'(by omega)) := by simp [show i < parts.size by omega]
    obtain ⟨d, hd1, hd2⟩ := part i _ hp
    rw [hx] at hd1; cases hd1
    have := g4 i (parts.toList[i].1, a.eval parts.toList[i].2) (by simp [show i < parts.size by omega]) j hj
    rw [Nat.zero_add] at this
    rw [this] at hv
    exact hd2.2 j c v hc hv)
  refine ⟨_, _, _, hrun, A1.trans A2, R2, ?_⟩
  have := own_last (w := w.alloc (.cells vs' e)) (N := NN Fb (β ++ [.at w.heap.size len]) (objs ++ [.arr ty false xs])) (t := ty) (sh := false) (xs := xs) (l := .at w.heap.size len) (objs0 := objs) (n := objs.length) rfl R1.len
  rw [ownVal, hxl] at this
  exact this

/-! ### Slices of slices -/
theorem bnd_some {objs : List AObj} {N : Nat → Nat → Prop} {c : AVal} {v : Value} {hi k : Nat} (h : RelV β objs w N c v) (hb : bnd c hi = some k) : ∃ kk n, v = .int kk n ∧ 0 ≤ n ∧ n ≤ (hi : Int) ∧ n.toNat = k := by
  unfold bnd at hb
  split at hb
  · simp only [cond_eq_ite, Bool.and_eq_true, decide_eq_true_eq] at hb
    split at hb
    · cases hb; cases h; exact ⟨_, _, rfl, by omega, by omega, rfl⟩
    · cases hb
  · cases hb
theorem sl_of (h : Rel cx Fb β st a w) {ty : Ty} {c : AVal} {v : Value} {xs : List (T ty)} (hc : RelV β st.objs w (NN Fb β st.objs) c v) (hx : toList st.objs ty c = some xs) (hs : ∀ id, c = .own id → Shared st.objs id) :
    RelV β st.objs w (NN Fb β st.objs) (.sl ty false xs) v := by
  have := fixS_rel h (s := some ty) hc hs
  unfold toList at hx
  split at hx
  · rename_i t' full ys e
    split at hx
    · rename_i e2; subst e2; cases hx
      rw [e] at this
      exact this.notFull
    · cases hx
  · cases hx
theorem sl_sub {objs : List AObj} {N : Nat → Nat → Prop} {ty : Ty} {full : Bool} {xs : List (T ty)} {v : Value} (hv : RelV β objs w N (.sl ty full xs) v) :
    ∃ A cap, v = .slice A xs.length cap ∧ xs.length ≤ cap ∧ ∀ (f2 : Bool) (l h m : Nat), l ≤ h → h ≤ xs.length → h ≤ m → (f2 = true → m = h) → (A = none → m = 0) →
      RelV β objs w N (.sl ty f2 ((xs.take h).drop l)) (.slice (if m = l then A else A.map (·.add (l * ty.size))) (h - l) (m - l)) := by
  cases hv with
  | sl0 =>
    refine ⟨none, 0, rfl, Nat.le_refl _, fun f2 l h m h1 h2 h3 _ h4 => ?_⟩
    have : m = 0 := h4 rfl
    subst this
    obtain rfl : h = 0 := by omega
    obtain rfl : l = 0 := by omega
    simpa using RelV.sl0 _ _
  | sl val hcap hfull hc hr =>
    rename_i ad cap
    refine ⟨some ad, cap, rfl, hcap, fun f2 l h m h1 h2 h3 hf _ => ?_⟩
    have hlen : ((xs.take h).drop l).length = h - l := by simp; omega
    by_cases e : m = l
    · rw [if_pos e]
      have hhl : h = l := by omega
      subst hhl; subst e
      have e2 : (xs.take m).drop m = [] := by simp
      rw [e2]
      have := RelV.sl (β := β) (objs := objs) (w := w) (N := N) (t := ty) (full := f2) (xs := []) (ad := ad) (cap := m - m) (fun _ => undef) (by simp) (by simp) (by simp) (by simp)
      simpa using this
    · rw [if_neg e]
      rw [← hlen]
      refine .sl (fun j => val (l * ty.size + j)) (by omega) (fun hf' => by have := hf hf'; omega) (fun j hj => ?_) fun i x j c hx hcc => ?_
      · rw [hlen] at hj
        have hlt : l * ty.size + j < xs.length * ty.size := by
          have h5 : (l + (h - l)) * ty.size ≤ xs.length * ty.size := Nat.mul_le_mul_right _ (by omega)
          rw [Nat.add_mul] at h5; omega
        have := hc (l * ty.size + j) hlt
        rw [add_add, add_block, add_off]
        refine ⟨this.1, ?_⟩
        rw [Nat.add_assoc]
        exact this.2
      · rw [List.getElem?_drop, List.getElem?_take] at hx
        split at hx
        · have := hr (l + i) x j c hx hcc
          rw [show l * ty.size + (i * ty.size + j) = (l + i) * ty.size + j by rw [Nat.add_mul]; omega]
          exact this
        · cases hx

theorem run_bounds {P : Program} {isSlice : Bool} {len cap : Nat} {lo hi mx : Option Value} {l h m : Nat}
    (hm : match mx with | none => m = cap | some v => ∃ k n, v = .int k n ∧ 0 ≤ n ∧ n ≤ (cap : Int) ∧ n.toNat = m)
    (hh : match hi with | none => h = len ∧ mx = none | some v => ∃ k n, v = .int k n ∧ 0 ≤ n ∧ n ≤ (m : Int) ∧ n.toNat = h)
    (hl : match lo with | none => l = 0 | some v => ∃ k n, v = .int k n ∧ 0 ≤ n ∧ n ≤ (h : Int) ∧ n.toNat = l) :
    (Instr.sliceBounds isSlice len cap lo hi mx).run P w = .ok (l, h, m) w := by
  cases mx with
  | none =>
    simp only at hm; subst hm
    cases hi with
    | none =>
      simp only at hh; obtain ⟨rfl, _⟩ := hh
      cases lo with
      | none => simp only at hl; subst hl; simp [Instr.sliceBounds]
      | some lv => obtain ⟨k, n, rfl, a1, a2, a3⟩ := hl; simp [Instr.sliceBounds, run_sliceBound, a1, a2, a3]
    | some hv =>
      obtain ⟨k2, n2, rfl, b1, b2, b3⟩ := hh
      cases lo with
      | none => simp only at hl; subst hl; simp [Instr.sliceBounds, run_sliceBound, b1, b2, b3]
      | some lv => obtain ⟨k, n, rfl, a1, a2, a3⟩ := hl; simp [Instr.sliceBounds, run_sliceBound, b1, b2, b3, a1, a2, a3]
  | some mv =>
    obtain ⟨k3, n3, rfl, c1, c2, c3⟩ := hm
    cases hi with
    | none => simp at hh
    | some hv =>
      obtain ⟨k2, n2, rfl, b1, b2, b3⟩ := hh
      cases lo with
      | none => simp only at hl; subst hl; simp [Instr.sliceBounds, run_sliceBound, b1, b2, b3, c1, c2, c3]
      | some lv => obtain ⟨k, n, rfl, a1, a2, a3⟩ := hl; simp [Instr.sliceBounds, run_sliceBound, b1, b2, b3, a1, a2, a3, c1, c2, c3]
theorem run_slice_list {P : Program} {t e : Nat} {i : TypeInfo} (hu : P.underlying t = some (.slice e)) (hi : P.info? e = some i) {A : Option Addr} {len cap l h m : Nat} {lo hi' mx : Option Value}
    (hb : (Instr.sliceBounds true len cap lo hi' mx).run P w = .ok (l, h, m) w) :
    (Instr.sliceAt t (.slice A len cap) lo hi' mx).run P w = .ok (.slice (if m = l then A else A.map (·.add (l * i.size))) (h - l) (m - l)) w := by
  simp [Instr.sliceAt, Instr.slice, run_underlying' hu, hb, run_sizeOf' hi]
theorem run_slice_text {P : Program} {t : Nat} (hu : P.underlying t = some .string) {s : ByteArray} {l h m : Nat} {lo hi' : Option Value}
    (hb : (Instr.sliceBounds false s.size s.size lo hi' none).run P w = .ok (l, h, m) w) :
    (Instr.sliceAt t (.string s) lo hi' none).run P w = .ok (.string (s.extract l h)) w := by
  simp [Instr.sliceAt, Instr.slice, run_underlying' hu, hb]
theorem extract_mk (s : Bytes) (l h : Nat) : (⟨s.toArray⟩ : ByteArray).extract l h = ⟨((s.take h).drop l).toArray⟩ := by
  apply ByteArray.ext
  rw [ByteArray.data_extract]
  simp [List.extract_eq_take_drop, List.drop_take]
end
end Go.Ev
