/-
  THE EVALUATOR, PART 42: a region whose operations may come in any order: what is known when some of them have come.
-/
import Derived.Test.YtpkhhaolkfaoaaaHpEwO
set_option linter.unusedVariables false
set_option linter.unusedSimpArgs false
set_option linter.unusedSectionVars false
namespace Go.Ev

theorem getD_listed {listed : Array Bool} {j k : Nat} (hj : j < listed.size) : (listed.setIfInBounds j true).getD k false = true ↔ listed.getD k false = true ∨ k = j := by
  rw [Array.getD_eq_getD_getElem?, Array.getD_eq_getD_getElem?, Array.getElem?_setIfInBounds]
  by_cases e : j = k
  · subst e; simp [hj]
  · simp [e, Ne.symm e]

/-- What the run in the written order shows. -/
structure Lex (cx : Cx) (O : Orc cx) (ops : Array Oper) (ahead slots : List (List Nat)) (L0 L : Nat) (V : Nat → St) (fp : Nat → List Nat × List Nat) : Prop where
  step : ∀ j, j < ops.size → Step cx O ops.toList ahead slots L0 L j (V j) (V (j + 1)) (fp j)
  apart : ∀ j, j < ops.size → ∀ i, i < j → i ∉ (ahead[j]?).getD [] → inter (fp i).2 (fp j).1 = false ∧ inter (fp i).1 (fp j).2 = false
  objs : (V 0).objs.length = L
  ah : ahead = aheadTab ops.toList []
  sl : slots = slotTab L0 ops.toList
  len : L = L0 + slots.flatten.length
  tm : tmpsApart ops.toList ahead 0 ops.toList = true

section
variable {cx : Cx} {O : Orc cx} {ops : Array Oper} {ahead slots : List (List Nat)} {L0 L : Nat} {V : Nat → St} {fp : Nat → List Nat × List Nat}

theorem putObjs (st : St) (d : Option Nat) (v : AVal) : (st.put d v).objs = st.objs := by cases d <;> rfl
theorem putTmps_get (st : St) (d : Option Nat) (v : AVal) (x : Nat) : (st.put d v).tmps[x]? = if d = some x then (if x < st.tmps.length then some v else none) else st.tmps[x]? := by
  cases d with
  | none => simp [St.put]
  | some d =>
    simp only [St.put, List.getElem?_set, Option.some.injEq]
    by_cases e : d = x
    · subst e; rfl
    · simp [e]
theorem putTmps_len (st : St) (d : Option Nat) (v : AVal) : (st.put d v).tmps.length = st.tmps.length := by cases d <;> simp [St.put]

/-- An operation's own place. -/
theorem Lex.slot (X : Lex cx O ops ahead slots L0 L V fp) {j n : Nat} (hn : n ≤ ((slots[j]?).getD []).length) : ((slots[j]?).getD []).headD L + n ≤ L ∧ L0 ≤ ((slots[j]?).getD []).headD L ∧
    ∀ x, ((slots[j]?).getD []).headD L ≤ x → x < ((slots[j]?).getD []).headD L + n → x ∈ (slots[j]?).getD [] := by
  have hL := X.len
  cases h : slots[j]? with
  | none =>
    rw [h] at hn
    simp at hn
    subst hn
    refine ⟨by simp, by simp; omega, fun x h1 h2 => by omega⟩
  | some sl =>
    rw [h] at hn
    simp only [Option.getD_some] at hn ⊢
    obtain ⟨b, q, h1, h2, h3⟩ := (slotTab_spec ops.toList L0).1 j sl (by rw [← X.sl]; exact h)
    rw [← X.sl] at h3
    subst h1
    cases q with
    | zero =>
      simp at hn
      subst hn
      refine ⟨by simp, by simp; omega, fun x h1 h2 => by omega⟩
    | succ q =>
      simp at hn
      simp only [List.range'_succ, List.headD_cons]
      refine ⟨by omega, h2, fun x h4 h5 => ?_⟩
      rw [← List.range'_succ]
      exact List.mem_range'_1.2 ⟨h4, by omega⟩
theorem Lex.slot_low (X : Lex cx O ops ahead slots L0 L V fp) {j x : Nat} (hx : x ∈ (slots[j]?).getD []) : L0 ≤ x ∧ x < L := by
  have hL := X.len
  cases h : slots[j]? with
  | none => rw [h] at hx; cases hx
  | some sl =>
    rw [h] at hx
    obtain ⟨b, q, h1, h2, h3⟩ := (slotTab_spec ops.toList L0).1 j sl (by rw [← X.sl]; exact h)
    rw [← X.sl] at h3
    simp at hx
    subst h1
    have := List.mem_range'_1.1 hx
    omega
theorem Lex.slot_apart (X : Lex cx O ops ahead slots L0 L V fp) {i j x : Nat} (hi : x ∈ (slots[i]?).getD []) (hj : x ∈ (slots[j]?).getD []) : i = j := by
  cases h : slots[i]? with
  | none => rw [h] at hi; cases hi
  | some si =>
    cases h' : slots[j]? with
    | none => rw [h'] at hj; cases hj
    | some sj =>
      rw [h] at hi
      rw [h'] at hj
      by_cases e : i = j
      · exact e
      · exact absurd hj ((slotTab_spec ops.toList L0).2 i j si sj (by rw [← X.sl]; exact h) (by rw [← X.sl]; exact h') e x hi)

/-- What a step writes. -/
theorem moveO_len {L s n : Nat} {W : List Nat} {a b : List AObj} : (moveO L s n W a b).length = L := by simp [moveO]
theorem moveO_get {L s n : Nat} {W : List Nat} {a b : List AObj} {x : Nat} (hx : x < L) : (moveO L s n W a b)[x]? = some (bif W.contains x || (decide (s ≤ x) && decide (x < s + n)) then renO (posOf (moveIds L s n)) (objAt b (((moveIds L s n)[x]?).getD 0)) else objAt a x) := by
  simp [moveO, hx]
theorem objAt_getD {objs : List AObj} {x : Nat} (hx : x < objs.length) : objs[x]? = some (objAt objs x) := by simp [objAt, hx]
theorem Lex.lens (X : Lex cx O ops ahead slots L0 L V fp) : ∀ i, i ≤ ops.size → (V i).objs.length = L ∧ (V i).tmps.length = (V 0).tmps.length
  | 0, _ => ⟨X.objs, rfl⟩
  | i + 1, h => by
    obtain ⟨h1, h2⟩ := Lex.lens X i (by omega)
    obtain ⟨o, ho, hs⟩ := X.step i (by omega)
    rcases hs with ⟨_, e, _⟩ | ⟨_, ⟨objs1, v, _, _, _, e, _⟩, _, _⟩
    · rw [e, putObjs, putTmps_len]; exact ⟨h1, h2⟩
    · rw [e, putObjs, putTmps_len]; exact ⟨moveO_len, h2⟩
def TT (ops : Array Oper) (k x : Nat) : Prop := ∃ o, ops.toList[k]? = some o ∧ o.dst = some x
theorem Lex.vt (X : Lex cx O ops ahead slots L0 L V fp) : ∀ k, k < ops.size → ∀ x, ¬ TT ops k x → (V (k + 1)).tmps[x]? = (V k).tmps[x]? := fun k hk x hx => by
  obtain ⟨o, ho, hs⟩ := X.step k hk
  have hd : o.dst ≠ some x := fun e => hx ⟨o, ho, e⟩
  rcases hs with ⟨_, e, _⟩ | ⟨_, ⟨objs1, v, _, _, _, e, _⟩, _, _⟩
  · rw [e, putTmps_get, if_neg hd]
  · rw [e, putTmps_get, if_neg hd]
theorem Lex.vo (X : Lex cx O ops ahead slots L0 L V fp) : ∀ k, k < ops.size → ∀ x, ¬ x ∈ (fp k).2 → (V (k + 1)).objs[x]? = (V k).objs[x]? := fun k hk x hx => by
  obtain ⟨h1, _⟩ := X.lens k (by omega)
  obtain ⟨o, ho, hs⟩ := X.step k hk
  rcases hs with ⟨_, e, _⟩ | ⟨_, ⟨objs1, v, _, _, hq, e, _⟩, hf, _⟩
  · rw [e, putObjs]
  · rw [e, putObjs]
    by_cases hlt : x < L
    · obtain ⟨h3, h4, h5⟩ := X.slot hq
      rw [hf] at hx
      simp only [List.mem_append, not_or] at hx
      rw [moveO_get hlt, objAt_getD (objs := (V k).objs) (by omega)]
      have c1 : (wrIds cx (V k).ev (V k).objs o).contains x = false := by simpa using hx.2
      have c2 : (decide (((slots[k]?).getD []).headD L ≤ x) && decide (x < ((slots[k]?).getD []).headD L + (objs1.length - L))) = false := by
        cases hh : (decide (((slots[k]?).getD []).headD L ≤ x) && decide (x < ((slots[k]?).getD []).headD L + (objs1.length - L))) with
        | false => rfl
        | true =>
          simp only [Bool.and_eq_true, decide_eq_true_eq] at hh
          exact absurd (h5 x hh.1 hh.2) hx.1
      rw [c1, c2]; rfl
    · rw [List.getElem?_eq_none (by rw [moveO_len]; omega), List.getElem?_eq_none (by omega)]
theorem Lex.fp_sub (X : Lex cx O ops ahead slots L0 L V fp) {j : Nat} (hj : j < ops.size) {x : Nat} (hx : x ∈ (fp j).2) : x ∈ (fp j).1 := by
  obtain ⟨o, ho, hs⟩ := X.step j hj
  rcases hs with ⟨_, _, hf⟩ | ⟨_, _, hf, _⟩
  · rw [hf] at hx; cases hx
  · rw [hf] at hx ⊢; exact List.mem_append_left _ hx

/-- What a value may bear when some operations have come. -/
def PD (ops : Array Oper) (slots : List (List Nat)) (L0 : Nat) (listed : Array Bool) (i : Nat) : Bool := decide (i < L0) || (List.range ops.size).any fun j => listed.getD j false && ((slots[j]?).getD []).contains i
theorem PD_iff {listed : Array Bool} {i : Nat} : PD ops slots L0 listed i = true ↔ i < L0 ∨ ∃ j, j < ops.size ∧ listed.getD j false = true ∧ i ∈ (slots[j]?).getD [] := by
  simp [PD]

structure DInv (ops : Array Oper) (ahead slots : List (List Nat)) (L0 L : Nat) (V : Nat → St) (fp : Nat → List Nat × List Nat) (listed : Array Bool) (s : St) : Prop where
  size : listed.size = ops.size
  closed : ∀ j k, listed.getD j false = true → k ∈ (ahead[j]?).getD [] → listed.getD k false = true
  tl : s.tmps.length = (V 0).tmps.length
  ol : s.objs.length = L
  vt : VInv ops.size (fun i x => (V i).tmps[x]?) (TT ops) (fun k => listed.getD k false = true) (fun x => s.tmps[x]?)
  vo : VInv ops.size (fun i x => (V i).objs[x]?) (fun k x => x ∈ (fp k).2) (fun k => listed.getD k false = true) (fun x => s.objs[x]?)
  ft : ∀ (x : Nat) (v : AVal), s.tmps[x]? = some v → fits (PD ops slots L0 listed) 3 v = true
  fo : ∀ (x : Nat) (ob : AObj), s.objs[x]? = some ob → fitsO (PD ops slots L0 listed) ob = true

theorem DInv.lt {listed : Array Bool} {s : St} (I : DInv ops ahead slots L0 L V fp listed s) {k : Nat} (h : listed.getD k false = true) : k < ops.size := by
  rw [← I.size]
  by_cases hk : k < listed.size
  · exact hk
  · rw [Array.getD_eq_getD_getElem?, Array.getElem?_eq_none (by omega)] at h; cases h

/-- One operation that may come. -/
structure May (ops : Array Oper) (ahead : List (List Nat)) (listed : Array Bool) (j : Nat) (o : Oper) : Prop where
  lt : j < ops.size
  op : ops.toList[j]? = some o
  un : ¬ listed.getD j false = true
  ah : ∀ k ∈ (ahead[j]?).getD [], listed.getD k false = true

theorem DInv.may {listed : Array Bool} {s : St} (X : Lex cx O ops ahead slots L0 L V fp) (I : DInv ops ahead slots L0 L V fp listed s) {j : Nat} (h : j ∈ Region.ready .any ops listed) : ∃ o, May ops ahead listed j o := by
  obtain ⟨h1, o, h2, h3⟩ := mem_ready.1 h
  have hj : j < ops.size := (Array.getElem?_eq_some_iff.1 h2).1
  have h4 : ops.toList[j]? = some o := by simpa using h2
  refine ⟨o, hj, h4, ?_, fun k hk => ?_⟩
  · rw [Array.getD_eq_getD_getElem?] at h1 ⊢
    rw [Array.getElem?_eq_getElem (by rw [I.size]; exact hj)] at h1 ⊢
    simp at h1
    simp [h1]
  · have := (aheadTab_spec ops.toList []).2 j o k h4 (by simpa [← X.ah] using hk)
    obtain ⟨e, he, hb, h5⟩ := this
    have h6 := h3 e (by simpa using he) hb
    rcases h5 with rfl | h5
    · exact h6
    · exact I.closed e.on k h6 (by rw [X.ah]; exact h5)

theorem DInv.hcT {listed : Array Bool} {s : St} (X : Lex cx O ops ahead slots L0 L V fp) (I : DInv ops ahead slots L0 L V fp listed s) {j : Nat} {o : Oper} (M : May ops ahead listed j o) {x : Nat} (hx : o.dst = some x ∨ x ∈ rdTmps ops.toList o) :
    ∀ k, k < ops.size → k ≠ j → TT ops k x → (k < j → listed.getD k false = true) ∧ (j < k → ¬ listed.getD k false = true) := fun k hk hne ht => by
  obtain ⟨p, hp, hpd⟩ := ht
  have sp := tmpsApart_spec ops.toList ahead ops.toList 0 X.tm
  refine ⟨fun hkj => ?_, fun hjk hl => ?_⟩
  · by_cases hm : k ∈ (ahead[j]?).getD []
    · exact M.ah k hm
    · have := ((sp j o M.op).2 k p (by omega) hp (by rw [Nat.zero_add]; exact hm)).1
      refine (not_inter this (x := x) (by simp [hpd]) ?_).elim
      rcases hx with hx | hx
      · simp [hx]
      · simp [hx]
  · by_cases hm : j ∈ (ahead[k]?).getD []
    · exact M.un (I.closed k j hl hm)
    · have := (sp k p hp).2 j o (by omega) M.op (by rw [Nat.zero_add]; exact hm)
      rcases hx with hx | hx
      · exact not_inter this.1 (x := x) (by simp [hx]) (by simp [hpd])
      · exact not_inter this.2 (x := x) (by simp [hpd]) hx
theorem DInv.hcO {listed : Array Bool} {s : St} (X : Lex cx O ops ahead slots L0 L V fp) (I : DInv ops ahead slots L0 L V fp listed s) {j : Nat} {o : Oper} (M : May ops ahead listed j o) {x : Nat} (hx : x ∈ (fp j).1) :
    ∀ k, k < ops.size → k ≠ j → x ∈ (fp k).2 → (k < j → listed.getD k false = true) ∧ (j < k → ¬ listed.getD k false = true) := fun k hk hne ht => by
  refine ⟨fun hkj => ?_, fun hjk hl => ?_⟩
  · by_cases hm : k ∈ (ahead[j]?).getD []
    · exact M.ah k hm
    · exact (not_inter (X.apart j M.lt k hkj hm).1 ht hx).elim
  · by_cases hm : j ∈ (ahead[k]?).getD []
    · exact M.un (I.closed k j hl hm)
    · exact not_inter (X.apart k hk j hjk hm).2 hx ht
theorem DInv.tmp {listed : Array Bool} {s : St} (X : Lex cx O ops ahead slots L0 L V fp) (I : DInv ops ahead slots L0 L V fp listed s) {j : Nat} {o : Oper} (M : May ops ahead listed j o) {x : Nat} (hx : o.dst = some x ∨ x ∈ rdTmps ops.toList o) : s.tmps[x]? = (V j).tmps[x]? :=
  I.vt.read (fun k hk => I.lt hk) M.lt M.un (I.hcT X M hx)
theorem DInv.obj {listed : Array Bool} {s : St} (X : Lex cx O ops ahead slots L0 L V fp) (I : DInv ops ahead slots L0 L V fp listed s) {j : Nat} {o : Oper} (M : May ops ahead listed j o) {x : Nat} (hx : x ∈ (fp j).1) : s.objs[x]? = (V j).objs[x]? :=
  I.vo.read (fun k hk => I.lt hk) M.lt M.un (I.hcO X M hx)
theorem DInv.ev {listed : Array Bool} {s : St} (X : Lex cx O ops ahead slots L0 L V fp) (I : DInv ops ahead slots L0 L V fp listed s) {j : Nat} {o : Oper} (M : May ops ahead listed j o) : ∀ x ∈ o.op.operands, s.ev x = (V j).ev x := fun x hx => by
  cases x with
  | tmp t =>
    simp only [St.ev]
    rw [I.tmp X M (.inr (List.mem_append_left _ (List.mem_filterMap.2 ⟨.tmp t, by simpa using hx, rfl⟩)))]
  | _ => rfl

theorem PD_next {listed : Array Bool} {s : St} (I : DInv ops ahead slots L0 L V fp listed s) {j : Nat} (hj : j < ops.size) : ∀ i, PD ops slots L0 listed i = true → PD ops slots L0 (listed.setIfInBounds j true) i = true := fun i h => by
  rw [PD_iff] at h ⊢
  rcases h with h | ⟨k, h1, h2, h3⟩
  · exact .inl h
  · exact .inr ⟨k, h1, (getD_listed (by rw [I.size]; exact hj)).2 (.inl h2), h3⟩
theorem PD_own {listed : Array Bool} {s : St} (I : DInv ops ahead slots L0 L V fp listed s) {j : Nat} {o : Oper} (M : May ops ahead listed j o) :
    ∀ i, (decide (i < L0) || (((slots[j]?).getD []) ++ ((ahead[j]?).getD []).flatMap fun j => (slots[j]?).getD []).contains i) = true → PD ops slots L0 (listed.setIfInBounds j true) i = true := fun i h => by
  rw [PD_iff]
  simp only [Bool.or_eq_true, decide_eq_true_eq, List.contains_iff_mem, List.mem_append] at h
  have hsz : j < listed.size := by rw [I.size]; exact M.lt
  rcases h with h | h | h
  · exact .inl h
  · exact .inr ⟨j, M.lt, (getD_listed hsz).2 (.inr rfl), h⟩
  · obtain ⟨k, hk, hi⟩ := List.mem_flatMap.1 h
    have h1 := M.ah k hk
    exact .inr ⟨k, I.lt h1, (getD_listed hsz).2 (.inl h1), hi⟩

theorem DInv.next {listed : Array Bool} {s s' : St} (X : Lex cx O ops ahead slots L0 L V fp) (I : DInv ops ahead slots L0 L V fp listed s) {j : Nat} {o : Oper} (M : May ops ahead listed j o)
    (htl : s'.tmps.length = s.tmps.length) (hol : s'.objs.length = L) (ht1 : ∀ x, o.dst = some x → s'.tmps[x]? = (V (j + 1)).tmps[x]?) (ht2 : ∀ x, o.dst ≠ some x → s'.tmps[x]? = s.tmps[x]?)
    (ho1 : ∀ x, x ∈ (fp j).2 → s'.objs[x]? = (V (j + 1)).objs[x]?) (ho2 : ∀ x, x ∉ (fp j).2 → s'.objs[x]? = s.objs[x]?)
    (hf1 : ∀ (x : Nat) (v : AVal), o.dst = some x → s'.tmps[x]? = some v → fits (PD ops slots L0 (listed.setIfInBounds j true)) 3 v = true)
    (hf2 : ∀ (x : Nat) (ob : AObj), x ∈ (fp j).2 → s'.objs[x]? = some ob → fitsO (PD ops slots L0 (listed.setIfInBounds j true)) ob = true) :
    DInv ops ahead slots L0 L V fp (listed.setIfInBounds j true) s' := by
  have hsz : j < listed.size := by rw [I.size]; exact M.lt
  refine ⟨by simp [I.size], fun i k hi hk => ?_, htl.trans I.tl, hol, ?_, ?_, fun x v hv => ?_, fun x ob hv => ?_⟩
  · rw [getD_listed hsz] at hi ⊢
    rcases hi with hi | rfl
    · exact .inl (I.closed i k hi hk)
    · exact .inl (M.ah k hk)
  · refine I.vt.step X.vt M.lt M.un (fun k => getD_listed hsz) (fun x hx k h1 h2 h3 => ?_) (fun x hx => ?_) fun x hx => ?_
    · obtain ⟨o', h4, h5⟩ := hx
      rw [M.op] at h4; cases h4
      exact I.hcT X M (.inl h5) k h1 h2 h3
    · obtain ⟨o', h4, h5⟩ := hx
      rw [M.op] at h4; cases h4
      exact ht1 x h5
    · exact ht2 x fun e => hx ⟨o, M.op, e⟩
  · exact I.vo.step X.vo M.lt M.un (fun k => getD_listed hsz) (fun x hx k h1 h2 h3 => I.hcO X M (X.fp_sub M.lt hx) k h1 h2 h3) ho1 ho2
  · by_cases e : o.dst = some x
    · exact hf1 x v e hv
    · rw [ht2 x e] at hv
      exact fits_mono (PD_next I M.lt) 3 v (I.ft x v hv)
  · by_cases e : x ∈ (fp j).2
    · exact hf2 x ob e hv
    · rw [ho2 x e] at hv
      exact fitsO_mono (PD_next I M.lt) (I.fo x ob hv)
end
end Go.Ev
