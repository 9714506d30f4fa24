/-
  THE EVALUATOR, PART 5: the table of types against the program's; loads; operations that touch no memory.
-/
import Derived.Test.YtpkhhaolkfaoaaaHpEvD
set_option linter.unusedVariables false
set_option linter.unusedSimpArgs false
set_option linter.unusedSectionVars false
namespace Go.Ev

def zeroB : AVal → Value → Bool
  | .undef, _ => true
  | .int k n, .int k' n' => decide (k = k') && n == n' && n == 0
  | .bool b, .bool b' => b == b'
  | .str [], .string s => s.size == 0
  | .nils, .slice none 0 0 => true
  | .nilp, .pointer none => true
  | .nilf, .nilFunc => true
  | .nilm, .map none => true
  | _, _ => false
def zerosB : List AVal → List Value → Bool
  | [], [] => true
  | c :: cs, v :: vs => zeroB c v && zerosB cs vs
  | _, _ => false
def fieldsB (P : Program) (cx : Cx) : List (Nat × Nat) → List Field → Bool → Bool
  | [], [], _ => true
  | (o, t) :: fs, f :: gs, eq => f.offset == o && f.type == t && (match P.info? t with | some i => i.size == cellsK (cx.kind t) && i.size != 0 | none => false) &&
      (!eq || (f.name != "_" && (match cx.kind t with | .int _ | .bool | .str => true | _ => false))) && fieldsB P cx fs gs eq
  | _, _, _ => false
def oneB (P : Program) (t : Nat) (z : AVal) : Bool :=
  match P.info? t with
  | some i => i.size == 1 && (match i.zero with | some v => zeroB z v && v.oneCell' | none => false)
  | none => false
/-- Is the table's entry the program's? -/
def kindB (P : Program) (cx : Cx) (t : Nat) : Bool :=
  match cx.kind t with
  | .int k => (match P.underlying t with | some (.int k') => decide (k' = k) | _ => false) && oneB P t (.int k 0)
  | .bool => (match P.underlying t with | some .bool => true | _ => false) && oneB P t (.bool false)
  | .str => (match P.underlying t with | some .string => true | _ => false) && oneB P t (.str [])
  | .sl ty e sz bytes => (match P.underlying t with | some (.slice e') => e' == e | _ => false) && oneB P t .nils &&
      (match P.info? e with | some i => i.size == sz && sz == ty.size && i.bytes == bytes && bytes != 0 && (match i.zero with | some z => z.cells.size == sz | none => false) | none => false) &&
      (match ty with | .u8 => (match P.underlying e with | some (.int .u8) => true | _ => false) | _ => true)
  | .st fs sz ss zero eq => (match P.underlying t with | some (.struct fields) => fieldsB P cx fs fields.toList eq | _ => false) &&
      (match P.info? t with | some i => i.size == sz && (match i.zero with | some (.agg z) => zerosB zero z.toList && z.size == sz && ss.length == sz | _ => false) | none => false) &&
      (!eq || (fs.length == sz && !P.stoodInHeld t && !P.eqGuardType P.depth t && fs.map (·.1) == List.range sz))
  | .ptr e => (match P.underlying t with | some (.pointer e') => e' == e | _ => false) && oneB P t .nilp
  | .fn => (match P.underlying t with | some (.func _ _ _) => true | _ => false) && oneB P t .nilf
  | .mp _ _ k e => (match P.underlying t with | some (.map k' e') => k' == k && e' == e | _ => false) && oneB P t .nilm
  | .other => true
def Cx.ok (cx : Cx) : Bool := ((List.range cx.kinds.length).all (kindB cx.prog cx) && cx.prog.follows .mixedOrders) && cx.prog.funcs.all fun fn => !(fn.name == "runtime.NumGoroutine")

theorem Cx.kindOk {cx : Cx} (h : cx.ok = true) (t : Nat) : kindB cx.prog cx t = true := by
  unfold Cx.ok at h
  rw [Bool.and_eq_true] at h
  have h := h.1
  rw [Bool.and_eq_true, List.all_eq_true] at h
  by_cases ht : t < cx.kinds.length
  · exact h.1 t (by simpa using ht)
  · have : cx.kind t = .other := by unfold Cx.kind; rw [List.getElem?_eq_none (by omega)]; rfl
    unfold kindB; rw [this]

section
variable {cx : Cx}
theorem k_one {t : Nat} {z : AVal} (hb : oneB cx.prog t z = true) : ∃ i v, cx.prog.info? t = some i ∧ i.size = 1 ∧ i.zero = some v ∧ zeroB z v = true ∧ v.oneCell' = true := by
  unfold oneB at hb
  split at hb
  · rename_i i hi
    simp only [Bool.and_eq_true, beq_iff_eq] at hb
    obtain ⟨h1, h2⟩ := hb
    split at h2
    · rename_i v hv
      simp only [Bool.and_eq_true] at h2
      exact ⟨i, v, hi, h1, hv, h2.1, h2.2⟩
    · cases h2
  · cases hb
theorem k_int (h : cx.ok = true) {t : Nat} {k : IntKind} (hk : cx.kind t = .int k) : cx.prog.underlying t = some (.int k) ∧ oneB cx.prog t (.int k 0) = true := by
  have := Cx.kindOk h t
  unfold kindB at this; rw [hk] at this; simp only [Bool.and_eq_true] at this
  obtain ⟨h1, h2⟩ := this
  refine ⟨?_, h2⟩
  split at h1
  · rename_i k' hu; rw [hu]; simpa using h1
  · cases h1
theorem k_bool (h : cx.ok = true) {t : Nat} (hk : cx.kind t = .bool) : cx.prog.underlying t = some .bool ∧ oneB cx.prog t (.bool false) = true := by
  have := Cx.kindOk h t
  unfold kindB at this; rw [hk] at this; simp only [Bool.and_eq_true] at this
  obtain ⟨h1, h2⟩ := this
  refine ⟨?_, h2⟩
  split at h1
  · rename_i hu; exact hu
  · cases h1
theorem k_str (h : cx.ok = true) {t : Nat} (hk : cx.kind t = .str) : cx.prog.underlying t = some .string ∧ oneB cx.prog t (.str []) = true := by
  have := Cx.kindOk h t
  unfold kindB at this; rw [hk] at this; simp only [Bool.and_eq_true] at this
  obtain ⟨h1, h2⟩ := this
  refine ⟨?_, h2⟩
  split at h1
  · rename_i hu; exact hu
  · cases h1
theorem k_sl (h : cx.ok = true) {t : Nat} {ty : Ty} {e sz bytes : Nat} (hk : cx.kind t = .sl ty e sz bytes) : cx.prog.underlying t = some (.slice e) ∧ oneB cx.prog t .nils = true ∧
    ∃ i z, cx.prog.info? e = some i ∧ i.size = sz ∧ sz = ty.size ∧ i.bytes = bytes ∧ 0 < bytes ∧ i.zero = some z ∧ z.cells.size = sz := by
  have := Cx.kindOk h t
  unfold kindB at this; rw [hk] at this; simp only [Bool.and_eq_true] at this
  obtain ⟨⟨⟨h1, h2⟩, h3⟩, _⟩ := this
  refine ⟨?_, h2, ?_⟩
  · split at h1
    · rename_i e' hu; rw [hu]; simpa using h1
    · cases h1
  · split at h3
    · rename_i i hi
      simp only [Bool.and_eq_true, beq_iff_eq, bne_iff_ne] at h3
      obtain ⟨⟨⟨⟨a, b⟩, c⟩, d⟩, f⟩ := h3
      split at f
      · rename_i z hz
        exact ⟨i, z, hi, a, b, c, by omega, hz, by simpa using f⟩
      · cases f
    · cases h3
theorem k_u8 (h : cx.ok = true) {t e sz bytes : Nat} (hk : cx.kind t = .sl .u8 e sz bytes) : cx.prog.underlying e = some (.int .u8) := by
  have := Cx.kindOk h t
  unfold kindB at this; rw [hk] at this; simp only [Bool.and_eq_true] at this
  obtain ⟨_, h3⟩ := this
  split at h3
  · assumption
  · cases h3
theorem k_ptr (h : cx.ok = true) {t e : Nat} (hk : cx.kind t = .ptr e) : cx.prog.underlying t = some (.pointer e) ∧ oneB cx.prog t .nilp = true := by
  have := Cx.kindOk h t
  unfold kindB at this; rw [hk] at this; simp only [Bool.and_eq_true] at this
  obtain ⟨h1, h2⟩ := this
  refine ⟨?_, h2⟩
  split at h1
  · rename_i k' hu; rw [hu]; simpa using h1
  · cases h1
theorem k_fn (h : cx.ok = true) {t : Nat} (hk : cx.kind t = .fn) : (∃ a b c, cx.prog.underlying t = some (.func a b c)) ∧ oneB cx.prog t .nilf = true := by
  have := Cx.kindOk h t
  unfold kindB at this; rw [hk] at this; simp only [Bool.and_eq_true] at this
  obtain ⟨h1, h2⟩ := this
  refine ⟨?_, h2⟩
  split at h1
  · rename_i a b c hu; exact ⟨a, b, c, hu⟩
  · cases h1
theorem k_mp (h : cx.ok = true) {t k e : Nat} {kt vt : Ty} (hk : cx.kind t = .mp kt vt k e) : cx.prog.underlying t = some (.map k e) ∧ oneB cx.prog t .nilm = true := by
  have := Cx.kindOk h t
  unfold kindB at this; rw [hk] at this; simp only [Bool.and_eq_true] at this
  obtain ⟨h1, h2⟩ := this
  refine ⟨?_, h2⟩
  split at h1
  · rename_i k' e' hu; rw [hu]; simpa using h1
  · cases h1
theorem fieldsB_get {P : Program} {eq : Bool} : ∀ (fs : List (Nat × Nat)) (gs : List Field), fieldsB P cx fs gs eq = true → fs.length = gs.length ∧ ∀ (i o t : Nat), fs[i]? = some (o, t) →
    ∃ f j, gs[i]? = some f ∧ f.offset = o ∧ f.type = t ∧ P.info? t = some j ∧ j.size = cellsK (cx.kind t) ∧ j.size ≠ 0 ∧
      (eq = true → f.name ≠ "_" ∧ (match cx.kind t with | .int _ | .bool | .str => true | _ => false) = true)
  | [], [], _ => ⟨rfl, by simp⟩
  | [], _ :: _, h => by simp [fieldsB] at h
  | _ :: _, [], h => by simp [fieldsB] at h
  | (o, t) :: fs, f :: gs, hb => by
    simp only [fieldsB, Bool.and_eq_true, beq_iff_eq, Bool.or_eq_true, Bool.not_eq_true', bne_iff_ne] at hb
    obtain ⟨⟨⟨⟨h1, h2⟩, h3⟩, h4⟩, h5⟩ := hb
    obtain ⟨l, ih⟩ := fieldsB_get fs gs h5
    refine ⟨by simp [l], fun i o' t' hi => ?_⟩
    cases i with
    | zero =>
      simp only [List.getElem?_cons_zero, Option.some.injEq, Prod.mk.injEq] at hi
      obtain ⟨rfl, rfl⟩ := hi
      split at h3
      · rename_i j hj
        simp only [Bool.and_eq_true, beq_iff_eq, bne_iff_ne] at h3
        exact ⟨f, j, rfl, h1, h2, hj, h3.1, h3.2, fun he => by rcases h4 with h4 | h4; (· rw [he] at h4; cases h4); exact h4⟩
      · cases h3
    | succ i => simpa using ih i o' t' (by simpa using hi)
theorem k_st (h : cx.ok = true) {t sz : Nat} {fs : List (Nat × Nat)} {ss : List (Option Ty)} {zero : List AVal} {eq : Bool} (hk : cx.kind t = .st fs sz ss zero eq) :
    (∃ fields, cx.prog.underlying t = some (.struct fields) ∧ fieldsB cx.prog cx fs fields.toList eq = true) ∧
    (∃ i z, cx.prog.info? t = some i ∧ i.size = sz ∧ i.zero = some (.agg z) ∧ zerosB zero z.toList = true ∧ z.size = sz ∧ ss.length = sz) ∧
    (eq = true → fs.length = sz ∧ cx.prog.stoodInHeld t = false ∧ cx.prog.eqGuardType cx.prog.depth t = false ∧ fs.map (·.1) = List.range sz) := by
  have := Cx.kindOk h t
  unfold kindB at this; rw [hk] at this; simp only [Bool.and_eq_true] at this
  obtain ⟨⟨h1, h2⟩, h3⟩ := this
  refine ⟨?_, ?_, ?_⟩
  · split at h1
    · rename_i fields hu; exact ⟨fields, hu, h1⟩
    · cases h1
  · split at h2
    · rename_i i hi
      simp only [Bool.and_eq_true, beq_iff_eq] at h2
      obtain ⟨a, b⟩ := h2
      split at b
      · rename_i z hz
        simp only [Bool.and_eq_true, beq_iff_eq] at b
        exact ⟨i, z, hi, a, hz, b.1.1, b.1.2, b.2⟩
      · cases b
    · cases h2
  · intro he
    subst he
    simp only [Bool.not_true, Bool.false_or, Bool.and_eq_true, beq_iff_eq, Bool.not_eq_true'] at h3
    exact ⟨h3.1.1.1, h3.1.1.2, h3.1.2, h3.2⟩
end

theorem Cx.nameOk {cx : Cx} (h : cx.ok = true) {f : Nat} {fn : Func} (hf : cx.prog.funcs[f]? = some fn) : (fn.name == "runtime.NumGoroutine") = false := by
  unfold Cx.ok at h
  rw [Bool.and_eq_true, Array.all_eq_true_iff_forall_mem] at h
  have := h.2 fn (Array.mem_of_getElem? hf)
  simpa using this
theorem run_underlying' {P : Program} {t : Nat} {d : TypeDesc} (h : P.underlying t = some d) (w : World) : (underlying t).run P w = .ok d w := by
  simp [underlying, h]
theorem run_typeInfo' {P : Program} {t : Nat} {i : TypeInfo} (h : P.info? t = some i) (w : World) : (typeInfo t).run P w = .ok i w := by
  simp [typeInfo, h]
theorem run_sizeOf' {P : Program} {t : Nat} {i : TypeInfo} (h : P.info? t = some i) (w : World) : (sizeOf t).run P w = .ok i.size w := by
  simp [sizeOf, run_typeInfo' h]
theorem run_zeroValue' {P : Program} {t : Nat} {i : TypeInfo} {z : Value} (h : P.info? t = some i) (hz : i.zero = some z) (w : World) : (zeroValue t).run P w = .ok z w := by
  simp [zeroValue, run_typeInfo' h, hz]

/-- Cells that lie in a row from an address on. -/
def RowAt (β : List Loc) (objs : List AObj) (w : World) (N : Nat → Nat → Prop) (cs : List AVal) (ad : Addr) : Prop :=
  ∃ val : Nat → Value, (∀ j, j < cs.length → w.cell? (ad.add j) = some (val j)) ∧ ∀ (j : Nat) (c : AVal), cs[j]? = some c → RelV β objs w N c (val j)
theorem add_add (ad : Addr) (i j : Nat) : (ad.add i).add j = ad.add (i + j) := by
  unfold Addr.add
  by_cases hi : i = 0 <;> by_cases hj : j = 0 <;> simp_all [Nat.add_assoc]
theorem add_zero (ad : Addr) : ad.add 0 = ad := rfl
theorem RowAt.drop {β : List Loc} {objs : List AObj} {w : World} {N : Nat → Nat → Prop} {cs : List AVal} {ad : Addr} (h : RowAt β objs w N cs ad) (o : Nat) : RowAt β objs w N (cs.drop o) (ad.add o) := by
  obtain ⟨val, hc, hr⟩ := h
  refine ⟨fun j => val (o + j), fun j hj => ?_, fun j c hj => ?_⟩
  · rw [add_add]; exact hc _ (by simp at hj; omega)
  · exact hr _ c (by rwa [List.getElem?_drop] at hj)

theorem loadAs_run {cx : Cx} (hok : cx.ok = true) {β : List Loc} {objs : List AObj} {w : World} {N : Nat → Nat → Prop} {cs : List AVal} {ad : Addr} (h : RowAt β objs w N cs ad) {t : Nat} {c : AVal}
    (hl : loadAs (cx.kind t) cs = some c) : ∃ v, (loadVar t ad).run cx.prog w = .ok v w ∧ RelV β objs w N c v := by
  obtain ⟨val, hc, hr⟩ := h
  have plain : ∀ d, cx.prog.underlying t = some d → (match d with | .struct _ | .array _ _ => true | _ => false) = false → cs.head? = some c → ∃ v, (loadVar t ad).run cx.prog w = .ok v w ∧ RelV β objs w N c v := by
    intro d hd hna hh
    cases cs with
    | nil => cases hh
    | cons x cs =>
      simp only [List.head?_cons, Option.some.injEq] at hh
      subst hh
      have h0 := hc 0 (by simp)
      rw [add_zero] at h0
      refine ⟨val 0, ?_, hr 0 _ rfl⟩
      have : (isAgg t).run cx.prog w = .ok false w := by
        simp only [isAgg, Sem.run_bind, run_underlying' hd, Result.andThen_ok]
        cases d <;> simp_all
      simp [loadVar, this, h0]
  unfold loadAs at hl
  cases hk : cx.kind t with
  | st fs sz ss zero eq =>
    rw [hk] at hl
    obtain ⟨⟨fields, hu, _⟩, ⟨i, z, hi, hs, _⟩, _⟩ := k_st hok hk
    simp only [cond_eq_ite, decide_eq_true_eq] at hl
    split at hl
    · rename_i hle
      cases hl
      refine ⟨.agg ((List.range sz).map val).toArray, ?_, .agg (by simp; omega) fun j c v hj hv => ?_⟩
      · have : (isAgg t).run cx.prog w = .ok true w := by simp [isAgg, run_underlying' hu]
        have hlc := run_loadCells (P := cx.prog) w ad sz val (fun j hj => hc j (by omega))
        simp [loadVar, this, run_sizeOf' hi, hs, hlc]
      · have hj2 : cs[j]? = some c := by
          rw [List.getElem?_take] at hj; split at hj
          · exact hj
          · cases hj
        have hjs : j < sz := by
          rw [List.getElem?_take] at hj; split at hj
          · assumption
          · cases hj
        have : v = val j := by simp [hjs] at hv; exact hv.symm
        rw [this]; exact hr j c hj2
    · cases hl
  | int k => rw [hk] at hl; exact plain _ (k_int hok hk).1 rfl hl
  | bool => rw [hk] at hl; exact plain _ (k_bool hok hk).1 rfl hl
  | str => rw [hk] at hl; exact plain _ (k_str hok hk).1 rfl hl
  | sl ty e sz bytes => rw [hk] at hl; exact plain _ (k_sl hok hk).1 rfl hl
  | ptr e => rw [hk] at hl; exact plain _ (k_ptr hok hk).1 rfl hl
  | fn => rw [hk] at hl; obtain ⟨⟨a, b, c', hu⟩, _⟩ := k_fn hok hk; exact plain _ hu rfl hl
  | mp kt vt k e => rw [hk] at hl; exact plain _ (k_mp hok hk).1 rfl hl
  | other => rw [hk] at hl; cases hl
end Go.Ev
