/-
  THE EVALUATOR, PART 6: binary and unary operations.
-/
import Derived.Test.YtpkhhaolkfaoaaaHpEvE
import Derived.Laws.StructEq
set_option linter.unusedVariables false
set_option linter.unusedSimpArgs false
set_option linter.unusedSectionVars false
namespace Go.Ev

theorem ba_beq' (s t : Bytes) : ((⟨s.toArray⟩ : ByteArray) == ⟨t.toArray⟩) = (s == t) := by
  have : ∀ (a b : ByteArray), (a == b) = (a.data == b.data) := fun a b => by cases a; cases b; rfl
  rw [this]
  simp
theorem toList_mk (s : Bytes) : (⟨s.toArray⟩ : ByteArray).toList = s := by
  have : ∀ (b : ByteArray), b.toList = b.data.toList := by
    intro b
    have key : ∀ (n i : Nat) (r : List UInt8), b.size - i = n → ByteArray.toList.loop b i r = r.reverse ++ b.data.toList.drop i := by
      intro n
      induction n with
      | zero =>
        intro i r h
        unfold ByteArray.toList.loop
        rw [if_neg (by omega)]
        have : b.data.toList.length ≤ i := by
          have : b.size = b.data.toList.length := (Array.length_toList).symm
          omega
        simp [List.drop_eq_nil_of_le this]
      | succ n ih =>
        intro i r h
        unfold ByteArray.toList.loop
        rw [if_pos (by omega), ih (i + 1) _ (by omega)]
        have hlt : i < b.data.toList.length := by
          have : b.size = b.data.toList.length := (Array.length_toList).symm
          omega
        rw [List.drop_eq_getElem_cons hlt]
        have : b.get! i = b.data.toList[i] := by
          simp [ByteArray.get!]
          simp at hlt
          simp [getElem!_pos, hlt]
        simp [this]
    have := key b.size 0 [] (by omega)
    simpa [ByteArray.toList] using this
  rw [this]

section
variable {cx : Cx} {β : List Loc} {objs : List AObj} {w : World} {N : Nat → Nat → Prop}

theorem wrap_u8 (n : Int) : 0 ≤ IntKind.u8.wrap n ∧ IntKind.u8.wrap n < 256 := by
  have h1 : IntKind.u8.wrap n = n % 256 := by simp [IntKind.wrap, IntKind.bits, IntKind.signed]
  rw [h1]; omega
theorem RelV.wrap (k : IntKind) (n : Int) : RelV β objs w N (.int k (k.wrap n)) (.int k (k.wrap n)) := .int fun h => by subst h; exact wrap_u8 n

theorem run_eqGuard_plain {P : Program} {op : BinOp} {t : Nat} {x y : Operand} {a b : Value} (h1 : ∀ p q, ¬ (a = .agg p ∧ b = .agg q)) (h2 : ¬ (a = .nilIface ∧ b = .nilIface)) (w : World) :
    (eqGuard op t x y a b).run P w = .ok () w := by
  have key : ∀ (z : Sem Unit), z = pure () → z.run P w = .ok () w := by rintro _ rfl; rfl
  unfold eqGuard
  cases op <;> first
    | rfl
    | (cases a <;> cases b <;> first | rfl | exact absurd ⟨rfl, rfl⟩ h2 | exact absurd ⟨rfl, rfl⟩ (h1 _ _))

theorem aeqCell_run {P : Program} {t d : Nat} {c c' : AVal} {v v' : Value} {r : Bool} (hu : match c with | .int _ _ => ∃ k, P.underlying t = some (.int k) | .bool _ => P.underlying t = some .bool | .str _ => P.underlying t = some .string | _ => True)
    (hk : ∀ k n k' n', c = .int k n → c' = .int k' n' → k = k')
    (h : eqCell c c' = some r) (hc : RelV β objs w N c v) (hc' : RelV β objs w N c' v') : (Op.equalIn (d + 1) t v v').run P w = .ok r w := by
  cases c <;> cases c' <;> simp only [eqCell] at h <;> try cases h
  · cases hc; cases hc'
    obtain ⟨k, hu⟩ := hu
    obtain rfl := hk _ _ _ _ rfl rfl
    simp [Op.equalIn, run_underlying' hu]
  · cases hc; cases hc'
    simp [Op.equalIn, run_underlying' hu]
  · cases hc; cases hc'
    simp only [Op.equalIn, Sem.run_bind, run_underlying' hu, Result.andThen_ok, Sem.run_pure]
    rename_i s s'
    rw [ba_beq']

theorem isAgg_scalar (hok : cx.ok = true) {t : Nat} (hs : (match cx.kind t with | .int _ | .bool | .str => true | _ => false) = true) (w : World) : (isAgg t).run cx.prog w = .ok false w := by
  cases hk : cx.kind t <;> rw [hk] at hs <;> try cases hs
  · simp [isAgg, run_underlying' (k_int hok hk).1]
  · simp [isAgg, run_underlying' (k_bool hok hk).1]
  · simp [isAgg, run_underlying' (k_str hok hk).1]

theorem eqFields_run (hok : cx.ok = true) {d : Nat} {cs cs' : List AVal} {xs ys : Array Value} (hx : RelL β objs w N cs xs) (hy : RelL β objs w N cs' ys)
    (hty : ∀ (i : Nat) (c : AVal), cs[i]? = some c → True) : ∀ (fs : List Field) (k : Nat) (r : Bool),
    (∀ (i : Nat) (f : Field), fs[i]? = some f → f.offset = k + i ∧ f.name ≠ "_" ∧ (match cx.kind f.type with | .int _ | .bool | .str => true | _ => false) = true ∧
      ∀ c c', cs[k + i]? = some c → cs'[k + i]? = some c' → (match c with | .int j _ => (∃ n', c' = .int j n') ∧ ∃ q, cx.kind f.type = .int q | .bool _ => cx.kind f.type = .bool | .str _ => cx.kind f.type = .str | _ => True)) →
    cs.length = k + fs.length → cs'.length = k + fs.length → eqCells (cs.drop k) (cs'.drop k) = some r → (Op.eqFields (d + 1) xs ys fs).run cx.prog w = .ok r w := by
  intro fs
  induction fs with
  | nil =>
    intro k r _ h1 h2 he
    simp only [List.length_nil, Nat.add_zero] at h1 h2
    rw [List.drop_eq_nil_of_le (by omega), List.drop_eq_nil_of_le (by omega)] at he
    simp only [eqCells, Option.some.injEq] at he
    subst he
    simp [Op.eqFields]
  | cons f fs ih =>
    intro k r hf h1 h2 he
    simp only [List.length_cons] at h1 h2
    obtain ⟨ho, hn, hs, hc⟩ := hf 0 f rfl
    simp only [Nat.add_zero] at ho hc
    have e1 : cs[k]? = some (cs[k]'(by omega)) := by simp [show k < cs.length by omega]
    have e2 : cs'[k]? = some (cs'[k]'(by omega)) := by simp [show k < cs'.length by omega]
    have x1 : xs[k]? = some (xs[k]'(by have := hx.1; omega)) := by simp [show k < xs.size by have := hx.1; omega]
    have y1 : ys[k]? = some (ys[k]'(by have := hy.1; omega)) := by simp [show k < ys.size by have := hy.1; omega]
    have hr1 := hx.2 _ _ _ e1 x1
    have hr2 := hy.2 _ _ _ e2 y1
    have hd1 : cs.drop k = cs[k]'(by omega) :: cs.drop (k + 1) := List.drop_eq_getElem_cons (by omega)
    have hd2 : cs'.drop k = cs'[k]'(by omega) :: cs'.drop (k + 1) := List.drop_eq_getElem_cons (by omega)
    rw [hd1, hd2] at he
    have hpa : (part f.type xs f.offset).run cx.prog w = .ok (xs[k]'(by have := hx.1; omega)) w := by simp [part, isAgg_scalar hok hs, ho, x1]
    have hpb : (part f.type ys f.offset).run cx.prog w = .ok (ys[k]'(by have := hy.1; omega)) w := by simp [part, isAgg_scalar hok hs, ho, y1]
    have cell : ∀ b, eqCell (cs[k]'(by omega)) (cs'[k]'(by omega)) = some b → (Op.equalIn (d + 1) f.type (xs[k]'(by have := hx.1; omega)) (ys[k]'(by have := hy.1; omega))).run cx.prog w = .ok b w := by
      intro b hb
      have hcc := hc _ _ e1 e2
      refine aeqCell_run ?_ ?_ hb hr1 hr2
      · revert hcc; generalize cs[k]'(by omega) = c
        intro hcc
        cases c <;> simp only at hcc ⊢
        · obtain ⟨_, q, hq⟩ := hcc; exact ⟨q, (k_int hok hq).1⟩
        · exact (k_bool hok hcc).1
        · exact (k_str hok hcc).1
      · intro k1 n1 k2 n2 h1 h2
        rw [h1] at hcc
        obtain ⟨⟨n', hn'⟩, _⟩ := hcc
        rw [h2] at hn'; cases hn'; rfl
    have step : ∀ b s, eqCell (cs[k]'(by omega)) (cs'[k]'(by omega)) = some b → eqCells (cs.drop (k + 1)) (cs'.drop (k + 1)) = some s → (Op.eqFields (d + 1) xs ys (f :: fs)).run cx.prog w = .ok (b && s) w := by
      intro b s hb hs'
      have hrest := ih (k + 1) s (fun i g hg => by
        have := hf (i + 1) g (by simpa using hg)
        simpa [Nat.add_assoc, Nat.add_comm 1 i] using this) (by omega) (by omega) hs'
      rw [Op.eqFields]
      simp only [if_pos hn, Sem.run_bind, hpa, hpb, cell b hb, Result.andThen_ok]
      cases b
      · simp
      · simpa using hrest
    cases fs with
    | nil =>
      have n1 : cs.drop (k + 1) = [] := List.drop_eq_nil_of_le (by simp at h1; omega)
      have n2 : cs'.drop (k + 1) = [] := List.drop_eq_nil_of_le (by simp at h2; omega)
      rw [n1, n2] at he
      simp only [eqCells] at he
      have := step r true he (by rw [n1, n2]; rfl)
      rwa [Bool.and_true] at this
    | cons g fs =>
      have hlt1 : k + 1 < cs.length := by simp at h1; omega
      have hlt2 : k + 1 < cs'.length := by simp at h2; omega
      have hd3 := List.drop_eq_getElem_cons hlt1
      have hd4 := List.drop_eq_getElem_cons hlt2
      have he' : ((eqCell (cs[k]'(by omega)) (cs'[k]'(by omega))).bind fun x => (eqCells (cs.drop (k + 1)) (cs'.drop (k + 1))).bind fun y => some (x && y)) = some r := by
        rw [← he]
        rw [hd3, hd4]
        simp only [eqCells]
      obtain ⟨b, hb, he'⟩ := Option.bind_eq_some_iff.1 he'
      obtain ⟨s, hs', he'⟩ := Option.bind_eq_some_iff.1 he'
      simp only [Option.some.injEq] at he'
      rw [← he']
      exact step b s hb hs'

theorem RelL.lookup {cs : List AVal} {vs : Array Value} (h : RelL β objs w N cs vs) : cs.length = vs.size := h.1

theorem eqTyped_spec {cx : Cx} : ∀ {fs : List (Nat × Nat)} {cs cs' : List AVal}, eqTyped cx fs cs cs' = true → cs.length = fs.length ∧ cs'.length = fs.length ∧
    ∀ (i o t : Nat) (c c' : AVal), fs[i]? = some (o, t) → cs[i]? = some c → cs'[i]? = some c' →
      (match c with | .int j _ => (∃ n', c' = .int j n') ∧ ∃ q, cx.kind t = .int q | .bool _ => cx.kind t = .bool | .str _ => cx.kind t = .str | _ => True)
  | [], [], [], _ => ⟨rfl, rfl, by simp⟩
  | (o, t) :: fs, c :: cs, c' :: cs', h => by
    simp only [eqTyped, Bool.and_eq_true] at h
    obtain ⟨h1, h2⟩ := h
    obtain ⟨l1, l2, ih⟩ := eqTyped_spec h2
    refine ⟨by simp [l1], by simp [l2], fun i o' t' d d' hf hc hc' => ?_⟩
    cases i with
    | zero =>
      simp only [List.getElem?_cons_zero, Option.some.injEq, Prod.mk.injEq] at hf hc hc'
      obtain ⟨rfl, rfl⟩ := hf
      subst hc; subst hc'
      split at h1
      · rename_i k1 n1 k2 n2 hk
        simp only [decide_eq_true_eq] at h1
        subst h1
        exact ⟨⟨_, rfl⟩, _, hk⟩
      · assumption
      · assumption
      · cases h1
    | succ i => exact ih i o' t' d d' (by simpa using hf) (by simpa using hc) (by simpa using hc')
  | [], [], _ :: _, h => by simp [eqTyped] at h
  | [], _ :: _, _, h => by simp [eqTyped] at h
  | _ :: _, [], _, h => by simp [eqTyped] at h
  | _ :: _, _ :: _, [], h => by simp [eqTyped] at h

theorem eqI_bool {P : Program} {t d : Nat} (hu : P.underlying t = some .bool) (a b : Bool) : (Op.equalIn (d + 1) t (.bool a) (.bool b)).run P w = .ok (a == b) w := by
  simp [Op.equalIn, run_underlying' hu]
theorem eqI_ptr1 {P : Program} {t d e : Nat} (hu : P.underlying t = some (.pointer e)) (b : Option Addr) : (Op.equalIn (d + 1) t (.pointer none) (.pointer b)).run P w = .ok b.isNone w := by
  simp [Op.equalIn, run_underlying' hu]
theorem eqI_ptr2 {P : Program} {t d e : Nat} (hu : P.underlying t = some (.pointer e)) (b : Addr) : (Op.equalIn (d + 1) t (.pointer (some b)) (.pointer none)).run P w = .ok false w := by
  simp [Op.equalIn, run_underlying' hu]
theorem eqI_fn0 {P : Program} {t d : Nat} {p q : Array TypeId} {z : Bool} (hu : P.underlying t = some (.func p q z)) : (Op.equalIn (d + 1) t .nilFunc .nilFunc).run P w = .ok true w := by
  simp [Op.equalIn, run_underlying' hu]
theorem eqI_fn1 {P : Program} {t d : Nat} {p q : Array TypeId} {z : Bool} (hu : P.underlying t = some (.func p q z)) (f : Fn) (a b : Array Value) : (Op.equalIn (d + 1) t .nilFunc (.func f a b)).run P w = .ok false w := by
  simp [Op.equalIn, run_underlying' hu]
theorem eqI_fn2 {P : Program} {t d : Nat} {p q : Array TypeId} {z : Bool} (hu : P.underlying t = some (.func p q z)) (f : Fn) (a b : Array Value) : (Op.equalIn (d + 1) t (.func f a b) .nilFunc).run P w = .ok false w := by
  simp [Op.equalIn, run_underlying' hu]
theorem eqI_mp1 {P : Program} {t d k e : Nat} (hu : P.underlying t = some (.map k e)) (b : Option Nat) : (Op.equalIn (d + 1) t (.map none) (.map b)).run P w = .ok b.isNone w := by
  simp [Op.equalIn, run_underlying' hu]
theorem eqI_mp2 {P : Program} {t d k e : Nat} (hu : P.underlying t = some (.map k e)) (b : Nat) : (Op.equalIn (d + 1) t (.map (some b)) (.map none)).run P w = .ok false w := by
  simp [Op.equalIn, run_underlying' hu]

theorem aeq_run (hok : cx.ok = true) {t : Nat} {c c' : AVal} {v v' : Value} {r : Bool} (h : aeq cx t c c' = some r) (hc : RelV β objs w N c v) (hc' : RelV β objs w N c' v') (x y : Operand) (op : BinOp) :
    (eqGuard op t x y v v').run cx.prog w = .ok () w ∧ (Op.equal t v v').run cx.prog w = .ok r w ∧ (∀ k n, v ≠ .int k n) ∧ (∀ s, v ≠ .string s) ∧ (∀ k n, v ≠ .float k n) ∧ (∀ k n m, v ≠ .complex k n m) := by
  unfold aeq at h
  unfold Op.equal Op.maxDepth
  split at h
  · -- structs
    rename_i as bs
    split at h
    · rename_i fs sz ss zero hk
      cases he : eqTyped cx fs as bs with
      | false => rw [he] at h; cases h
      | true =>
        rw [he] at h
        simp only [cond_true] at h
        cases hc with | agg l1 r1 => cases hc' with | agg l2 r2 =>
        rename_i vs us
        obtain ⟨⟨fields, hu, hfb⟩, ⟨i, z, hi, hsz, _⟩, hq⟩ := k_st hok hk
        obtain ⟨q1, q2, q3, q4⟩ := hq rfl
        obtain ⟨m1, m2, m3⟩ := eqTyped_spec he
        obtain ⟨f1, f2⟩ := fieldsB_get fs fields.toList hfb
        refine ⟨?_, ?_, by simp, by simp, by simp, by simp⟩
        · unfold eqGuard
          cases op <;> first | rfl | simp [q3]
        · have hf : cx.prog.fieldsOf t = fields := by simp [Program.fieldsOf, hu]
          have hrun := eqFields_run (cx := cx) (N := N) (d := 9998) hok (hx := ⟨l1, r1⟩) (hy := ⟨l2, r2⟩) (fun _ _ _ => trivial) fields.toList 0 r (fun i f hi => ?_) (by rw [m1, f1]; simp) (by rw [m2, f1]; simp) (by simpa using h)
          · rw [show (10000 : Nat) = 9999 + 1 from rfl, run_equalIn_struct (P := cx.prog) w 9999 t vs us (by rw [hf]; exact hu) q2, hf]
            exact hrun
          · have hilt : i < fs.length := by rw [f1]; exact (List.getElem?_eq_some_iff.1 hi).1
            obtain ⟨g, j, hg, ho, ht, hj, _, _, he2⟩ := f2 i (fs[i]).1 (fs[i]).2 (by simp [hilt])
            rw [hi] at hg
            cases hg
            obtain ⟨n1, n2⟩ := he2 rfl
            have hoff : (fs[i]).1 = i := by
              have := congrArg (fun l => l[i]?) q4
              simp [hilt, show i < sz by omega] at this
              exact this
            refine ⟨by rw [ho, hoff]; simp, n1, by rw [ht]; exact n2, fun c c' hcc hcc' => ?_⟩
            rw [ht]
            exact m3 i (fs[i]).1 (fs[i]).2 c c' (by simp [hilt]) (by simpa using hcc) (by simpa using hcc')
    · cases h
  all_goals first | (cases h; done) | (split at h <;> first | (cases h; done) | skip)
  · rename_i hk
    cases h
    cases hc; cases hc'
    exact ⟨run_eqGuard_plain (by simp) (by simp) w, eqI_bool (d := 9999) (k_bool hok hk).1 _ _, by simp, by simp, by simp, by simp⟩
  · rename_i hk
    cases h
    cases hc; cases hc'
    exact ⟨run_eqGuard_plain (by simp) (by simp) w, eqI_ptr1 (d := 9999) (k_ptr hok hk).1 _, by simp, by simp, by simp, by simp⟩
  · rename_i hk
    cases h
    cases hc; cases hc'
    exact ⟨run_eqGuard_plain (by simp) (by simp) w, eqI_ptr1 (d := 9999) (k_ptr hok hk).1 _, by simp, by simp, by simp, by simp⟩
  · rename_i hk
    cases h
    cases hc; cases hc'
    exact ⟨run_eqGuard_plain (by simp) (by simp) w, eqI_ptr2 (d := 9999) (k_ptr hok hk).1 _, by simp, by simp, by simp, by simp⟩
  · rename_i hk
    cases h
    cases hc; cases hc'
    obtain ⟨⟨a, b, c, hu⟩, _⟩ := k_fn hok hk
    exact ⟨run_eqGuard_plain (by simp) (by simp) w, eqI_fn0 (d := 9999) hu, by simp, by simp, by simp, by simp⟩
  · rename_i hk
    cases h
    cases hc; cases hc'
    obtain ⟨⟨a, b, c, hu⟩, _⟩ := k_fn hok hk
    exact ⟨run_eqGuard_plain (by simp) (by simp) w, eqI_fn1 (d := 9999) hu _ _ _, by simp, by simp, by simp, by simp⟩
  · rename_i hk
    cases h
    cases hc; cases hc'
    obtain ⟨⟨a, b, c, hu⟩, _⟩ := k_fn hok hk
    exact ⟨run_eqGuard_plain (by simp) (by simp) w, eqI_fn2 (d := 9999) hu _ _ _, by simp, by simp, by simp, by simp⟩
  · rename_i hk
    cases h
    cases hc; cases hc'
    exact ⟨run_eqGuard_plain (by simp) (by simp) w, eqI_mp1 (d := 9999) (k_mp hok hk).1 _, by simp, by simp, by simp, by simp⟩
  · rename_i hk
    cases h
    cases hc; cases hc'
    exact ⟨run_eqGuard_plain (by simp) (by simp) w, eqI_mp1 (d := 9999) (k_mp hok hk).1 _, by simp, by simp, by simp, by simp⟩
  · rename_i hk
    cases h
    cases hc; cases hc'
    exact ⟨run_eqGuard_plain (by simp) (by simp) w, eqI_mp2 (d := 9999) (k_mp hok hk).1 _, by simp, by simp, by simp, by simp⟩
end
end Go.Ev
