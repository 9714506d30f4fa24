import Derived.Test.YtpbgbhbmjepmeaaHpVO
namespace Go.Ev.HpVO
def cmpI (x y : Int) : Int := if x < y then -1 else if x > y then 1 else 0
def cmpS (x y : Bytes) : Int := if Op.bytesLess x y = true then -1 else if x = y then 0 else 1
theorem isNaN_int (k : Nat) (x : Int) : cmp_isNaN_int (k+1) x = some (false, ()) := by rw [cmp_isNaN_int_eq]; simp
theorem isNaN_int64 (k : Nat) (x : Int) : cmp_isNaN_int64 (k+1) x = some (false, ()) := by rw [cmp_isNaN_int64_eq]; simp
theorem isNaN_string (k : Nat) (x : Bytes) : cmp_isNaN_string (k+1) x = some (false, ()) := by rw [cmp_isNaN_string_eq]; simp
theorem compare_int (k : Nat) (x y : Int) : cmp_Compare_int (k+2) x y = some (cmpI x y, ()) := by
  rw [cmp_Compare_int_eq]
  simp only [isNaN_int, Option.bind_some, cond_false, cmpI]
  by_cases h : x < y <;> by_cases h' : x > y <;> simp [h, h']
theorem compare_int64 (k : Nat) (x y : Int) : cmp_Compare_int64 (k+2) x y = some (cmpI x y, ()) := by
  rw [cmp_Compare_int64_eq]
  simp only [isNaN_int64, Option.bind_some, cond_false, cmpI]
  by_cases h : x < y <;> by_cases h' : x > y <;> simp [h, h']
theorem compare_string (k : Nat) (x y : Bytes) : cmp_Compare_string (k+2) x y = some (cmpS x y, ()) := by
  rw [cmp_Compare_string_eq]
  simp only [isNaN_string, Option.bind_some, cond_false, cmpS]
  cases h : Op.bytesLess x y <;> by_cases h' : x = y <;> simp_all [cond_eq_ite]
def order (a b : Val) : Int := if cmpI a.k b.k ≠ 0 then cmpI a.k b.k else if cmpI a.n b.n ≠ 0 then cmpI a.n b.n else cmpS a.s b.s
theorem order_eq (k : Nat) (a b : Val) : value_Order (k+3) a b = some (order a b, ()) := by
  rw [value_Order_eq]
  simp only [compare_int, compare_int64, compare_string, Option.bind_some, order]
  by_cases h : cmpI a.k b.k = 0 <;> by_cases h' : cmpI a.n b.n = 0 <;> simp [cond_eq_ite, h, h']
theorem awake_eq : law06_awake 20 = some (true, ()) := by kernel_rfl

theorem cmpI_zero (x y : Int) : cmpI x y = 0 ↔ x = y := by unfold cmpI; repeat' split <;> try omega
theorem cmpI_swap (x y : Int) : cmpI y x = - cmpI x y := by unfold cmpI; repeat' split <;> try omega
theorem cmpI_range (x y : Int) : -1 ≤ cmpI x y ∧ cmpI x y ≤ 1 := by unfold cmpI; repeat' split <;> try omega
theorem less_irrefl : ∀ (x : Bytes), Op.bytesLess x x = false
  | [] => rfl
  | a :: x => by simp [Op.bytesLess, less_irrefl x]
theorem less_asymm : ∀ (x y : Bytes), Op.bytesLess x y = true → Op.bytesLess y x = false
  | [], [], h => by cases h
  | [], _ :: _, _ => rfl
  | _ :: _, [], h => by cases h
  | a :: x, b :: y, h => by
    simp only [Op.bytesLess, Bool.or_eq_true, decide_eq_true_eq, Bool.and_eq_true, beq_iff_eq] at h
    simp only [Op.bytesLess, Bool.or_eq_false_iff, decide_eq_false_iff_not, Bool.and_eq_false_iff]
    rcases h with h | ⟨rfl, h⟩
    · exact ⟨fun h' => absurd (UInt8.lt_trans h h') (UInt8.lt_irrefl _), .inl (by simp; intro e; subst e; exact absurd h (UInt8.lt_irrefl _))⟩
    · exact ⟨UInt8.lt_irrefl _, .inr (less_asymm x y h)⟩
theorem less_total : ∀ (x y : Bytes), Op.bytesLess x y = false → Op.bytesLess y x = false → x = y
  | [], [], _, _ => rfl
  | [], _ :: _, h, _ => by cases h
  | _ :: _, [], _, h => by cases h
  | a :: x, b :: y, h, h' => by
    simp only [Op.bytesLess, Bool.or_eq_false_iff, decide_eq_false_iff_not, Bool.and_eq_false_iff] at h h'
    have hab : a = b := UInt8.le_antisymm (UInt8.not_lt.1 h'.1) (UInt8.not_lt.1 h.1)
    subst hab
    rcases h.2 with h2 | h2
    · simp at h2
    · rcases h'.2 with h3 | h3
      · simp at h3
      · rw [less_total x y h2 h3]
theorem less_trans : ∀ (x y z : Bytes), Op.bytesLess x y = true → Op.bytesLess y z = true → Op.bytesLess x z = true
  | [], [], _, h, _ => by cases h
  | _ :: _, [], _, h, _ => by cases h
  | _, _ :: _, [], _, h => by cases h
  | [], _ :: _, _ :: _, _, _ => rfl
  | a :: x, b :: y, c :: z, h, h' => by
    simp only [Op.bytesLess, Bool.or_eq_true, decide_eq_true_eq, Bool.and_eq_true, beq_iff_eq] at h h' ⊢
    rcases h with h | ⟨rfl, h⟩ <;> rcases h' with h' | ⟨rfl, h'⟩
    · exact .inl (UInt8.lt_trans h h')
    · exact .inl h
    · exact .inl h'
    · exact .inr ⟨rfl, less_trans x y z h h'⟩
theorem cmpS_zero (x y : Bytes) : cmpS x y = 0 ↔ x = y := by
  unfold cmpS
  by_cases h : x = y
  · subst h; simp [less_irrefl]
  · by_cases h' : Op.bytesLess x y = true <;> simp [h, h']
theorem cmpS_swap (x y : Bytes) : cmpS y x = - cmpS x y := by
  unfold cmpS
  by_cases h : x = y
  · subst h; simp [less_irrefl]
  · cases h1 : Op.bytesLess x y
    · cases h2 : Op.bytesLess y x
      · exact absurd (less_total x y h1 h2) h
      · simp [h]
    · simp [less_asymm x y h1, Ne.symm h]
theorem cmpS_range (x y : Bytes) : -1 ≤ cmpS x y ∧ cmpS x y ≤ 1 := by unfold cmpS; repeat' split <;> try omega
theorem cmpS_trans (x y z : Bytes) (h : cmpS x y ≤ 0) (h' : cmpS y z ≤ 0) : cmpS x z ≤ 0 ∧ (cmpS x z = 0 → cmpS x y = 0 ∧ cmpS y z = 0) := by
  have key : ∀ a b : Bytes, cmpS a b ≤ 0 → a = b ∨ Op.bytesLess a b = true := by
    intro a b hab
    unfold cmpS at hab
    by_cases h1 : Op.bytesLess a b = true
    · exact .inr h1
    · by_cases h2 : a = b
      · exact .inl h2
      · simp [h1, h2] at hab
  rcases key _ _ h with rfl | h1
  · exact ⟨h', fun e => ⟨(cmpS_zero _ _).2 rfl, e⟩⟩
  · rcases key _ _ h' with rfl | h2
    · exact ⟨h, fun e => ⟨e, (cmpS_zero _ _).2 rfl⟩⟩
    · have h3 := less_trans _ _ _ h1 h2
      refine ⟨by simp [cmpS, h3], fun e => ?_⟩
      rw [cmpS_zero] at e; subst e
      rw [less_asymm _ _ h1] at h2; cases h2
theorem cmpI_trans (x y z : Int) (h : cmpI x y ≤ 0) (h' : cmpI y z ≤ 0) : cmpI x z ≤ 0 ∧ (cmpI x z = 0 → cmpI x y = 0 ∧ cmpI y z = 0) := by
  unfold cmpI at *
  repeat' split at * <;> try omega
theorem order_zero (a b : Val) : order a b = 0 ↔ a.k = b.k ∧ a.n = b.n ∧ a.s = b.s := by
  unfold order
  rw [← cmpI_zero a.k b.k, ← cmpI_zero a.n b.n, ← cmpS_zero a.s b.s]
  by_cases h1 : cmpI a.k b.k = 0 <;> by_cases h2 : cmpI a.n b.n = 0 <;> simp [h1, h2]
theorem order_swap (a b : Val) : order b a = - order a b := by
  unfold order
  simp only [cmpI_swap a.k b.k, cmpI_swap a.n b.n, cmpS_swap a.s b.s]
  by_cases h1 : cmpI a.k b.k = 0 <;> by_cases h2 : cmpI a.n b.n = 0 <;> simp [h1, h2]
theorem order_range (a b : Val) : -1 ≤ order a b ∧ order a b ≤ 1 := by
  unfold order
  split
  · exact cmpI_range _ _
  · split
    · exact cmpI_range _ _
    · exact cmpS_range _ _
theorem lex {p1 q1 r1 p2 q2 r2 p3 q3 r3 : Int} (k1 : p1 ≤ 0 → q1 ≤ 0 → r1 ≤ 0 ∧ (r1 = 0 → p1 = 0 ∧ q1 = 0)) (k2 : p2 ≤ 0 → q2 ≤ 0 → r2 ≤ 0 ∧ (r2 = 0 → p2 = 0 ∧ q2 = 0)) (k3 : p3 ≤ 0 → q3 ≤ 0 → r3 ≤ 0)
    (z1 : p1 = 0 → q1 = 0 → r1 = 0) (z2 : p2 = 0 → q2 = 0 → r2 = 0)
    (h : (if p1 ≠ 0 then p1 else if p2 ≠ 0 then p2 else p3) ≤ 0) (h' : (if q1 ≠ 0 then q1 else if q2 ≠ 0 then q2 else q3) ≤ 0) : (if r1 ≠ 0 then r1 else if r2 ≠ 0 then r2 else r3) ≤ 0 := by
  by_cases a1 : p1 = 0 <;> by_cases a2 : q1 = 0 <;> by_cases a3 : p2 = 0 <;> by_cases a4 : q2 = 0 <;> by_cases a5 : r1 = 0 <;> by_cases a6 : r2 = 0 <;> simp only [a1, a2, a3, a4, a5, a6, ne_eq, not_true_eq_false, not_false_eq_true, if_true, if_false] at h h' ⊢ <;> omega
theorem order_trans (a b c : Val) (h : order a b ≤ 0) (h' : order b c ≤ 0) : order a c ≤ 0 :=
  lex (cmpI_trans a.k b.k c.k) (cmpI_trans a.n b.n c.n) (fun x y => (cmpS_trans a.s b.s c.s x y).1)
    (fun x y => by rw [cmpI_zero] at *; omega) (fun x y => by rw [cmpI_zero] at *; omega) h h'
theorem val_beq (a b : Val) : (a.k == b.k && (a.n == b.n && a.s == b.s)) = decide (a.k = b.k ∧ a.n = b.n ∧ a.s = b.s) := by
  by_cases h1 : a.k = b.k <;> by_cases h2 : a.n = b.n <;> by_cases h3 : a.s = b.s <;> simp [h1, h2, h3]
theorem law (a b c : Val) : law06_ValueOrder 21 a b c = some (true, ()) := by
  rw [law06_ValueOrder_eq]
  have e1 := order_eq 17 a b
  have e2 := order_eq 17 b c
  have e3 := order_eq 17 b a
  have e4 := order_eq 17 a c
  simp only [Nat.reduceAdd] at e1 e2 e3 e4
  simp only [e1, e2, e3, e4, Option.bind_some, awake_eq, val_beq]
  have hr := order_range a b
  have hw : IntKind.i64.wrap (0 - order a b) = - order a b := by
    simp [IntKind.wrap, IntKind.signed, IntKind.bits]; omega
  have h0 : (order a b == 0) = decide (a.k = b.k ∧ a.n = b.n ∧ a.s = b.s) := by
    by_cases h : order a b = 0
    · simp [h, (order_zero a b).1 h]
    · have : ¬ (a.k = b.k ∧ a.n = b.n ∧ a.s = b.s) := fun e => h ((order_zero a b).2 e)
      simp only [this, decide_false]; simpa using h
  have ht := order_trans a b c
  rw [h0, hw, order_swap a b]
  by_cases p : 0 < order a b <;> by_cases q : 0 < order b c <;> simp [p, q, hr.1, hr.2, cond_eq_ite]
  exact ht (by omega) (by omega)
#print axioms law
end Go.Ev.HpVO
