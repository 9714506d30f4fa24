/-
  PLAIN LAWS: orders.
-/
import Derived.Test.YtolhfcknlfmmcacHpLib
set_option linter.unusedVariables false
namespace Go.Ev
def cmpI (x y : Int) : Int := if x < y then -1 else if x > y then 1 else 0
def cmpS (x y : Bytes) : Int := if Op.bytesLess x y = true then -1 else if x = y then 0 else 1
theorem cmpI_zero (x y : Int) : cmpI x y = 0 ↔ x = y := by unfold cmpI; repeat' split <;> try omega
theorem cmpI_swap (x y : Int) : cmpI y x = - cmpI x y := by unfold cmpI; repeat' split <;> try omega
theorem cmpI_range (x y : Int) : -1 ≤ cmpI x y ∧ cmpI x y ≤ 1 := by unfold cmpI; repeat' split <;> try omega
theorem less_irrefl : ∀ (x : Bytes), Op.bytesLess x x = false
  | [] => rfl
  | a :: x => by simp [Op.bytesLess, less_irrefl x]
theorem less_asymm : ∀ (x y : Bytes), Op.bytesLess x y = true → Op.bytesLess y x = false
  | [], [], h => by cases h
  | [], _ :: _, _ => rfl
  | _ :: _, [], h => by cases h
  | a :: x, b :: y, h => by
    simp only [Op.bytesLess, Bool.or_eq_true, decide_eq_true_eq, Bool.and_eq_true, beq_iff_eq] at h
    simp only [Op.bytesLess, Bool.or_eq_false_iff, decide_eq_false_iff_not, Bool.and_eq_false_iff]
    rcases h with h | ⟨rfl, h⟩
    · exact ⟨fun h' => absurd (UInt8.lt_trans h h') (UInt8.lt_irrefl _), .inl (by simp; intro e; subst e; exact absurd h (UInt8.lt_irrefl _))⟩
    · exact ⟨UInt8.lt_irrefl _, .inr (less_asymm x y h)⟩
theorem less_total : ∀ (x y : Bytes), Op.bytesLess x y = false → Op.bytesLess y x = false → x = y
  | [], [], _, _ => rfl
  | [], _ :: _, h, _ => by cases h
  | _ :: _, [], _, h => by cases h
  | a :: x, b :: y, h, h' => by
    simp only [Op.bytesLess, Bool.or_eq_false_iff, decide_eq_false_iff_not, Bool.and_eq_false_iff] at h h'
    have hab : a = b := UInt8.le_antisymm (UInt8.not_lt.1 h'.1) (UInt8.not_lt.1 h.1)
    subst hab
    rcases h.2 with h2 | h2
    · simp at h2
    · rcases h'.2 with h3 | h3
      · simp at h3
      · rw [less_total x y h2 h3]
theorem less_trans : ∀ (x y z : Bytes), Op.bytesLess x y = true → Op.bytesLess y z = true → Op.bytesLess x z = true
  | [], [], _, h, _ => by cases h
  | _ :: _, [], _, h, _ => by cases h
  | _, _ :: _, [], _, h => by cases h
  | [], _ :: _, _ :: _, _, _ => rfl
  | a :: x, b :: y, c :: z, h, h' => by
    simp only [Op.bytesLess, Bool.or_eq_true, decide_eq_true_eq, Bool.and_eq_true, beq_iff_eq] at h h' ⊢
    rcases h with h | ⟨rfl, h⟩ <;> rcases h' with h' | ⟨rfl, h'⟩
    · exact .inl (UInt8.lt_trans h h')
    · exact .inl h
    · exact .inl h'
    · exact .inr ⟨rfl, less_trans x y z h h'⟩
theorem cmpS_zero (x y : Bytes) : cmpS x y = 0 ↔ x = y := by
  unfold cmpS
  by_cases h : x = y
  · subst h; simp [less_irrefl]
  · by_cases h' : Op.bytesLess x y = true <;> simp [h, h']
theorem cmpS_swap (x y : Bytes) : cmpS y x = - cmpS x y := by
  unfold cmpS
  by_cases h : x = y
  · subst h; simp [less_irrefl]
  · cases h1 : Op.bytesLess x y
    · cases h2 : Op.bytesLess y x
      · exact absurd (less_total x y h1 h2) h
      · simp [h]
    · simp [less_asymm x y h1, Ne.symm h]
theorem cmpS_range (x y : Bytes) : -1 ≤ cmpS x y ∧ cmpS x y ≤ 1 := by unfold cmpS; repeat' split <;> try omega
theorem cmpS_trans (x y z : Bytes) (h : cmpS x y ≤ 0) (h' : cmpS y z ≤ 0) : cmpS x z ≤ 0 ∧ (cmpS x z = 0 → cmpS x y = 0 ∧ cmpS y z = 0) := by
  have key : ∀ a b : Bytes, cmpS a b ≤ 0 → a = b ∨ Op.bytesLess a b = true := by
    intro a b hab
    unfold cmpS at hab
    by_cases h1 : Op.bytesLess a b = true
    · exact .inr h1
    · by_cases h2 : a = b
      · exact .inl h2
      · simp [h1, h2] at hab
  rcases key _ _ h with rfl | h1
  · exact ⟨h', fun e => ⟨(cmpS_zero _ _).2 rfl, e⟩⟩
  · rcases key _ _ h' with rfl | h2
    · exact ⟨h, fun e => ⟨e, (cmpS_zero _ _).2 rfl⟩⟩
    · have h3 := less_trans _ _ _ h1 h2
      refine ⟨by simp [cmpS, h3], fun e => ?_⟩
      rw [cmpS_zero] at e; subst e
      rw [less_asymm _ _ h1] at h2; cases h2
theorem cmpI_trans (x y z : Int) (h : cmpI x y ≤ 0) (h' : cmpI y z ≤ 0) : cmpI x z ≤ 0 ∧ (cmpI x z = 0 → cmpI x y = 0 ∧ cmpI y z = 0) := by
  unfold cmpI at *
  repeat' split at * <;> try omega

def orElse (p q : Int) : Int := if p ≠ 0 then p else q
theorem orElse_neg (p q : Int) : orElse (-p) (-q) = - orElse p q := by unfold orElse; repeat' split <;> try omega
theorem orElse_range {p q : Int} (h : -1 ≤ p ∧ p ≤ 1) (h' : -1 ≤ q ∧ q ≤ 1) : -1 ≤ orElse p q ∧ orElse p q ≤ 1 := by unfold orElse; repeat' split <;> try omega
theorem orElse_zero (p q : Int) : orElse p q = 0 ↔ p = 0 ∧ q = 0 := by unfold orElse; repeat' split <;> try omega
/-- How three answers of an order hang together. -/
def Tri (p q r : Int) : Prop := p ≤ 0 → q ≤ 0 → r ≤ 0 ∧ (r = 0 → p = 0 ∧ q = 0)
theorem Tri.orElse {p1 q1 r1 p2 q2 r2 : Int} (h : Tri p1 q1 r1) (h' : p1 = 0 → q1 = 0 → r1 = 0 → Tri p2 q2 r2) (hz : p1 = 0 → q1 = 0 → r1 = 0) : Tri (orElse p1 p2) (orElse q1 q2) (orElse r1 r2) := by
  unfold Tri at *
  unfold Ev.orElse
  intro a b
  by_cases h1 : p1 = 0
  · by_cases h2 : q1 = 0
    · have h3 := hz h1 h2
      simp only [h1, h2, h3, ne_eq, not_true_eq_false, if_false] at a b ⊢
      exact h' h1 h2 h3 a b
    · simp only [h1, ne_eq, not_true_eq_false, if_false, h2, not_false_eq_true, if_true] at a b ⊢
      have := h (by omega) b
      by_cases h3 : r1 = 0
      · exact absurd (this.2 h3).2 h2
      · simp only [h3, not_false_eq_true, if_true]; exact ⟨this.1, fun e => e.elim⟩
  · simp only [h1, ne_eq, not_false_eq_true, if_true] at a
    have hq : q1 ≤ 0 := by
      by_cases h2 : q1 = 0
      · omega
      · simp only [h2, ne_eq, not_false_eq_true, if_true] at b; exact b
    have := h a hq
    by_cases h3 : r1 = 0
    · exact absurd (this.2 h3).1 h1
    · simp only [h3, ne_eq, not_false_eq_true, if_true]; exact ⟨this.1, fun e => e.elim⟩
def ordV (a b : Val) : Int := orElse (cmpI a.k b.k) (orElse (cmpI a.n b.n) (cmpS a.s b.s))
theorem ordV_swap (a b : Val) : ordV b a = - ordV a b := by
  unfold ordV; rw [cmpI_swap a.k, cmpI_swap a.n, cmpS_swap a.s, orElse_neg, orElse_neg]
theorem ordV_refl (a : Val) : ordV a a = 0 := by
  have h1 := (cmpI_zero a.k a.k).2 rfl
  have h2 := (cmpI_zero a.n a.n).2 rfl
  have h3 := (cmpS_zero a.s a.s).2 rfl
  simp [ordV, orElse, h1, h2, h3]
theorem cmpI_tri (x y z : Int) : Tri (cmpI x y) (cmpI y z) (cmpI x z) := cmpI_trans x y z
theorem cmpS_tri (x y z : Bytes) : Tri (cmpS x y) (cmpS y z) (cmpS x z) := cmpS_trans x y z
theorem cmpI_z (x y z : Int) (h : cmpI x y = 0) (h' : cmpI y z = 0) : cmpI x z = 0 := by rw [cmpI_zero] at *; omega
theorem cmpS_z (x y z : Bytes) (h : cmpS x y = 0) (h' : cmpS y z = 0) : cmpS x z = 0 := by rw [cmpS_zero] at *; rw [h, h']
theorem ordV_tri (a b c : Val) : Tri (ordV a b) (ordV b c) (ordV a c) :=
  (cmpI_tri _ _ _).orElse (fun _ _ _ => (cmpI_tri _ _ _).orElse (fun _ _ _ => cmpS_tri _ _ _) (cmpI_z _ _ _)) (cmpI_z _ _ _)
theorem ordV_z (a b c : Val) (h : ordV a b = 0) (h' : ordV b c = 0) : ordV a c = 0 := by
  unfold ordV at *
  rw [orElse_zero, orElse_zero] at *
  exact ⟨cmpI_z _ _ _ h.1 h'.1, cmpI_z _ _ _ h.2.1 h'.2.1, cmpS_z _ _ _ h.2.2 h'.2.2⟩
def nodeE (a b : Exp) : Int := orElse (cmpI a.k b.k) (orElse (ordV a.v b.v) (orElse (cmpS a.var b.var) (orElse (cmpS a.field b.field) (cmpI (a.l.length : Int) (b.l.length : Int)))))
theorem nodeE_swap (a b : Exp) : nodeE b a = - nodeE a b := by
  unfold nodeE; rw [cmpI_swap a.k, ordV_swap a.v, cmpS_swap a.var, cmpS_swap a.field, cmpI_swap (a.l.length : Int), orElse_neg, orElse_neg, orElse_neg, orElse_neg]
theorem nodeE_tri (a b c : Exp) : Tri (nodeE a b) (nodeE b c) (nodeE a c) :=
  (cmpI_tri _ _ _).orElse (fun _ _ _ => (ordV_tri _ _ _).orElse (fun _ _ _ => (cmpS_tri _ _ _).orElse (fun _ _ _ => (cmpS_tri _ _ _).orElse (fun _ _ _ => cmpI_tri _ _ _) (cmpS_z _ _ _)) (cmpS_z _ _ _)) (ordV_z _ _ _)) (cmpI_z _ _ _)
theorem nodeE_len {a b : Exp} (h : nodeE a b = 0) : a.l.length = b.l.length := by
  unfold nodeE at h
  simp only [orElse_zero, cmpI_zero] at h
  omega
theorem nodeE_z (a b c : Exp) (h : nodeE a b = 0) (h' : nodeE b c = 0) : nodeE a c = 0 := by
  unfold nodeE at *
  simp only [orElse_zero] at *
  exact ⟨cmpI_z _ _ _ h.1 h'.1, ordV_z _ _ _ h.2.1 h'.2.1, cmpS_z _ _ _ h.2.2.1 h'.2.2.1, cmpS_z _ _ _ h.2.2.2.1 h'.2.2.2.1, cmpI_z _ _ _ h.2.2.2.2 h'.2.2.2.2⟩
theorem nodeE_refl (a : Exp) : nodeE a a = 0 := by
  unfold nodeE
  simp only [orElse_zero]
  exact ⟨(cmpI_zero _ _).2 rfl, ordV_refl _, (cmpS_zero _ _).2 rfl, (cmpS_zero _ _).2 rfl, (cmpI_zero _ _).2 rfl⟩
mutual
def ordE : Exp → Exp → Int
  | ⟨k, v, x, f, l⟩, b => orElse (nodeE ⟨k, v, x, f, l⟩ b) (ordL l b.l)
def ordL : List Exp → List Exp → Int
  | [], _ => 0
  | _ :: _, [] => 0
  | a :: as, b :: bs => orElse (ordE a b) (ordL as bs)
end
theorem ordE_eq (a b : Exp) : ordE a b = orElse (nodeE a b) (ordL a.l b.l) := by cases a; rw [ordE]

mutual
theorem ordE_swap : ∀ (a b : Exp), ordE b a = - ordE a b
  | ⟨k, v, x, f, l⟩, b => by
    rw [ordE_eq b, ordE, nodeE_swap ⟨k, v, x, f, l⟩ b, ← orElse_neg, ordL_swap l b.l]
theorem ordL_swap : ∀ (a b : List Exp), ordL b a = - ordL a b
  | [], [] => rfl
  | [], _ :: _ => rfl
  | _ :: _, [] => rfl
  | a :: as, b :: bs => by
    rw [ordL, ordL, ordE_swap a b, ordL_swap as bs, orElse_neg]
end
mutual
theorem ordE_z : ∀ (a b c : Exp), ordE a b = 0 → ordE b c = 0 → ordE a c = 0
  | ⟨k, v, x, f, l⟩, b, c, h, h' => by
    rw [ordE, orElse_zero] at h
    rw [ordE_eq, orElse_zero] at h'
    rw [ordE, orElse_zero]
    exact ⟨nodeE_z _ _ _ h.1 h'.1, ordL_z l b.l c.l (nodeE_len h.1) (nodeE_len h'.1) h.2 h'.2⟩
theorem ordL_z : ∀ (a b c : List Exp), a.length = b.length → b.length = c.length → ordL a b = 0 → ordL b c = 0 → ordL a c = 0
  | [], _, _, _, _, _, _ => by rw [ordL]
  | a :: as, b :: bs, c :: cs, h1, h2, h, h' => by
    rw [ordL, orElse_zero] at h h' ⊢
    simp at h1 h2
    exact ⟨ordE_z a b c h.1 h'.1, ordL_z as bs cs h1 h2 h.2 h'.2⟩
  | _ :: _, [], _, h1, _, _, _ => by simp at h1
  | _ :: _, _ :: _, [], _, h2, _, _ => by simp at h2
end
mutual
theorem ordE_tri : ∀ (a b c : Exp), Tri (ordE a b) (ordE b c) (ordE a c)
  | ⟨k, v, x, f, l⟩, b, c => by
    rw [ordE, ordE_eq b c, ordE]
    exact (nodeE_tri _ _ _).orElse (fun h1 h2 _ => ordL_tri l b.l c.l (nodeE_len h1) (nodeE_len h2)) (nodeE_z _ _ _)
theorem ordL_tri : ∀ (a b c : List Exp), a.length = b.length → b.length = c.length → Tri (ordL a b) (ordL b c) (ordL a c)
  | [], [], [], _, _ => by simp [ordL, Tri]
  | a :: as, b :: bs, c :: cs, h1, h2 => by
    rw [ordL, ordL, ordL]
    simp at h1 h2
    exact (ordE_tri a b c).orElse (fun _ _ _ => ordL_tri as bs cs h1 h2) (ordE_z a b c)
  | [], _ :: _, _, h1, _ => by simp at h1
  | _ :: _, [], _, h1, _ => by simp at h1
  | [], [], _ :: _, _, h2 => by simp at h2
  | _ :: _, _ :: _, [], _, h2 => by simp at h2
end
mutual
theorem ordE_refl : ∀ (a : Exp), ordE a a = 0
  | ⟨k, v, x, f, l⟩ => by
    rw [ordE, orElse_zero]
    exact ⟨nodeE_refl _, ordL_refl l⟩
theorem ordL_refl : ∀ (a : List Exp), ordL a a = 0
  | [] => rfl
  | a :: as => by rw [ordL, orElse_zero]; exact ⟨ordE_refl a, ordL_refl as⟩
end
mutual
theorem ordE_range : ∀ (a b : Exp), -1 ≤ ordE a b ∧ ordE a b ≤ 1
  | ⟨k, v, x, f, l⟩, b => by
    rw [ordE]
    refine orElse_range ?_ (ordL_range l b.l)
    exact orElse_range (cmpI_range _ _) (orElse_range (orElse_range (cmpI_range _ _) (orElse_range (cmpI_range _ _) (cmpS_range _ _))) (orElse_range (cmpS_range _ _) (orElse_range (cmpS_range _ _) (cmpI_range _ _))))
theorem ordL_range : ∀ (a b : List Exp), -1 ≤ ordL a b ∧ ordL a b ≤ 1
  | [], _ => by simp [ordL]
  | _ :: _, [] => by simp [ordL]
  | a :: as, b :: bs => by rw [ordL]; exact orElse_range (ordE_range a b) (ordL_range as bs)
end
theorem good_exp {x : Exp} (h : ∀ c ∈ cells .exp x, Good c) : ExpSmall x := by
  obtain ⟨h1, h2⟩ := good_exps (h (.sl .exp false x.l) (by simp [cells])) x.l rfl
  exact .mk h1 h2
end Go.Ev
