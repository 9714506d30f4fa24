/-
  THE EVALUATOR, PART 7: binary and unary operations, whole.
-/
import Derived.Test.YtpkhhaolkfaoaaaHpEvF
import Derived.Lib.SmallJoins
set_option linter.unusedVariables false
set_option linter.unusedSimpArgs false
set_option linter.unusedSectionVars false
namespace Go.Ev
theorem str_append (a b : Bytes) : ((⟨a.toArray⟩ : ByteArray) ++ ⟨b.toArray⟩) = ⟨(a ++ b).toArray⟩ := by
  apply ByteArray.ext
  apply Array.ext'
  rw [show ((⟨a.toArray⟩ : ByteArray) ++ ⟨b.toArray⟩).data.toList = a ++ b from by
    have := Go.Joins.data_append (⟨a.toArray⟩ : ByteArray) ⟨b.toArray⟩
    simp]
theorem fdiv_u8 {a : Int} (n : Nat) (h : 0 ≤ a ∧ a < 256) : 0 ≤ a.fdiv (2 ^ n) ∧ a.fdiv (2 ^ n) < 256 := by
  have hp : (0 : Int) < 2 ^ n := Int.pow_pos (by decide)
  rw [Int.fdiv_eq_ediv_of_nonneg _ (by omega)]
  refine ⟨Int.ediv_nonneg h.1 (by omega), ?_⟩
  have := Int.ediv_le_self (2 ^ n) h.1
  omega
section
variable {cx : Cx} {β : List Loc} {objs : List AObj} {w : World} {N : Nat → Nat → Prop}

theorem tmod_u8 {a : Int} (b : Int) (h : 0 ≤ a ∧ a < 256) : 0 ≤ a.tmod b ∧ a.tmod b < 256 := by
  obtain ⟨n, rfl⟩ := Int.eq_ofNat_of_zero_le h.1
  have h1 := Int.tmod_nonneg b (Int.natCast_nonneg n)
  have h2 : (((n : Nat) : Int).tmod b) ≤ n := by
    rw [← Int.natAbs_of_nonneg h1, Int.natAbs_tmod]
    simp only [Int.natAbs_natCast]
    exact_mod_cast Nat.mod_le n b.natAbs
  omega
theorem guard_bin {op : BinOp} {t : Nat} {x y : Operand} {v v' u : Value} (hg : (eqGuard op t x y v v').run cx.prog w = .ok () w) (hb : (binOp op t v v').run cx.prog w = .ok u w) :
    (do eqGuard op t x y v v'; binOp op t v v' : Sem Value).run cx.prog w = .ok u w := by simp [hg, hb]

theorem abin_run (hok : cx.ok = true) {op : BinOp} {t : Nat} {c c' z : AVal} {v v' : Value} (h : abin cx op t c c' = some z) (hc : RelV β objs w N c v) (hc' : RelV β objs w N c' v') (x y : Operand) :
    ∃ u, (do eqGuard op t x y v v'; binOp op t v v' : Sem Value).run cx.prog w = .ok u w ∧ RelV β objs w N z u := by
  unfold abin at h
  split at h
  · -- ints
    rename_i k a k' b
    cases hc with | int ha => cases hc' with | int hb =>
    have hg : (eqGuard op t x y (.int k a) (.int k' b)).run cx.prog w = .ok () w := run_eqGuard_plain (by simp) (by simp) w
    suffices hs : ∃ u, (binOp op t (.int k a) (.int k' b)).run cx.prog w = .ok u w ∧ RelV β objs w N z u from
      let ⟨u, h1, h2⟩ := hs; ⟨u, guard_bin hg h1, h2⟩
    cases op <;> simp only [cond_eq_ite, Bool.or_eq_true, beq_iff_eq, decide_eq_true_eq] at h
    case shl =>
      split at h
      · cases h
      · rename_i hn
        cases h
        exact ⟨_, by simp [binOp, Op.shift, hn], .wrap _ _⟩
    case shr =>
      split at h
      · cases h
      · rename_i hn
        cases h
        exact ⟨_, by simp [binOp, Op.shift, hn], .int fun hk => fdiv_u8 _ (ha hk)⟩
    all_goals
      have hkk : k = k' := by
        split at h
        · assumption
        · cases h
      subst hkk
      simp only [if_true] at h
    case quo =>
      split at h
      · cases h
      · rename_i hn
        cases h
        exact ⟨_, by simp [binOp, Op.intDiv, hn], .wrap _ _⟩
    case rem =>
      split at h
      · cases h
      · rename_i hn
        cases h
        exact ⟨_, by simp [binOp, Op.intDiv, show ¬ b = 0 from hn], .int fun hk => tmod_u8 b (ha hk)⟩
    all_goals (first | (cases h; done) | skip)
    all_goals (have h := Option.some.inj h; subst h)
    case add => exact ⟨_, by simp [binOp, Op.intArith], .wrap _ _⟩
    case sub => exact ⟨_, by simp [binOp, Op.intArith], .wrap _ _⟩
    case mul => exact ⟨_, by simp [binOp, Op.intArith], .wrap _ _⟩
    case and => exact ⟨_, by simp only [binOp, Op.intBits, ne_eq, not_true_eq_false, if_false]; rfl, .wrap _ _⟩
    case or => exact ⟨_, by simp only [binOp, Op.intBits, ne_eq, not_true_eq_false, if_false]; rfl, .wrap _ _⟩
    case xor => exact ⟨_, by simp only [binOp, Op.intBits, ne_eq, not_true_eq_false, if_false]; rfl, .wrap _ _⟩
    case andNot => exact ⟨_, by simp only [binOp, Op.intBits, ne_eq, not_true_eq_false, if_false]; rfl, .wrap _ _⟩
    case eql => exact ⟨_, by simp [binOp, Op.intCmp], .bool _⟩
    case neq => exact ⟨_, by simp [binOp, Op.intCmp], .bool _⟩
    case lss => exact ⟨_, by simp [binOp, Op.intCmp], .bool _⟩
    case leq => exact ⟨_, by simp [binOp, Op.intCmp], .bool _⟩
    case gtr => exact ⟨_, by simp [binOp, Op.intCmp], .bool _⟩
    case geq => exact ⟨_, by simp [binOp, Op.intCmp], .bool _⟩
  · -- texts
    rename_i a b
    cases hc; cases hc'
    have hg : (eqGuard op t x y (.string ⟨a.toArray⟩) (.string ⟨b.toArray⟩)).run cx.prog w = .ok () w := run_eqGuard_plain (by simp) (by simp) w
    suffices hs : ∃ u, (binOp op t (.string ⟨a.toArray⟩) (.string ⟨b.toArray⟩)).run cx.prog w = .ok u w ∧ RelV β objs w N z u from
      let ⟨u, h1, h2⟩ := hs; ⟨u, guard_bin hg h1, h2⟩
    cases op <;> simp only [cond_eq_ite, decide_eq_true_eq] at h
    all_goals first | (cases h; done) | skip
    case add =>
      split at h
      · cases h
      · rename_i hn
        cases h
        refine ⟨_, ?_, .str _⟩
        have hs : ∀ (l : Bytes), (⟨l.toArray⟩ : ByteArray).size = l.length := fun l => by simp [ByteArray.size]
        simp only [binOp, Op.stringOp, hs, str_append]
        rw [if_neg (by simpa [IntKind.max, IntKind.signed, IntKind.bits] using hn)]
        rfl
    all_goals (cases h; exact ⟨_, by simp only [binOp, Op.stringOp, toList_mk]; rfl, .bool _⟩)
  · -- the rest
    rename_i n1 n2
    have key : ∀ r, aeq cx t c c' = some r → (op = .eql → ∃ u, (do eqGuard op t x y v v'; binOp op t v v' : Sem Value).run cx.prog w = .ok u w ∧ u = .bool r) ∧ (op = .neq → ∃ u, (do eqGuard op t x y v v'; binOp op t v v' : Sem Value).run cx.prog w = .ok u w ∧ u = .bool (!r)) := by
      intro r hr
      obtain ⟨h1, h2, h3, h4, h5, h6⟩ := aeq_run hok hr hc hc' x y op
      refine ⟨?_, ?_⟩
      · rintro rfl
        refine ⟨_, guard_bin h1 (u := .bool r) ?_, rfl⟩
        cases v <;> first | exact absurd rfl (h3 _ _) | exact absurd rfl (h4 _) | exact absurd rfl (h5 _ _) | exact absurd rfl (h6 _ _ _) | (simp [binOp, h2])
      · rintro rfl
        refine ⟨_, guard_bin h1 (u := .bool (!r)) ?_, rfl⟩
        cases v <;> first | exact absurd rfl (h3 _ _) | exact absurd rfl (h4 _) | exact absurd rfl (h5 _ _) | exact absurd rfl (h6 _ _ _) | (simp [binOp, h2])
    cases op <;> first | (cases h; done) | skip
    · obtain ⟨r, hr, rfl⟩ := Option.map_eq_some_iff.1 h
      obtain ⟨u, hu, rfl⟩ := (key r hr).1 rfl
      exact ⟨_, hu, .bool _⟩
    · obtain ⟨r, hr, rfl⟩ := Option.map_eq_some_iff.1 h
      obtain ⟨u, hu, rfl⟩ := (key r hr).2 rfl
      exact ⟨_, hu, .bool _⟩

theorem abinF_eq {op : BinOp} {t : Nat} {a b z : AVal} (hb : abad op a b = false) (h : abinF cx op t a b = some z) : abin cx op t a b = some z := by
  rw [← h]
  unfold abinF abin
  split
  · rename_i k x k' y
    unfold abad at hb
    cases op <;> simp only at hb ⊢ <;> first | rfl | (simp only [hb, cond_false])
  · rename_i x y
    unfold abad at hb
    cases op <;> simp only at hb ⊢ <;> first | rfl | (simp only [hb, cond_false])
  · rfl
theorem aun_run {op : UnOp} {c z : AVal} {v : Value} (h : aun op c = some z) (hc : RelV β objs w N c v) : ∃ u, (Op.unary op v).run cx.prog w = .ok u w ∧ RelV β objs w N z u := by
  unfold aun at h
  split at h
  · cases h; cases hc with | int ha => exact ⟨_, by simp [Op.unary, Op.intArith], .wrap _ _⟩
  · cases h; cases hc with | int ha => exact ⟨_, by simp only [Op.unary, Op.intBits]; rfl, .wrap _ _⟩
  · cases h; cases hc; exact ⟨_, by simp [Op.unary], .bool _⟩
  · cases h
end
end Go.Ev
