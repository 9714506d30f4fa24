/-
  PLAIN LAWS: texts by numbers: the map of a dictionary; nested sums.
-/
import Derived.Test.YtolhfcknlfmmcacHpAns3
import Derived.Test.YtolhfcknlfmmcacHpVget
set_option linter.unusedVariables false
namespace Go.Ev
def numsF : Nat → Nat → List Int
  | _, 0 => []
  | a, n + 1 => (a : Int) :: numsF (a + 1) n
def nums (n : Nat) : List Int := numsF 0 n
theorem numsF_succ : ∀ (n a : Nat), numsF a (n + 1) = numsF a n ++ [((a + n : Nat) : Int)]
  | 0, a => by simp [numsF]
  | n + 1, a => by
    rw [numsF, numsF_succ n (a + 1)]
    show _ = (a : Int) :: numsF (a + 1) n ++ _
    rw [show a + (n + 1) = a + 1 + n by omega]; rfl
theorem nums_succ (n : Nat) : nums (n + 1) = nums n ++ [(n : Int)] := by unfold nums; rw [numsF_succ]; simp
theorem hasK_iff : ∀ (ks : List Bytes) (s : Bytes), hasK ks s = decide (s ∈ ks)
  | [], s => by simp [hasK]
  | k :: ks, s => by
    unfold hasK
    cases e : k == s with
    | true =>
      have : k = s := by simpa using e
      simp [this]
    | false =>
      have : k ≠ s := by simpa using e
      rw [cond_false, hasK_iff ks s]
      simp [Ne.symm this]
theorem lookN : ∀ (ks : List Bytes) (a : Nat) (s : Bytes), s ∈ ks → lookM ks (numsF a ks.length) s 0 = ((a + ks.idxOf s : Nat) : Int)
  | [], a, s, h => by simp at h
  | k :: ks, a, s, h => by
    show lookM (k :: ks) ((a : Int) :: numsF (a + 1) ks.length) s 0 = _
    unfold lookM
    cases e : k == s with
    | true => rw [cond_true, List.idxOf_cons, e]; simp
    | false =>
      have hne : k ≠ s := by simpa using e
      have hm : s ∈ ks := by
        rcases List.mem_cons.1 h with h | h
        · exact absurd h.symm hne
        · exact h
      rw [cond_false, lookN ks (a + 1) s hm, List.idxOf_cons, e]
      simp; omega
theorem lookNums {ks : List Bytes} {s : Bytes} (h : s ∈ ks) : lookM ks (nums ks.length) s 0 = ((ks.idxOf s : Nat) : Int) := by
  have := lookN ks 0 s h
  rw [Nat.zero_add] at this; exact this
theorem lookNo : ∀ (ks : List Bytes) (a : Nat) (s : Bytes), s ∉ ks → lookM ks (numsF a ks.length) s 0 = 0
  | [], a, s, h => by simp [lookM]
  | k :: ks, a, s, h => by
    have hne : (k == s) = false := by simp at h; simp; exact fun e => h.1 e.symm
    show lookM (k :: ks) ((a : Int) :: numsF (a + 1) ks.length) s 0 = _
    unfold lookM
    rw [hne, cond_false]
    exact lookNo ks (a + 1) s (by simp at h; exact h.2)
theorem putVN : ∀ (ks : List Bytes) (a : Nat) (s : Bytes) (v : Int), s ∉ ks → putV ks (numsF a ks.length) s v = numsF a ks.length ++ [v]
  | [], a, s, v, _ => rfl
  | k :: ks, a, s, v, h => by
    have hne : (k == s) = false := by simp at h; simp; exact fun e => h.1 e.symm
    show putV (k :: ks) ((a : Int) :: numsF (a + 1) ks.length) s v = _
    unfold putV
    rw [hne, cond_false, putVN ks (a + 1) s v (by simp at h; exact h.2)]; rfl
theorem putNums {ks : List Bytes} {s : Bytes} (h : s ∉ ks) : putV ks (nums ks.length) s ((ks.length : Nat) : Int) = nums (ks ++ [s]).length := by
  unfold nums
  rw [putVN ks 0 s _ h]
  have := numsF_succ ks.length 0
  rw [Nat.zero_add] at this
  rw [← this]; simp
theorem idxOf_get {ks : List Bytes} {s : Bytes} (h : s ∈ ks) : ks[ks.idxOf s]'(List.idxOf_lt_length_of_mem h) = s := List.getElem_idxOf _
theorem idxA0 {α : Type} {xs : List α} {i : Nat} (h : i < xs.length) : Ans (fun _ => idx xs ((i : Nat) : Int)) xs[i] := .of (fun _ => idx_nat h) .const
theorem getA0 {α : Type} {xs : List α} {i : Nat} (h : i < xs.length) : Ans (fun _ => xs[Int.toNat ((i : Nat) : Int)]?) xs[i] := .of (fun _ => by rw [Int.toNat_natCast]; simp [h]) .const
/-! ### Sums -/
theorem Ans.sumR {α β γ : Type} {F : Nat → α → Option γ} {G : Nat → β → Option γ} {b : β} {res : γ} (hg : Ans (fun k => G k b) res) : Ans (fun k => Sum.elim (F k) (G k) (Sum.inr b : α ⊕ β)) res := hg
theorem Ans.sumL {α β γ : Type} {F : Nat → α → Option γ} {G : Nat → β → Option γ} {b : α} {res : γ} (hg : Ans (fun k => F k b) res) : Ans (fun k => Sum.elim (F k) (G k) (Sum.inl b : α ⊕ β)) res := hg
theorem Ans.elimL {α β γ : Type} {f : Nat → Option (α ⊕ β)} {F : Nat → α → Option γ} {G : Nat → β → Option γ} {b : α} {res : γ} (h : Ans f (Sum.inl b)) (hg : Ans (fun k => F k b) res) : Ans (fun k => (f k).bind fun r => Sum.elim (F k) (G k) r) res := by
  obtain ⟨N, hN⟩ := h
  obtain ⟨M, hM⟩ := hg
  refine ⟨max N M, fun k hk => ?_⟩
  show ((f k).bind fun r => Sum.elim (F k) (G k) r) = some res
  rw [hN k (by omega)]; exact hM k (by omega)
theorem Ans2.elimL {α β γ : Type} {f : Nat → Option (α ⊕ β)} {F : Nat → Nat → α → Option γ} {G : Nat → Nat → β → Option γ} {b : α} {res : γ} (h : Ans f (Sum.inl b)) (hg : Ans2 (fun k n => F k n b) res) : Ans2 (fun k n => (f k).bind fun r => Sum.elim (F k n) (G k n) r) res := by
  obtain ⟨N, hN⟩ := h
  obtain ⟨M, hM⟩ := hg
  refine ⟨max N M, fun k n hk hn => ?_⟩
  show ((f k).bind fun r => Sum.elim (F k n) (G k n) r) = some res
  rw [hN k (by omega)]; exact hM k n (by omega) (by omega)
theorem Ans2.sumR {α β γ : Type} {F : Nat → Nat → α → Option γ} {G : Nat → Nat → β → Option γ} {b : β} {res : γ} (hg : Ans2 (fun k n => G k n b) res) : Ans2 (fun k n => Sum.elim (F k n) (G k n) (Sum.inr b : α ⊕ β)) res := hg
theorem Ans2.sumL {α β γ : Type} {F : Nat → Nat → α → Option γ} {G : Nat → Nat → β → Option γ} {b : α} {res : γ} (hg : Ans2 (fun k n => F k n b) res) : Ans2 (fun k n => Sum.elim (F k n) (G k n) (Sum.inl b : α ⊕ β)) res := hg
end Go.Ev
