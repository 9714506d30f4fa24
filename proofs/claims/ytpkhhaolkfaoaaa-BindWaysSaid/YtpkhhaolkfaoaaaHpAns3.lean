/-
  PLAIN LAWS: loops in loops.
-/
import Derived.Test.YtpkhhaolkfaoaaaHpLib
set_option linter.unusedVariables false
namespace Go.Ev
def Ans3 {α : Type} (f : Nat → Nat → Nat → Option α) (r : α) : Prop := ∃ N, ∀ k m n, N ≤ k → N ≤ m → N ≤ n → f k m n = some r
section
variable {α β : Type} {r : α}
theorem Ans3.const : Ans3 (fun _ _ _ => some r) r := ⟨0, fun _ _ _ _ _ _ => rfl⟩
theorem Ans3.of {f g : Nat → Nat → Nat → Option α} (h : ∀ k m n, f k m n = g k m n) (hg : Ans3 g r) : Ans3 f r := by
  obtain ⟨N, hN⟩ := hg
  exact ⟨N, fun k m n hk hm hn => (h k m n).trans (hN k m n hk hm hn)⟩
theorem Ans3.succ {f g : Nat → Nat → Nat → Option α} (h : ∀ k m n, f k m (n + 1) = g k m n) (hg : Ans3 g r) : Ans3 f r := by
  obtain ⟨N, hN⟩ := hg
  refine ⟨N + 1, fun k m n hk hm hn => ?_⟩
  obtain ⟨j, rfl⟩ : ∃ j, n = j + 1 := ⟨n - 1, by omega⟩
  rw [h]; exact hN k m j (by omega) (by omega) (by omega)
theorem Ans3.diag {f : Nat → Nat → Nat → Option α} (h : Ans3 f r) : Ans2 (fun k m => f k m k) r := by
  obtain ⟨N, hN⟩ := h
  exact ⟨N, fun k m hk hm => hN k m k hk hm hk⟩
theorem Ans2.three {f : Nat → Nat → Option α} (h : Ans2 f r) : Ans3 (fun k m _ => f k m) r := by
  obtain ⟨N, hN⟩ := h
  exact ⟨N, fun k m _ hk hm _ => hN k m hk hm⟩
theorem Ans3.bind {f : Nat → Option β} {a : β} {g : Nat → Nat → Nat → β → Option α} (hf : Ans f a) (hg : Ans3 (fun k m n => g k m n a) r) : Ans3 (fun k m n => (f k).bind (g k m n)) r := by
  obtain ⟨N, hN⟩ := hf
  obtain ⟨M, hM⟩ := hg
  refine ⟨max N M, fun k m n hk hm hn => ?_⟩
  show (f k).bind (g k m n) = some r
  rw [hN k (by omega)]; exact hM k m n (by omega) (by omega) (by omega)
theorem Ans3.yes {f g : Nat → Nat → Nat → Option α} {b : Bool} (hb : b = true) (h : Ans3 f r) : Ans3 (fun k m n => bif b then f k m n else g k m n) r := by subst hb; exact h
theorem Ans3.no {f g : Nat → Nat → Nat → Option α} {b : Bool} (hb : b = false) (h : Ans3 g r) : Ans3 (fun k m n => bif b then f k m n else g k m n) r := by subst hb; exact h
end
/-! ### Texts, rune by rune -/
theorem runeW_pos (s : Bytes) (pos : Nat) : 0 < runeW s pos := by
  unfold runeW Utf8.decode
  dsimp only
  repeat' split
  all_goals simp
/-! ### Names seen -/
def tr (ks : List Bytes) : List Bool := ks.map fun _ => true
theorem lookM_tr : ∀ (ks : List Bytes) (s : Bytes), lookM ks (tr ks) s false = decide (s ∈ ks)
  | [], s => by simp [lookM]
  | k :: ks, s => by
    unfold lookM tr
    simp only [List.map_cons]
    cases e : k == s with
    | true =>
      have : k = s := by simpa using e
      simp [this]
    | false =>
      have : k ≠ s := by simpa using e
      have ih := lookM_tr ks s
      unfold tr at ih
      simp [ih, Ne.symm this]
theorem putK_new : ∀ (ks : List Bytes) (s : Bytes), s ∉ ks → putK ks s = ks ++ [s]
  | [], s, _ => rfl
  | k :: ks, s, h => by
    have hne : (k == s) = false := by simp at h; simp; exact fun e => h.1 e.symm
    unfold putK
    rw [hne, cond_false, putK_new ks s (by simp at h; exact h.2)]; rfl
theorem putV_new : ∀ (ks : List Bytes) (s : Bytes), s ∉ ks → putV ks (tr ks) s true = tr (ks ++ [s])
  | [], s, _ => rfl
  | k :: ks, s, h => by
    have hne : (k == s) = false := by simp at h; simp; exact fun e => h.1 e.symm
    have ih := putV_new ks s (by simp at h; exact h.2)
    unfold tr at ih ⊢
    simp only [List.map_cons, List.cons_append]
    unfold putV
    rw [hne, cond_false, ih]
/-- No name comes again. -/
def Fresh : List Bytes → List Bytes → Prop
  | _, [] => True
  | ks, n :: ns => n ∉ ks ∧ Fresh (ks ++ [n]) ns
theorem Fresh.spec : ∀ {ns ks : List Bytes}, Fresh ks ns → ns.Nodup ∧ ∀ x ∈ ns, x ∉ ks
  | [], ks, _ => ⟨.nil, by simp⟩
  | n :: ns, ks, h => by
    obtain ⟨h1, h2⟩ := h
    obtain ⟨h3, h4⟩ := Fresh.spec h2
    refine ⟨List.nodup_cons.2 ⟨fun hn => h4 n hn (by simp), h3⟩, fun x hx => ?_⟩
    rcases List.mem_cons.1 hx with rfl | hx
    · exact h1
    · exact fun hk => h4 x hx (by simp [hk])
end Go.Ev
