/-
  BindWays: the plain law, part 1: what Of and Ways answer.
-/
import Derived.Test.YtpkhhaolkfaoaaaHpClone
import Derived.Test.YtpkhhaolkfaoaaaHpAns3
set_option linter.unusedVariables false
set_option linter.unusedSectionVars false
set_option linter.unusedSimpArgs false
namespace Go.Ev.HpBW
open Go
theorem elimL2 {α β γ : Type} {f : Nat → Option (α ⊕ β)} {F : Nat → Nat → α → Option γ} {G : Nat → Nat → β → Option γ} {b : α} {res : γ} (h : Ans f (Sum.inl b)) (hg : Ans2 (fun k n => F k n b) res) : Ans2 (fun k n => (f k).bind fun r => Sum.elim (F k n) (G k n) r) res := by
  obtain ⟨N, hN⟩ := h
  obtain ⟨M, hM⟩ := hg
  refine ⟨max N M, fun k n hk hn => ?_⟩
  show ((f k).bind fun r => Sum.elim (F k n) (G k n) r) = some res
  rw [hN k (by omega)]; exact hM k n (by omega) (by omega)
theorem elimR2 {α β γ : Type} {f : Nat → Option (α ⊕ β)} {F : Nat → Nat → α → Option γ} {G : Nat → Nat → β → Option γ} {b : β} {res : γ} (h : Ans f (Sum.inr b)) (hg : Ans2 (fun k n => G k n b) res) : Ans2 (fun k n => (f k).bind fun r => Sum.elim (F k n) (G k n) r) res := by
  obtain ⟨N, hN⟩ := h
  obtain ⟨M, hM⟩ := hg
  refine ⟨max N M, fun k n hk hn => ?_⟩
  show ((f k).bind fun r => Sum.elim (F k n) (G k n) r) = some res
  rw [hN k (by omega)]; exact hM k n (by omega) (by omega)
theorem elimL1 {α β γ : Type} {f : Nat → Option (α ⊕ β)} {F : Nat → α → Option γ} {G : Nat → β → Option γ} {b : α} {res : γ} (h : Ans f (Sum.inl b)) (hg : Ans (fun k => F k b) res) : Ans (fun k => (f k).bind fun r => Sum.elim (F k) (G k) r) res := by
  obtain ⟨N, hN⟩ := h
  obtain ⟨M, hM⟩ := hg
  refine ⟨max N M, fun k hk => ?_⟩
  show ((f k).bind fun r => Sum.elim (F k) (G k) r) = some res
  rw [hN k (by omega)]; exact hM k (by omega)
theorem elimR1 {α β γ : Type} {f : Nat → Option (α ⊕ β)} {F : Nat → α → Option γ} {G : Nat → β → Option γ} {b : β} {res : γ} (h : Ans f (Sum.inr b)) (hg : Ans (fun k => G k b) res) : Ans (fun k => (f k).bind fun r => Sum.elim (F k) (G k) r) res := by
  obtain ⟨N, hN⟩ := h
  obtain ⟨M, hM⟩ := hg
  refine ⟨max N M, fun k hk => ?_⟩
  show ((f k).bind fun r => Sum.elim (F k) (G k) r) = some res
  rw [hN k (by omega)]; exact hM k (by omega)
theorem succ2 {α : Type} {r : α} {f g : Nat → Option α} (h : ∀ k, f (k + 2) = g k) (hg : Ans g r) : Ans f r := by
  obtain ⟨N, hN⟩ := hg
  refine ⟨N + 2, fun k hk => ?_⟩
  obtain ⟨j, rfl⟩ : ∃ j, k = j + 2 := ⟨k - 2, by omega⟩
  rw [h]; exact hN j (by omega)
theorem up {α : Type} {r : α} {f : Nat → Option α} (h : Ans f r) : Ans (fun k => f (k + 1)) r := by
  obtain ⟨N, hN⟩ := h
  exact ⟨N, fun k hk => hN (k + 1) (by omega)⟩
theorem idxA {α : Type} {xs : List α} {i : Nat} (h : i < xs.length) : Ans (fun _ => idx xs ((i : Nat) : Int)) xs[i] := .of (fun _ => idx_nat h) .const
theorem getA {α : Type} {xs : List α} {i : Nat} (h : i < xs.length) : Ans (fun _ => xs[Int.toNat ((i : Nat) : Int)]?) xs[i] := .of (fun _ => List.getElem?_eq_getElem h) .const

/-! ### Places -/
def ofL (l : List Bnd) (v : Bytes) : List Int := (l.filter fun b => b.var == v).map (·.at_)
theorem ofL_len (l : List Bnd) (v : Bytes) : (ofL l v).length ≤ l.length := by unfold ofL; rw [List.length_map]; exact List.length_filter_le _ _
theorem ofL_step {l : List Bnd} {v : Bytes} {i : Nat} (h : i < l.length) : ofL (l.take (i + 1)) v = ofL (l.take i) v ++ bif l[i].var == v then [l[i].at_] else [] := by
  rw [List.take_succ_eq_append_getElem h]
  unfold ofL
  rw [List.filter_append, List.map_append]
  congr 1
  cases e : l[i].var == v <;> simp [List.filter, e]
section
variable {l : List Bnd} (hl : l.length ≤ 300)
include hl
theorem room {i : Nat} (v : Bytes) (x : Int) (h : i < l.length) : decide (((ofL (l.take i) v).length + ([x] : List Int).length) * 8 ≤ 140737488355328) = true := by
  have := ofL_len (l.take i) v
  rw [List.length_take] at this
  simp; omega
theorem of1 (v : Bytes) : ∀ d i, i + d = l.length → Ans2 (fun k n => bind_Of_l0 k n l v ((i : Nat) : Int) (ofL (l.take i) v)) (ofL l v, ()) := by
  intro d
  induction d with
  | zero =>
    intro i hi
    refine .succ (fun k n => bind_Of_l0_eq k n l v _ _) (.no (nlt_nat (by omega)) ?_)
    rw [List.take_of_length_le (by omega)]; exact .const
  | succ d ih =>
    intro i hi
    have h : i < l.length := by omega
    have := ih (i + 1) (by omega)
    rw [ofL_step h] at this
    refine .succ (fun k n => bind_Of_l0_eq k n l v _ _) (.yes (lt_nat h) (.bind (idxA h) ?_))
    cases e : l[i].var == v with
    | true =>
      rw [e] at this
      refine .yes rfl (.yes (room hl v _ h) (.of (fun k n => ?_) this))
      rw [wrap_succ h (by omega)]; rfl
    | false =>
      rw [e, cond_false, List.append_nil] at this
      refine .no rfl (.of (fun k n => ?_) this)
      rw [wrap_succ h (by omega)]
theorem of2 (v : Bytes) : ∀ d i, i + d = l.length → Ans2 (fun k n => ref27_Of_l0 k n l v ((i : Nat) : Int) (ofL (l.take i) v)) (ofL l v, ()) := by
  intro d
  induction d with
  | zero =>
    intro i hi
    refine .succ (fun k n => ref27_Of_l0_eq k n l v _ _) (.no (nlt_nat (by omega)) ?_)
    rw [List.take_of_length_le (by omega)]; exact .const
  | succ d ih =>
    intro i hi
    have h : i < l.length := by omega
    have := ih (i + 1) (by omega)
    rw [ofL_step h] at this
    refine .succ (fun k n => ref27_Of_l0_eq k n l v _ _) (.yes (lt_nat h) (.bind (idxA h) ?_))
    cases e : l[i].var == v with
    | true =>
      rw [e] at this
      refine .yes rfl (.bind (idxA h) (.yes (room hl v _ h) (.of (fun k n => ?_) this)))
      rw [wrap_succ h (by omega)]; rfl
    | false =>
      rw [e, cond_false, List.append_nil] at this
      refine .no rfl (.of (fun k n => ?_) this)
      rw [wrap_succ h (by omega)]
theorem Of (v : Bytes) : Ans (fun k => bind_Of k l v) (ofL l v, ()) := .succ (fun k => bind_Of_eq k l v) (of1 hl v l.length 0 (by omega)).diag
theorem OfR (v : Bytes) : Ans (fun k => ref27_Of k l v) (ofL l v, ()) := .succ (fun k => ref27_Of_eq k l v) (of2 hl v l.length 0 (by omega)).diag
end

/-! ### Ways -/
def ways : List (List Int) → List (List Int)
  | [] => [[]]
  | p :: ps => p.flatMap fun a => (ways ps).map fun w => a :: w
def prodL : List (List Int) → Nat
  | [] => 1
  | p :: ps => p.length * prodL ps
theorem sum_const {α : Type} : ∀ (xs : List α) (c : Nat), (xs.map fun _ => c).sum = xs.length * c
  | [], c => by simp
  | x :: xs, c => by rw [List.map_cons, List.sum_cons, sum_const xs c, List.length_cons, Nat.succ_mul]; omega
theorem ways_len : ∀ ps, (ways ps).length = prodL ps
  | [] => rfl
  | p :: ps => by
    unfold ways prodL
    rw [List.length_flatMap]
    simp only [List.length_map, ways_len ps]
    exact sum_const p _
theorem prodL_append : ∀ ps q, prodL (ps ++ [q]) = prodL ps * q.length
  | [], q => by simp [prodL]
  | p :: ps, q => by simp [prodL, prodL_append ps q, Nat.mul_assoc]
theorem ways_mem : ∀ ps, ∀ w ∈ ways ps, w.length = ps.length ∧ ∀ (k : Nat) (h : k < w.length) (h' : k < ps.length), w[k] ∈ ps[k]
  | [], w, h => by
    simp [ways] at h
    subst h
    simp
  | p :: ps, w, h => by
    simp only [ways, List.mem_flatMap, List.mem_map] at h
    obtain ⟨a, ha, w, hw, rfl⟩ := h
    obtain ⟨h1, h2⟩ := ways_mem ps w hw
    refine ⟨by simp [h1], fun k h h' => ?_⟩
    cases k with
    | zero => exact ha
    | succ k => exact h2 k (by simpa using h) (by simpa using h')
def grow (out : List (List Int)) (p : List Int) : List (List Int) := out.flatMap fun w => p.map fun a => w ++ [a]
theorem foldl_ways : ∀ (ps out : List (List Int)), ps.foldl grow out = out.flatMap fun w => (ways ps).map fun x => w ++ x
  | [], out => by simp [ways]
  | p :: ps, out => by
    rw [List.foldl_cons, foldl_ways ps]
    unfold grow
    rw [ways]
    simp [List.flatMap_assoc, List.map_flatMap, List.flatMap_map, Function.comp_def]
theorem grow_len (out : List (List Int)) (p : List Int) : (grow out p).length = out.length * p.length := by
  unfold grow
  rw [List.length_flatMap]
  simp only [List.length_map]
  exact sum_const out _
theorem foldl_len : ∀ (ps out : List (List Int)), (ps.foldl grow out).length = out.length * prodL ps
  | [], out => by simp [prodL]
  | p :: ps, out => by rw [List.foldl_cons, foldl_len ps, grow_len, prodL, Nat.mul_assoc]
def someNone (ps : List (List Int)) : Bool := ps.any fun p => p.isEmpty
theorem prod_pos : ∀ {ps : List (List Int)}, someNone ps = false → 0 < prodL ps
  | [], _ => by decide
  | p :: ps, h => by
    simp only [someNone, List.any_cons, Bool.or_eq_false_iff] at h
    have := prod_pos (ps := ps) h.2
    have hp : 0 < p.length := by
      cases p with
      | nil => simp at h
      | cons => simp
    exact Nat.mul_pos hp this
theorem prod_zero : ∀ {ps : List (List Int)}, someNone ps = true → prodL ps = 0
  | [], h => by simp [someNone] at h
  | p :: ps, h => by
    simp only [someNone, List.any_cons, Bool.or_eq_true] at h
    rcases h with h | h
    · have : p = [] := by simpa using h
      simp [prodL, this]
    · have := prod_zero (ps := ps) h
      simp [prodL, this]
theorem stepMin {B P c : Nat} (hB : B ≤ 8192) (hc : 1 ≤ c) (hc' : c ≤ 300) : (if (B : Int) < IntKind.i64.wrap (((min P B : Nat) : Int) * (c : Int)) then (B : Int) else IntKind.i64.wrap (((min P B : Nat) : Int) * (c : Int))) = ((min (P * c) B : Nat) : Int) := by
  have h1 : min P B * c ≤ 8192 * 300 := Nat.mul_le_mul (by omega) hc'
  have e : ((min P B : Nat) : Int) * (c : Int) = ((min P B * c : Nat) : Int) := by push_cast; rfl
  rw [e, wrap_id (by omega) (by omega)]
  have h2 : P ≤ P * c := Nat.le_mul_of_pos_right P hc
  rcases Nat.le_total P B with h | h
  · rw [Nat.min_eq_left h]
    split <;> omega
  · rw [Nat.min_eq_right h]
    have h3 : B ≤ B * c := Nat.le_mul_of_pos_right B hc
    split <;> omega
end Go.Ev.HpBW
