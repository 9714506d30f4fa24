/-
  PLAIN LAWS: what an evaluation with enough depth answers.
-/
import Derived.Test.YtpkhhaolkfaoaaaHpEwH
set_option linter.unusedVariables false
namespace Go.Ev

/-- With enough depth. -/
def Ans {α : Type} (f : Nat → Option α) (r : α) : Prop := ∃ N, ∀ k, N ≤ k → f k = some r
def Ans2 {α : Type} (f : Nat → Nat → Option α) (r : α) : Prop := ∃ N, ∀ k n, N ≤ k → N ≤ n → f k n = some r
section
variable {α β : Type} {r : α}
theorem Ans.const : Ans (fun _ => some r) r := ⟨0, fun _ _ => rfl⟩
theorem Ans2.const : Ans2 (fun _ _ => some r) r := ⟨0, fun _ _ _ _ => rfl⟩
theorem Ans.of {f g : Nat → Option α} (h : ∀ k, f k = g k) (hg : Ans g r) : Ans f r := by
  obtain ⟨N, hN⟩ := hg
  exact ⟨N, fun k hk => (h k).trans (hN k hk)⟩
theorem Ans2.of {f g : Nat → Nat → Option α} (h : ∀ k n, f k n = g k n) (hg : Ans2 g r) : Ans2 f r := by
  obtain ⟨N, hN⟩ := hg
  exact ⟨N, fun k n hk hn => (h k n).trans (hN k n hk hn)⟩
theorem Ans.succ {f g : Nat → Option α} (h : ∀ k, f (k + 1) = g k) (hg : Ans g r) : Ans f r := by
  obtain ⟨N, hN⟩ := hg
  refine ⟨N + 1, fun k hk => ?_⟩
  obtain ⟨j, rfl⟩ : ∃ j, k = j + 1 := ⟨k - 1, by omega⟩
  rw [h]; exact hN j (by omega)
theorem Ans.plus {f : Nat → Option α} (c : Nat) (h : ∀ k, f (k + c) = some r) : Ans f r :=
  ⟨c, fun k hk => by obtain ⟨j, rfl⟩ : ∃ j, k = j + c := ⟨k - c, by omega⟩; exact h j⟩
theorem Ans2.succ {f g : Nat → Nat → Option α} (h : ∀ k n, f k (n + 1) = g k n) (hg : Ans2 g r) : Ans2 f r := by
  obtain ⟨N, hN⟩ := hg
  refine ⟨N + 1, fun k n hk hn => ?_⟩
  obtain ⟨j, rfl⟩ : ∃ j, n = j + 1 := ⟨n - 1, by omega⟩
  rw [h]; exact hN k j (by omega) (by omega)
theorem Ans2.diag {f : Nat → Nat → Option α} (h : Ans2 f r) : Ans (fun k => f k k) r := by
  obtain ⟨N, hN⟩ := h
  exact ⟨N, fun k hk => hN k k hk hk⟩
theorem Ans.bind {f : Nat → Option β} {a : β} {g : Nat → β → Option α} (hf : Ans f a) (hg : Ans (fun k => g k a) r) : Ans (fun k => (f k).bind (g k)) r := by
  obtain ⟨N, hN⟩ := hf
  obtain ⟨M, hM⟩ := hg
  refine ⟨max N M, fun k hk => ?_⟩
  show (f k).bind (g k) = some r
  rw [hN k (by omega)]; exact hM k (by omega)
theorem Ans2.bind {f : Nat → Option β} {a : β} {g : Nat → Nat → β → Option α} (hf : Ans f a) (hg : Ans2 (fun k n => g k n a) r) : Ans2 (fun k n => (f k).bind (g k n)) r := by
  obtain ⟨N, hN⟩ := hf
  obtain ⟨M, hM⟩ := hg
  refine ⟨max N M, fun k n hk hn => ?_⟩
  show (f k).bind (g k n) = some r
  rw [hN k (by omega)]; exact hM k n (by omega) (by omega)
theorem Ans.yes {f g : Nat → Option α} {b : Bool} (hb : b = true) (h : Ans f r) : Ans (fun k => bif b then f k else g k) r := by subst hb; exact h
theorem Ans.no {f g : Nat → Option α} {b : Bool} (hb : b = false) (h : Ans g r) : Ans (fun k => bif b then f k else g k) r := by subst hb; exact h
theorem Ans2.yes {f g : Nat → Nat → Option α} {b : Bool} (hb : b = true) (h : Ans2 f r) : Ans2 (fun k n => bif b then f k n else g k n) r := by subst hb; exact h
theorem Ans2.no {f g : Nat → Nat → Option α} {b : Bool} (hb : b = false) (h : Ans2 g r) : Ans2 (fun k n => bif b then f k n else g k n) r := by subst hb; exact h
theorem Ans.ex {f : Nat → Option α} (h : Ans f r) : ∃ k, f k = some r := by
  obtain ⟨N, hN⟩ := h
  exact ⟨N, hN N (Nat.le_refl _)⟩
end

theorem idx_nat {α : Type} {xs : List α} {i : Nat} (h : i < xs.length) : idx xs ((i : Nat) : Int) = some xs[i] := by
  simp [idx, h]
theorem lt_nat {α : Type} {xs : List α} {i : Nat} (h : i < xs.length) : decide (((i : Nat) : Int) < ((xs.length : Nat) : Int)) = true := by simp [h]
theorem nlt_nat {α : Type} {xs : List α} {i : Nat} (h : xs.length ≤ i) : decide (((i : Nat) : Int) < ((xs.length : Nat) : Int)) = false := by simp; omega
theorem wrap_id {n : Int} (h : -9223372036854775808 ≤ n) (h' : n ≤ 9223372036854775807) : IntKind.i64.wrap n = n := by
  simp only [IntKind.wrap, IntKind.bits, IntKind.signed]
  simp
  omega
theorem wrap_succ {i m : Nat} (h : i < m) (hm : m ≤ 9223372036854775807) : IntKind.i64.wrap (((i : Nat) : Int) + 1) = ((i + 1 : Nat) : Int) := by
  rw [wrap_id (by omega) (by omega)]; simp
theorem pat_eta (q : Pat) : (⟨q.k, q.var, q.type, q.lo, q.hi, q.l⟩ : Pat) = q := by cases q; rfl
theorem exp_eta (q : Exp) : (⟨q.k, q.v, q.var, q.field, q.l⟩ : Exp) = q := by cases q; rfl
theorem choose_all {α β : Type} {R : α → β → Prop} : ∀ (l : List α), (∀ a ∈ l, ∃ b, R a b) → ∃ bs : List β, bs.length = l.length ∧ ∀ (i : Nat) (h : i < l.length) (h' : i < bs.length), R l[i] bs[i]
  | [], _ => ⟨[], rfl, by simp⟩
  | a :: l, h => by
    obtain ⟨b, hb⟩ := h a (by simp)
    obtain ⟨bs, h1, h2⟩ := choose_all l fun x hx => h x (by simp [hx])
    refine ⟨b :: bs, by simp [h1], fun i h3 h4 => ?_⟩
    cases i with
    | zero => exact hb
    | succ i => exact h2 i (by simpa using h3) (by simpa using h4)

/-- A loop that appends what it makes of each element. -/
theorem loop_map {α β γ R : Type} {xs : List α} {loop : Nat → Nat → Int → List β → Option R} {f : Nat → α → Option γ} {g : α → γ → β} {fin : Nat → List β → Option R} {c : Nat} {qs : List β} {res : R}
    (step : ∀ (k n i : Nat) (h : i < xs.length) (acc : List β), loop k (n + 1) (i : Int) acc = (f k xs[i]).bind fun r => bif decide ((acc.length + 1) * c ≤ 140737488355328) then loop k n ((i + 1 : Nat) : Int) (acc ++ [g xs[i] r]) else none)
    (last : ∀ (k n : Nat) (acc : List β), loop k (n + 1) ((xs.length : Nat) : Int) acc = fin k acc) (hc : xs.length * c ≤ reachBytes) (hq : qs.length = xs.length)
    (h : ∀ (i : Nat) (h : i < xs.length) (h' : i < qs.length), ∃ r, Ans (fun k => f k xs[i]) r ∧ g xs[i] r = qs[i]) (hf : Ans (fun k => fin k qs) res) :
    ∀ (d i : Nat) (acc : List β), i + d = xs.length → acc = qs.take i → Ans2 (fun k n => loop k n (i : Int) acc) res
  | 0, i, acc, hi, ha => by
    have : i = xs.length := by omega
    subst this
    have e : acc = qs := by rw [ha, List.take_of_length_le (by omega)]
    subst e
    obtain ⟨N, hN⟩ := hf
    refine ⟨N + 1, fun k n hk hn => ?_⟩
    obtain ⟨j, rfl⟩ : ∃ j, n = j + 1 := ⟨n - 1, by omega⟩
    show loop k (j + 1) _ acc = some res
    rw [last]; exact hN k (by omega)
  | d + 1, i, acc, hi, ha => by
    have hlt : i < xs.length := by omega
    have hlt' : i < qs.length := by omega
    obtain ⟨r, hr, hg⟩ := h i hlt hlt'
    have ih := loop_map step last hc hq h hf d (i + 1) (acc ++ [g xs[i] r]) (by omega) (by rw [ha, hg, List.take_succ_eq_append_getElem hlt'])
    refine .succ (step · · i hlt acc) (.bind hr (.yes (decide_eq_true ?_) ih))
    have hl : acc.length = i := by rw [ha, List.length_take]; omega
    have h1 : (acc.length + 1) * c ≤ xs.length * c := Nat.mul_le_mul_right _ (by omega)
    simp only [reachBytes] at hc
    omega

theorem loop_first {α β γ R : Type} {xs : List α} {loop0 : Nat → Nat → Option R} {loop : Nat → Nat → Int → List β → Option R} {f : Nat → α → Option γ} {g : α → γ → β} {fin : Nat → List β → Option R} {c : Nat} {qs : List β} {res : R}
    (step0 : ∀ (k n : Nat) (h : 0 < xs.length), loop0 k (n + 1) = (f k xs[0]).bind fun r => loop k n ((1 : Nat) : Int) [g xs[0] r])
    (last0 : ∀ (k n : Nat), xs.length = 0 → loop0 k (n + 1) = fin k [])
    (step : ∀ (k n i : Nat) (h : i < xs.length) (acc : List β), loop k (n + 1) (i : Int) acc = (f k xs[i]).bind fun r => bif decide ((acc.length + 1) * c ≤ 140737488355328) then loop k n ((i + 1 : Nat) : Int) (acc ++ [g xs[i] r]) else none)
    (last : ∀ (k n : Nat) (acc : List β), loop k (n + 1) ((xs.length : Nat) : Int) acc = fin k acc) (hc : xs.length * c ≤ reachBytes) (hq : qs.length = xs.length)
    (h : ∀ (i : Nat) (h : i < xs.length) (h' : i < qs.length), ∃ r, Ans (fun k => f k xs[i]) r ∧ g xs[i] r = qs[i]) (hf : Ans (fun k => fin k qs) res) : Ans2 loop0 res := by
  by_cases h0 : 0 < xs.length
  · have hlt' : 0 < qs.length := by omega
    obtain ⟨r, hr, hg⟩ := h 0 h0 hlt'
    refine .succ (step0 · · h0) (.bind hr (loop_map step last hc hq h hf (xs.length - 1) 1 [g xs[0] r] (by omega) ?_))
    rw [hg, List.take_succ_eq_append_getElem hlt']; rfl
  · have e0 : qs = [] := List.eq_nil_of_length_eq_zero (by omega)
    subst e0
    obtain ⟨N, hN⟩ := hf
    refine ⟨N + 1, fun k n hk hn => ?_⟩
    obtain ⟨j, rfl⟩ : ∃ j, n = j + 1 := ⟨n - 1, by omega⟩
    rw [last0 k j (by omega)]; exact hN k (by omega)
theorem Ans.two {α : Type} {r : α} {f : Nat → Option α} (h : Ans f r) : Ans2 (fun k _ => f k) r := by
  obtain ⟨N, hN⟩ := h
  exact ⟨N, fun k _ hk _ => hN k hk⟩

inductive ExpSmall : Exp → Prop
  | mk {p : Exp} (h : p.l.length * 96 ≤ reachBytes) (hl : ∀ d ∈ p.l, ExpSmall d) : ExpSmall p
theorem ExpSmall.len {p : Exp} (h : ExpSmall p) : p.l.length * 96 ≤ reachBytes := by cases h; assumption
theorem good_exps {c : AVal} (h : Good c) : ∀ xs : List Exp, c = .sl .exp false xs → xs.length * 96 ≤ reachBytes ∧ ∀ d ∈ xs, ExpSmall d := by
  induction h with
  | sl h hb he ih =>
    intro xs e
    cases e
    refine ⟨hb, fun d hd => ?_⟩
    obtain ⟨h1, h2⟩ := ih d hd (.sl .exp false d.l) (by simp [cells]) d.l rfl
    exact .mk h1 h2
  | _ => intro xs e; cases e
/-- A pattern whose rows are of a machine's size. -/
inductive PatSmall : Pat → Prop
  | mk {p : Pat} (h : p.l.length * 80 ≤ reachBytes) (hl : ∀ d ∈ p.l, PatSmall d) : PatSmall p
theorem PatSmall.len {p : Pat} (h : PatSmall p) : p.l.length * 80 ≤ reachBytes := by cases h; assumption
theorem PatSmall.sub {p : Pat} (h : PatSmall p) {d : Pat} (hd : d ∈ p.l) : PatSmall d := by cases h with | mk _ hl => exact hl d hd
theorem good_pats {c : AVal} (h : Good c) : ∀ xs : List Pat, c = .sl .pat false xs → xs.length * 80 ≤ reachBytes ∧ ∀ d ∈ xs, PatSmall d := by
  induction h with
  | sl h hb he ih =>
    intro xs e
    cases e
    refine ⟨hb, fun d hd => ?_⟩
    obtain ⟨h1, h2⟩ := ih d hd (.sl .pat false d.l) (by simp [cells]) d.l rfl
    exact .mk h1 h2
  | _ => intro xs e; cases e
theorem good_pat {p : Pat} (h : ∀ c ∈ cells .pat p, Good c) : PatSmall p := by
  obtain ⟨h1, h2⟩ := good_pats (h (.sl .pat false p.l) (by simp [cells])) p.l rfl
  exact .mk h1 h2
structure QrySmall (q : Qry) : Prop where
  p : PatSmall q.p
  wl : q.where_.length * 96 ≤ reachBytes
  w : ∀ d ∈ q.where_, ExpSmall d
  il : q.items.length * 56 ≤ reachBytes
theorem good_qry {q : Qry} (h : ∀ c ∈ cells .qry q, Good c) : QrySmall q := by
  obtain ⟨h1, h2⟩ := good_pats (h (.sl .pat false q.p.l) (by simp [cells])) q.p.l rfl
  obtain ⟨h3, h4⟩ := good_exps (h (.sl .exp false q.where_) (by simp [cells])) q.where_ rfl
  refine ⟨.mk h1 h2, h3, h4, ?_⟩
  cases h (.sl .itm false q.items) (by simp [cells]) with | sl _ hb _ => exact hb
theorem good_strs {xs : List Bytes} (h : Good (.sl .str false xs)) : xs.length * 16 ≤ reachBytes := by cases h with | sl _ hb _ => exact hb
theorem reach_small {n m : Nat} (h : n * m ≤ reachBytes) (hm : 0 < m) : n ≤ 140737488351232 := by
  have : n ≤ n * m := Nat.le_mul_of_pos_right n hm
  simp only [reachBytes] at h
  omega
end Go.Ev
