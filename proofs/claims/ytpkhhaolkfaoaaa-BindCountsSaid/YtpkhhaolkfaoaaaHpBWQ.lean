/-
  BindWays: the plain law, part 2: both Ways answer the same.
-/
import Derived.Test.YtpkhhaolkfaoaaaHpBWP
set_option linter.unusedVariables false
set_option linter.unusedSectionVars false
set_option linter.unusedSimpArgs false
namespace Go.Ev.HpBW
open Go
/-- What Ways answers. -/
def waysR (ps : List (List Int)) : List (List Int) × Bool × Unit :=
  bif someNone ps then ([], false, ()) else bif decide (4096 < prodL ps) then ([], true, ()) else (ways ps, true, ())
theorem len_zero {p : List Int} (h : p.isEmpty = true) : (((List.length p : Nat) : Int) == 0) = true := by
  have : p = [] := by simpa using h
  subst this; rfl
theorem len_pos {p : List Int} (h : p.isEmpty = false) : (((List.length p : Nat) : Int) == 0) = false ∧ 1 ≤ p.length := by
  cases p with
  | nil => cases h
  | cons a p => exact ⟨by simp; omega, by simp⟩
theorem some_append (ps : List (List Int)) (p : List Int) : someNone (ps ++ [p]) = (someNone ps || p.isEmpty) := by simp [someNone]
theorem some_mem {ps : List (List Int)} {p : List Int} (h : p ∈ ps) (he : p.isEmpty = true) : someNone ps = true := by
  simp only [someNone, List.any_eq_true]
  exact ⟨p, h, he⟩
section
variable {l : List Bnd} (hl : l.length ≤ 300)
include hl
theorem places1 (vars : List Bytes) (hv : vars.length ≤ 12) : ∀ d i, i + d = vars.length → someNone ((vars.take i).map (ofL l)) = false →
    Ans2 (fun k n => bind_places_l0 k n l vars ((min (prodL ((vars.take i).map (ofL l))) 4097 : Nat) : Int) ((i : Nat) : Int) ((vars.take i).map (ofL l)))
      (bif someNone (vars.map (ofL l)) then ([], 0, false, ()) else (vars.map (ofL l), ((min (prodL (vars.map (ofL l))) 4097 : Nat) : Int), true, ())) := by
  intro d
  induction d with
  | zero =>
    intro i hi hs
    rw [List.take_of_length_le (by omega)] at hs ⊢
    rw [hs, cond_false]
    exact .succ (fun k n => bind_places_l0_eq k n l vars _ _ _) (.no (nlt_nat (by omega)) .const)
  | succ d ih =>
    intro i hi hs
    have h : i < vars.length := by omega
    have ih := ih (i + 1) (by omega)
    rw [List.take_succ_eq_append_getElem h, List.map_append, List.map_cons, List.map_nil, some_append, hs, Bool.false_or, prodL_append] at ih
    refine .succ (fun k n => bind_places_l0_eq k n l vars _ _ _) (.yes (lt_nat h) (.bind (idxA h) (.bind (Of hl _) ?_)))
    cases e : (ofL l vars[i]).isEmpty with
    | true =>
      rw [some_mem (List.mem_map_of_mem (List.getElem_mem h)) e, cond_true]
      exact .yes (len_zero e) .const
    | false =>
      have h3 := ofL_len l vars[i]
      refine .no (len_pos e).1 (.yes (by simp; omega) (.of (fun k n => ?_) (ih e)))
      have hm := stepMin (B := 4097) (P := prodL ((vars.take i).map (ofL l))) (by omega) (len_pos e).2 (by omega)
      rw [wrap_succ h (by omega)]
      show bind_places_l0 k n l vars (if ((4097 : Nat) : Int) < _ then ((4097 : Nat) : Int) else _) _ _ = _
      rw [hm]
theorem refW1 (vars : List Bytes) (hv : vars.length ≤ 12) {res : List (List Int) × Bool × Unit} (hfin : prodL (vars.map (ofL l)) ≤ 4096 → someNone (vars.map (ofL l)) = false → Ans (fun k => ref27_Ways_l1 k k l vars 0 [[]]) (ways (vars.map (ofL l)), true, ())) : ∀ d i, i + d = vars.length → someNone ((vars.take i).map (ofL l)) = false →
    Ans2 (fun k n => ref27_Ways_l0 k n l vars ((min (prodL ((vars.take i).map (ofL l))) 8192 : Nat) : Int) ((i : Nat) : Int)) (waysR (vars.map (ofL l))) := by
  intro d
  induction d with
  | zero =>
    intro i hi hs
    rw [List.take_of_length_le (by omega)] at hs ⊢
    unfold waysR
    rw [hs, cond_false]
    refine .succ (fun k n => ref27_Ways_l0_eq k n l vars _ _) (.no (nlt_nat (by omega)) ?_)
    cases hd : decide (4096 < prodL (vars.map (ofL l))) with
    | true =>
      have hd' := of_decide_eq_true hd
      exact .yes (decide_eq_true (by omega)) .const
    | false =>
      have hd' := of_decide_eq_false hd
      exact .no (decide_eq_false (by omega)) (hfin (by omega) hs).two
  | succ d ih =>
    intro i hi hs
    have h : i < vars.length := by omega
    have ih := ih (i + 1) (by omega)
    rw [List.take_succ_eq_append_getElem h, List.map_append, List.map_cons, List.map_nil, some_append, hs, Bool.false_or, prodL_append] at ih
    refine .succ (fun k n => ref27_Ways_l0_eq k n l vars _ _) (.yes (lt_nat h) (.bind (idxA h) (.bind (OfR hl _) ?_)))
    cases e : (ofL l vars[i]).isEmpty with
    | true =>
      unfold waysR
      rw [some_mem (List.mem_map_of_mem (List.getElem_mem h)) e, cond_true]
      exact .yes (len_zero e) .const
    | false =>
      have h3 := ofL_len l vars[i]
      refine .no (len_pos e).1 (.of (fun k n => ?_) (ih e))
      have hm := stepMin (B := 8192) (P := prodL ((vars.take i).map (ofL l))) (by omega) (len_pos e).2 (by omega)
      rw [wrap_succ h (by omega)]
      show ref27_Ways_l0 k n l vars (if ((8192 : Nat) : Int) < _ then ((8192 : Nat) : Int) else _) _ = _
      rw [hm]
end

/-! ### The program's walk -/
section
variable {ps : List (List Int)} (hps : ps.length ≤ 12)
abbrev Res (ps : List (List Int)) (w : List Int) (o : List (List Int)) : List (List Int) × List Int × List (List Int) × Bool × Unit := (ps, w, o, true, ())
theorem take_set {w : List Int} {k : Nat} (a : Int) (h : k < w.length) : (w.set k a).take (k + 1) = w.take k ++ [a] := by
  rw [List.take_set, List.take_succ_eq_append_getElem h, List.set_append]
  simp [Nat.min_eq_left (Nat.le_of_lt h)]
/-- One more element of a row. -/
def more (ps : List (List Int)) (k : Nat) (pre : List Int) (d : List Int) : List (List Int) := d.flatMap fun a => (ways (ps.drop (k + 1))).map fun x => pre ++ a :: x
def Steps (ps : List (List Int)) (k : Nat) : Prop := ∀ (w : List Int) (o : List (List Int)), w.length = ps.length → o.length + (ways (ps.drop k)).length ≤ 4096 →
  ∃ w' r, w'.length = w.length ∧ w'.take k = w.take k ∧ Ans (fun d => bind_ways_1_1 d ((k : Nat) : Int) ps w o) r ∧
    (r = .inl (Res ps w' (o ++ (ways (ps.drop k)).map fun x => w.take k ++ x)) ∨ r = .inr (Res ps w' (o ++ (ways (ps.drop k)).map fun x => w.take k ++ x)))
include hps
theorem loop1 {k : Nat} (hk : k < ps.length) (IH : Steps ps (k + 1)) (o0 : List (List Int)) (o1 : List Int) (o2 : List (List Int)) (d : List Int) (hd : d.length ≤ 300) : ∀ e i, i + e = d.length → ∀ (w : List Int) (o : List (List Int)), w.length = ps.length → o.length + (more ps k (w.take k) (d.drop i)).length ≤ 4096 →
    ∃ w', w'.length = w.length ∧ w'.take k = w.take k ∧ Ans2 (fun K n => bind_ways_1_1_l1 K n ((k : Nat) : Int) o0 o1 o2 d ((i : Nat) : Int) ps w o) (.inr (Res ps w' (o ++ more ps k (w.take k) (d.drop i)))) := by
  intro e
  induction e with
  | zero =>
    intro i hi w o hw ho
    refine ⟨w, rfl, rfl, .succ (fun K n => bind_ways_1_1_l1_eq K n _ _ _ _ _ _ _ _ _) (.no (nlt_nat (by omega)) ?_)⟩
    rw [List.drop_of_length_le (by omega)]
    show Ans2 _ (Sum.inr (Res ps w (o ++ [])))
    rw [List.append_nil]; exact .const
  | succ e ih =>
    intro i hi w o hw ho
    have h : i < d.length := by omega
    have hkw : k < w.length := by omega
    have hm : more ps k (w.take k) (d.drop i) = ((ways (ps.drop (k + 1))).map fun x => w.take k ++ d[i] :: x) ++ more ps k (w.take k) (d.drop (i + 1)) := by
      rw [List.drop_eq_getElem_cons h]; rfl
    rw [hm, List.length_append, List.length_map] at ho
    obtain ⟨w1, r1, hw1, ht1, ha1, hr1⟩ := IH (w.set k d[i]) o (by simp [hw]) (by omega)
    rw [List.length_set] at hw1
    have ht2 : w1.take k = w.take k := by
      have := congrArg (List.take k) ht1
      rw [List.take_take, Nat.min_eq_left (by omega), List.take_take, Nat.min_eq_left (by omega), List.take_set_of_le (by omega)] at this
      exact this
    rw [take_set _ hkw] at hr1
    have eo : (o ++ (ways (ps.drop (k + 1))).map fun x => (w.take k ++ [d[i]]) ++ x) = o ++ (ways (ps.drop (k + 1))).map fun x => w.take k ++ d[i] :: x := by simp
    rw [eo] at hr1
    obtain ⟨w2, hw2, ht3, ha2⟩ := ih (i + 1) (by omega) w1 (o ++ (ways (ps.drop (k + 1))).map fun x => w.take k ++ d[i] :: x) (by omega) (by rw [ht2, List.length_append, List.length_map]; omega)
    rw [ht2] at ha2 ht3
    rw [List.append_assoc, ← hm] at ha2
    have hstep : Ans (fun K => bind_ways_1_1 K (IntKind.i64.wrap (((k : Nat) : Int) + 1)) ps (List.set w (Int.toNat ((k : Nat) : Int)) d[i]) o) r1 := .of (fun K => by rw [wrap_succ hk (by omega)]; rfl) ha1
    have hnext : ∀ K n, bind_ways_1_1_l1 K n ((k : Nat) : Int) o0 o1 o2 d (IntKind.i64.wrap (((i : Nat) : Int) + 1)) ps w1 (o ++ (ways (ps.drop (k + 1))).map fun x => w.take k ++ d[i] :: x) = bind_ways_1_1_l1 K n ((k : Nat) : Int) o0 o1 o2 d ((i + 1 : Nat) : Int) ps w1 (o ++ (ways (ps.drop (k + 1))).map fun x => w.take k ++ d[i] :: x) := fun K n => by rw [wrap_succ h (by omega)]
    refine ⟨w2, by omega, ht3, .succ (fun K n => bind_ways_1_1_l1_eq K n _ _ _ _ _ _ _ _ _) (.yes (lt_nat h) (.bind (idxA h) (.bind (idxA hkw) (.bind (getA hkw) ?_))))⟩
    rcases hr1 with rfl | rfl
    · exact elimL2 hstep (.no rfl (.of hnext ha2))
    · exact elimR2 hstep (.no rfl (.of hnext ha2))
theorem loop0 {k : Nat} (hk : k < ps.length) (IH : Steps ps (k + 1)) (o0 : List (List Int)) (o1 : List Int) (o2 : List (List Int)) (d : List Int) (hd : d.length ≤ 300) : ∀ e i, i + e = d.length → ∀ (w : List Int) (o : List (List Int)), w.length = ps.length → o.length + (more ps k (w.take k) (d.drop i)).length ≤ 4096 →
    ∃ w' r, w'.length = w.length ∧ w'.take k = w.take k ∧ Ans2 (fun K n => bind_ways_1_1_l0 K n ((k : Nat) : Int) o0 o1 o2 d ((i : Nat) : Int) ps w o) r ∧ (r = .inl (Res ps w' (o ++ more ps k (w.take k) (d.drop i))) ∨ r = .inr (Res ps w' (o ++ more ps k (w.take k) (d.drop i)))) := by
  intro e
  induction e with
  | zero =>
    intro i hi w o hw ho
    refine ⟨w, _, rfl, rfl, .succ (fun K n => bind_ways_1_1_l0_eq K n _ _ _ _ _ _ _ _ _) (.no (nlt_nat (by omega)) .const), .inl ?_⟩
    rw [List.drop_of_length_le (by omega)]
    show _ = Sum.inl (Res ps w (o ++ []))
    rw [List.append_nil]
  | succ e ih =>
    intro i hi w o hw ho
    have h : i < d.length := by omega
    have hkw : k < w.length := by omega
    have hm : more ps k (w.take k) (d.drop i) = ((ways (ps.drop (k + 1))).map fun x => w.take k ++ d[i] :: x) ++ more ps k (w.take k) (d.drop (i + 1)) := by
      rw [List.drop_eq_getElem_cons h]; rfl
    rw [hm, List.length_append, List.length_map] at ho
    obtain ⟨w1, r1, hw1, ht1, ha1, hr1⟩ := IH (w.set k d[i]) o (by simp [hw]) (by omega)
    rw [List.length_set] at hw1
    have ht2 : w1.take k = w.take k := by
      have := congrArg (List.take k) ht1
      rw [List.take_take, Nat.min_eq_left (by omega), List.take_take, Nat.min_eq_left (by omega), List.take_set_of_le (by omega)] at this
      exact this
    rw [take_set _ hkw] at hr1
    have eo : (o ++ (ways (ps.drop (k + 1))).map fun x => (w.take k ++ [d[i]]) ++ x) = o ++ (ways (ps.drop (k + 1))).map fun x => w.take k ++ d[i] :: x := by simp
    rw [eo] at hr1
    have hstep : Ans (fun K => bind_ways_1_1 K (IntKind.i64.wrap (((k : Nat) : Int) + 1)) ps (List.set w (Int.toNat ((k : Nat) : Int)) d[i]) o) r1 := .of (fun K => by rw [wrap_succ hk (by omega)]; rfl) ha1
    rcases hr1 with rfl | rfl
    · obtain ⟨w2, r2, hw2, ht3, ha2, hr2⟩ := ih (i + 1) (by omega) w1 (o ++ (ways (ps.drop (k + 1))).map fun x => w.take k ++ d[i] :: x) (by omega) (by rw [ht2, List.length_append, List.length_map]; omega)
      rw [ht2] at hr2 ht3
      rw [List.append_assoc, ← hm] at hr2
      have hnext : ∀ K n, bind_ways_1_1_l0 K n ((k : Nat) : Int) o0 o1 o2 d (IntKind.i64.wrap (((i : Nat) : Int) + 1)) ps w1 (o ++ (ways (ps.drop (k + 1))).map fun x => w.take k ++ d[i] :: x) = bind_ways_1_1_l0 K n ((k : Nat) : Int) o0 o1 o2 d ((i + 1 : Nat) : Int) ps w1 (o ++ (ways (ps.drop (k + 1))).map fun x => w.take k ++ d[i] :: x) := fun K n => by rw [wrap_succ h (by omega)]
      exact ⟨w2, r2, by omega, ht3, .succ (fun K n => bind_ways_1_1_l0_eq K n _ _ _ _ _ _ _ _ _) (.yes (lt_nat h) (.bind (idxA h) (.bind (idxA hkw) (.bind (getA hkw) (elimL2 hstep (.no rfl (.of hnext ha2))))))), hr2⟩
    · obtain ⟨w2, hw2, ht3, ha2⟩ := loop1 hps hk IH o0 o1 o2 d hd e (i + 1) (by omega) w1 (o ++ (ways (ps.drop (k + 1))).map fun x => w.take k ++ d[i] :: x) (by omega) (by rw [ht2, List.length_append, List.length_map]; omega)
      rw [ht2] at ha2 ht3
      rw [List.append_assoc, ← hm] at ha2
      have hnext : ∀ K n, bind_ways_1_1_l1 K n ((k : Nat) : Int) o0 o1 o2 d (IntKind.i64.wrap (((i : Nat) : Int) + 1)) ps w1 (o ++ (ways (ps.drop (k + 1))).map fun x => w.take k ++ d[i] :: x) = bind_ways_1_1_l1 K n ((k : Nat) : Int) o0 o1 o2 d ((i + 1 : Nat) : Int) ps w1 (o ++ (ways (ps.drop (k + 1))).map fun x => w.take k ++ d[i] :: x) := fun K n => by rw [wrap_succ h (by omega)]
      exact ⟨w2, _, by omega, ht3, .succ (fun K n => bind_ways_1_1_l0_eq K n _ _ _ _ _ _ _ _ _) (.yes (lt_nat h) (.bind (idxA h) (.bind (idxA hkw) (.bind (getA hkw) (elimR2 hstep (.no rfl (.of hnext ha2))))))), .inr rfl⟩
theorem steps (hd : ∀ p ∈ ps, p.length ≤ 300) : ∀ m k, k + m = ps.length → Steps ps k := by
  intro m
  induction m with
  | zero =>
    intro k hk w o hw ho
    have e : ps.drop k = [] := List.drop_of_length_le (by omega)
    rw [e] at ho ⊢
    have hw1 : w.take k = w := List.take_of_length_le (by omega)
    refine ⟨w, _, rfl, rfl, succ2 (fun d => bind_ways_1_1_eq d _ _ _ _) (.yes (by simp; omega) (.bind (a := (w, w, ())) (.of (fun d => clone_eq d (by omega)) .const) (.yes (decide_eq_true ?_) .const))), .inr ?_⟩
    · simp [ways] at ho ⊢; omega
    · rw [hw1]; simp [ways]
  | succ m ih =>
    intro k hk w o hw ho
    have hlt : k < ps.length := by omega
    have hdr : ps.drop k = ps[k] :: ps.drop (k + 1) := List.drop_eq_getElem_cons hlt
    have hmo : (ways (ps.drop k)).map (fun x => w.take k ++ x) = more ps k (w.take k) (ps[k].drop 0) := by
      rw [hdr]
      unfold more
      simp [ways, List.map_flatMap, Function.comp_def]
    have hlen : (ways (ps.drop k)).length = (more ps k (w.take k) (ps[k].drop 0)).length := by rw [← hmo, List.length_map]
    obtain ⟨w', r, h1, h2, h3, h4⟩ := loop0 hps hlt (ih (k + 1) (by omega)) ps w o ps[k] (hd _ (List.getElem_mem hlt)) ps[k].length 0 (by omega) w o hw (by omega)
    rw [← hmo] at h4
    exact ⟨w', r, h1, h2, succ2 (fun d => bind_ways_1_1_eq d _ _ _ _) (.no (by simp; omega) (.bind (idxA hlt) (up h3.diag))), h4⟩
end
end Go.Ev.HpBW
