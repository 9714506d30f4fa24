/-
  THE EVALUATOR, PART 35: the arguments, and the law's row.
-/
import Derived.Test.YtpkhhaolkfaoaaaHpEwH
set_option linter.unusedVariables false
set_option linter.unusedSimpArgs false
set_option linter.unusedSectionVars false
namespace Go.Ev
section
variable {cx : Cx} {H : Type} {enc : TypeId × Value → H} {w : World} {sp : Nat → Bool} {held : Bool}

theorem flatF_len {g : Nat → Option (List CT)} {sz : Nat} : ∀ (fs : List (Nat × Nat)) (off : Nat) (b : List CT), flatF g sz off fs = some b → off + b.length = sz
  | [], off, b, h => by
    simp only [flatF] at h
    split at h
    · cases h; simpa
    · cases h
  | (o, t) :: fs, off, b, h => by
    simp only [flatF] at h
    split at h
    · obtain ⟨a, ha, h⟩ := Option.bind_eq_some_iff.1 h
      obtain ⟨b', hb, h⟩ := Option.bind_eq_some_iff.1 h
      cases h
      have := flatF_len fs _ b' hb
      simp; omega
    · cases h
theorem flat_len {n t : Nat} {cts : List CT} (h : flatK cx n t = some cts) : cts.length = cellsK (cx.kind t) := by
  cases n with
  | zero => simp [flatK] at h
  | succ n =>
    simp only [flatK] at h
    cases hk : cx.kind t with
    | st fs sz ss z eq =>
      rw [hk] at h
      have := flatF_len fs 0 cts h
      simp [cellsK]; omega
    | int k => rw [hk] at h; cases h; rfl
    | bool => rw [hk] at h; cases h; rfl
    | str => rw [hk] at h; cases h; rfl
    | sl ty e sz bytes => rw [hk] at h; cases h; rfl
    | _ => rw [hk] at h; cases h

theorem trod_struct {P : Program} {fuel t : Nat} {fs : Array Field} (hu : P.underlying t = some (.struct fs)) (vs : List Value) : DataW.trod enc P w 0 sp held (fuel + 1) t vs =
    if vs.length = P.cellsOf t then (fs.toList.mapM fun f => DataW.trod enc P w 0 sp held fuel f.type ((vs.drop f.offset).take (P.cellsOf f.type))).map fun xs => (.agg (xs.map (·.1)), xs.flatMap (·.2)) else none := by
  rw [DataW.trod.eq_def]
  simp only [hu]
theorem trod_shown (hok : cx.ok = true) (hd : dataB cx = true) : ∀ (fuel : Nat) (n : Nat) (t : Nat) (vs : List Value) (d : DataW H) (ps : List MemPlace) (cts : List CT),
    DataW.trod enc cx.prog w 0 sp held fuel t vs = some (d, ps) → flatK cx n t = some cts → (∀ n ∈ d.weights cx.prog t, n ≤ reachBytes) → ∃ cs, Shown w [d] cts cs vs
  | 0, n, t, vs, d, ps, cts, h, _, _ => by simp [DataW.trod] at h
  | fuel + 1, 0, t, vs, d, ps, cts, h, hf, _ => by simp [flatK] at hf
  | fuel + 1, n + 1, t, vs, d, ps, cts, h, hf, hwt => by
    simp only [flatK] at hf
    cases hk : cx.kind t with
    | int k =>
      rw [hk] at hf; cases hf
      have hu := (k_int hok hk).1
      unfold DataW.trod at h
      rw [hu] at h
      split at h <;> first | (rename_i heq _; cases heq; done) | (rename_i heq; cases heq; done) | (cases h; done) | skip
      rename_i k1 k' m heq
      cases heq
      split at h
      · rename_i hw
        obtain ⟨rfl, hw⟩ := hw
        refine ⟨[.int k' m], .one ⟨m, rfl⟩ (.int fun e => ?_) (.int hw) fun β βs hl m => Nat.le_trans (bulk_one (by simp) (by simp)) (hl.one _)⟩
        subst e
        simp [Lit.wf, IntKind.signed, IntKind.min, IntKind.max, IntKind.bits] at hw
        omega
      · cases h
    | bool =>
      rw [hk] at hf; cases hf
      have hu := (k_bool hok hk).1
      unfold DataW.trod at h
      rw [hu] at h
      split at h <;> first | (rename_i heq _; cases heq; done) | (rename_i heq; cases heq; done) | (cases h; done) | skip
      rename_i b _
      exact ⟨[.bool b], .one ⟨b, rfl⟩ (.bool b) (.bool b) fun β βs hl m => Nat.le_trans (bulk_one (by simp) (by simp)) (hl.one _)⟩
    | str =>
      rw [hk] at hf; cases hf
      have hu := (k_str hok hk).1
      unfold DataW.trod at h
      rw [hu] at h
      split at h <;> first | (rename_i heq _; cases heq; done) | (rename_i heq; cases heq; done) | (cases h; done) | skip
      rename_i s _
      split at h
      · rename_i hs
        simp only [Option.some.injEq, Prod.mk.injEq] at h
        obtain ⟨h, _⟩ := h
        subst h
        have hs := hwt s.data.toList.length (by simp [DataW.weights])
        exact ⟨[.str s.data.toList], .one ⟨s.data.toList, rfl⟩ (by have := RelV.str (β := []) (objs := []) (w := w) (N := N0) s.data.toList; simpa using this) (.str hs) fun β βs hl m => by rw [hl.str]; cases m <;> simp [bulkN]⟩
      · cases h
    | sl ty e sz bytes =>
      rw [hk] at hf; cases hf
      exact trod_slice hok hk (dataB_get hd hk).2 hwt (fun vs d ps hw h => trod_shown hok hd fuel 20 e vs d ps _ h (dataB_get hd hk).1 hw) h
    | st fs sz ss z eq =>
      rw [hk] at hf
      obtain ⟨⟨fields, hu, hfb⟩, ⟨i, zz, hi, hs, _⟩, _⟩ := k_st hok hk
      rw [trod_struct hu] at h
      split at h
      · rename_i hlen
        obtain ⟨ys, hys, h⟩ := Option.map_eq_some_iff.1 h
        simp only [Prod.mk.injEq] at h
        obtain ⟨h, _⟩ := h
        subst h
        rw [DataW.weights, hu] at hwt
        simp only at hwt
        have hcells : cx.prog.cellsOf t = sz := by simp [Program.cellsOf, hi, hs]
        rw [hcells] at hlen
        -- the fields, one by one
        have key : ∀ (fs : List (Nat × Nat)) (gs : List Field) (off : Nat) (b : List CT) (ys : List (DataW H × List MemPlace)), fieldsB cx.prog cx fs gs eq = true → flatF (flatK cx n) sz off fs = some b →
            (gs.mapM fun f => DataW.trod enc cx.prog w 0 sp held fuel f.type ((vs.drop f.offset).take (cx.prog.cellsOf f.type))) = some ys → (∀ n ∈ DataW.weightsEach cx.prog (gs.map (·.type)) (ys.map (·.1)), n ≤ reachBytes) → ∃ cs, Shown w (ys.map (·.1)) b cs (vs.drop off) := by
          intro fs
          induction fs with
          | nil =>
              intro gs off b ys hfb hb hys hwt
              simp only [flatF] at hb
              split at hb
              · rename_i e; cases hb
                have : vs.drop off = [] := by simp; omega
                rw [this]
                exact ⟨[], ⟨rfl, by simp, ⟨rfl, by simp⟩, by simp, fun β βs hl m => by simp⟩⟩
              · cases hb
          | cons f fs ih =>
              intro gs off b ys hfb hb hys hwt
              obtain ⟨o, ft⟩ := f
              cases gs with
              | nil => simp [fieldsB] at hfb
              | cons g gs =>
                simp only [flatF] at hb
                split at hb
                · rename_i e; subst e
                  obtain ⟨a, ha, hb⟩ := Option.bind_eq_some_iff.1 hb
                  obtain ⟨b', hb', hb⟩ := Option.bind_eq_some_iff.1 hb
                  cases hb
                  obtain ⟨_, hget⟩ := fieldsB_get _ _ hfb
                  obtain ⟨f', j, q1, q2, q3, q4, q5, _⟩ := hget 0 o ft rfl
                  simp at q1; subst q1
                  simp only [fieldsB, Bool.and_eq_true] at hfb
                  simp only [List.mapM_cons, Option.bind_eq_bind, Option.pure_def] at hys
                  obtain ⟨y, hy, hys⟩ := Option.bind_eq_some_iff.1 hys
                  obtain ⟨ys', hys', hys⟩ := Option.bind_eq_some_iff.1 hys
                  cases hys
                  simp only [List.map_cons, DataW.weightsEach] at hwt
                  rw [q3] at hwt
                  rw [q2, q3] at hy
                  have hal := flat_len ha
                  have hcf : cx.prog.cellsOf ft = a.length := by simp [Program.cellsOf, q4, q5, hal]
                  rw [hcf] at hy
                  obtain ⟨cs1, S1⟩ := trod_shown hok hd fuel n ft _ y.1 y.2 a hy ha (fun n hn => hwt n (List.mem_append_left _ hn))
                  obtain ⟨cs2, S2⟩ := ih gs (o + a.length) b' ys' hfb.2 hb' hys' (fun n hn => hwt n (List.mem_append_right _ hn))
                  refine ⟨cs1 ++ cs2, ?_⟩
                  have := S1.append S2
                  rw [← List.drop_drop, List.take_append_drop] at this
                  exact this
                · cases hb
        obtain ⟨cs, S⟩ := key fs fields.toList 0 cts ys hfb hf hys hwt
        have S : Shown w (ys.map (·.1)) cts cs vs := by simpa using S
        exact ⟨cs, S.len, S.has, S.rel, S.good, fun β βs hl m => by rw [hl.single, hl.agg]; exact Nat.le_trans (S.bulk β βs hl m) (Nat.le_succ _)⟩
      · cases h
    | _ => rw [hk] at hf; cases hf
end
end Go.Ev
