/-
  THE EVALUATOR, PART 21: one operation, put together; calls of functions as a premise.
-/
import Derived.Test.YtpkhhaolkfaoaaaHpEvT
import Derived.Laws.MakeOwn
import Derived.Laws.IdiomCopy
set_option linter.unusedVariables false
set_option linter.unusedSimpArgs false
set_option linter.unusedSectionVars false
namespace Go.Ev

section
variable {cx : Cx} {Fb : Nat → Nat → Prop} {β : List Loc} {st : St} {a : Act} {w : World}

theorem builtin_run {P : Program} {o : Oper} {c : Call} {b : Builtin} (hop : o.op = .call c) (hb : c.callee = .builtin b) {ρ : Operand → Value} {v : Value} {w w' : World}
    (h : (builtin b c.argTypes o.type (c.args.map fun | .const _ => true | _ => false) (c.args.map ρ)).run P w = .ok (.value v) w') : (execOp ρ o).run P w = .ok (.value v) w' := by
  simp only [execOp, hop, resolve, hb, Sem.run_bind, Sem.run_pure, Result.andThen_ok]
  exact h

theorem toArr1 {α : Type} {a : Array α} {x : α} (h : a.toList = [x]) : a = #[x] := by apply Array.toList_inj.1; simpa using h
theorem toArr2 {α : Type} {a : Array α} {x y : α} (h : a.toList = [x, y]) : a = #[x, y] := by apply Array.toList_inj.1; simpa using h

theorem len_op (hok : cx.ok = true) (h : Rel cx Fb β st a w) {R : Type} {κ : St → Option R} {r : R} {K : Act → World → Prop} {Q : Exit → Act → World → Prop} {ro : Option Nat} {n : Nat} {o : Oper}
    (hK : After cx Fb β st a w κ r K) {c : Call} (hop : o.op = .call c) (hb : c.callee = .builtin .len) (O : Orc cx) (hr : aop cx O o st κ = some r) : o.wpIn (FW ro) n cx.prog a w K Q := by
  simp only [aop, aopV, hop, hb] at hr
  split at hr
  · rename_i x t e1 e2
    obtain ⟨m, hm, hr⟩ := Option.bind_eq_some_iff.1 hr
    have hx := h.ev x
    have fin : (Builtin.len_ c.argTypes o.type (c.args.map a.eval)).run cx.prog w = .ok (.int .i64 m) w := by
      rw [toArr1 e1, toArr1 e2]
      unfold lenOf at hm
      split at hm
      · rename_i s hk e
        cases hm
        rw [e] at hx
        generalize hv : a.eval x = v at hx
        cases hx
        have hs : (⟨s.toArray⟩ : ByteArray).size = s.length := by simp [ByteArray.size]
        simp [Builtin.len_, run_underlying' (k_str hok hk).1, hv, goInt, hs]
      · rename_i ty q sz bytes hk e
        cases hm
        rw [e] at hx
        generalize hv : a.eval x = v at hx
        cases hx
        simp [Builtin.len_, run_underlying' (k_sl hok hk).1, hv, goInt]
      · rename_i ty q sz bytes t' full xs hk e
        cases hm
        rw [e] at hx
        generalize hv : a.eval x = v at hx
        cases hx <;> simp [Builtin.len_, run_underlying' (k_sl hok hk).1, hv, goInt]
      · rename_i ty q sz bytes id hk e
        split at hm
        · rename_i t' sh xs ho
          cases hm
          rw [e] at hx
          generalize hv : a.eval x = v at hx
          cases hx with | own hid one hva =>
          have := hva t' sh xs β[id] (objAt_some ho rfl) (by simp [hid])
          subst this
          have hob := h.obj id _ β[id] (objAt_some ho rfl) (by simp [hid])
          cases hl : β[id] with
          | nil =>
            rw [hl] at hob hv
            have hob : xs = [] := hob
            subst hob
            simp [Builtin.len_, run_underlying' (k_sl hok hk).1, hv, goInt, ownVal]
          | «at» b cap =>
            rw [hl] at hv
            simp [Builtin.len_, run_underlying' (k_sl hok hk).1, hv, goInt, ownVal]
        · cases hm
      · cases hm
    exact wp_value (by simp [hop]) (builtin_run hop hb (by simp [builtin, fin])) (hK.same h hr (.int (by simp)))
  · cases hr

theorem minmax_op (h : Rel cx Fb β st a w) {R : Type} {κ : St → Option R} {r : R} {K : Act → World → Prop} {Q : Exit → Act → World → Prop} {ro : Option Nat} {n : Nat} {o : Oper}
    (hK : After cx Fb β st a w κ r K) {c : Call} (hop : o.op = .call c) (hb : c.callee = .builtin .max ∨ c.callee = .builtin .min) (O : Orc cx) (hr : aop cx O o st κ = some r) : o.wpIn (FW ro) n cx.prog a w K Q := by
  have ints : ∀ {k : IntKind} {m l : Int} {p : Prop} [Decidable p], (k = .u8 → 0 ≤ m ∧ m < 256) → (k = .u8 → 0 ≤ l ∧ l < 256) → (k = .u8 → 0 ≤ (if p then l else m) ∧ (if p then l else m) < 256) := by
    intro k m l p _ h1 h2 h3
    split
    · exact h2 h3
    · exact h1 h3
  rcases hb with hb | hb
  all_goals
    simp only [aop, aopV, hop, hb] at hr
    split at hr
    · rename_i x y e1
      split at hr
      · rename_i k m k' l ex ey
        simp only [cond_eq_ite, decide_eq_true_eq] at hr
        split at hr
        · rename_i hk
          subst hk
          have hx := h.ev x
          have hy := h.ev y
          rw [ex] at hx; rw [ey] at hy
          generalize hvx : a.eval x = vx at hx
          generalize hvy : a.eval y = vy at hy
          cases hx with | int h1 =>
          cases hy with | int h2 =>
          first
            | exact wp_value (by simp [hop]) (v := .int k (if l > m then l else m)) (builtin_run hop hb (by rw [toArr2 e1]; simp [builtin, Builtin.max_, Builtin.max2, hvx, hvy])) (hK.same h hr (.int (ints h1 h2)))
            | exact wp_value (by simp [hop]) (v := .int k (if l < m then l else m)) (builtin_run hop hb (by rw [toArr2 e1]; simp [builtin, Builtin.min_, Builtin.min2, hvx, hvy])) (hK.same h hr (.int (ints h1 h2)))
        · cases hr
      · cases hr
    · cases hr

theorem append_op (hok : cx.ok = true) (h : Rel cx Fb β st a w) (hFb : ∀ b off, Fb b off → b < w.heap.size) {R : Type} {κ : St → Option R} {r : R} {K : Act → World → Prop} {Q : Exit → Act → World → Prop} {ro : Option Nat} {n : Nat} {o : Oper}
    (hK : After cx Fb β st a w κ r K) {c : Call} (hop : o.op = .call c) (hb : c.callee = .builtin .append) (O : Orc cx) (hr : aop cx O o st κ = some r) : o.wpIn (FW ro) n cx.prog a w K Q := by
  simp only [aop, aopV, hop, hb] at hr
  split at hr
  · rename_i x y t t2 e1 e2
    split at hr
    · rename_i ty e sz bytes hk
      obtain ⟨ys, hys, hr⟩ := Option.bind_eq_some_iff.1 hr
      obtain ⟨f, hsrc⟩ := srcOf hok h hys (h.ev y)
      have fin : ∀ {v' : Value} {w' : World}, (Builtin.append_ #[t, t2] o.type #[a.eval x, a.eval y]).run cx.prog w = .ok v' w' → (execOp a.eval o).run cx.prog w = .ok (.value v') w' := by
        intro v' w' hrun
        refine builtin_run hop hb ?_
        rw [toArr2 e1, toArr2 e2]
        simp [builtin, hrun]
      have hx := h.ev x
      split at hr
      · rename_i ex
        rw [ex] at hx
        simp only [cond_eq_ite, decide_eq_true_eq] at hr
        split at hr
        · rename_i hle
          generalize hv : a.eval x = v at hx
          cases hx
          obtain ⟨v', β', w', hrun, A, R, hv'⟩ := append_new (ty' := o.type) hok h hFb hk (xs := []) (A := none) (cap := 0) (g := fun _ => undef) ⟨fun _ => rfl, by simp, by intro i x j c h; simp at h⟩ hsrc (.inr ⟨rfl, rfl⟩) (by simpa using hle)
          exact wp_value (by simp [hop]) (fin (by rw [hv]; exact hrun)) (hK.moved A R hr hv')
        · cases hr
      · rename_i ty' xs ex
        rw [ex] at hx
        split at hr
        · rename_i ht
          subst ht
          simp only [cond_eq_ite, Bool.and_eq_true, decide_eq_true_eq] at hr
          split at hr
          · rename_i hle
            have hrow := rowOf h hx (xs := xs) (by simp [toList, fixS])
            obtain ⟨A, cap, g, hv, hcap, hrow⟩ := hrow
            have hc : cap < xs.length + ys.length ∨ (A = none ∧ cap = 0) := by
              rw [hv] at hx
              cases hx with
              | sl0 => exact .inr ⟨rfl, rfl⟩
              | sl val h1 h2 _ _ => have := h2 rfl; exact .inl (by omega)
            obtain ⟨v', β', w', hrun, A, R, hv'⟩ := append_new (ty' := o.type) hok h hFb hk hrow hsrc hc hle.1
            exact wp_value (by simp [hop]) (fin (by rw [hv]; exact hrun)) (hK.moved A R hr hv')
          · cases hr
        · cases hr
      · rename_i id ex
        rw [ex] at hx
        split at hr
        · rename_i ty' sh xs ho
          split at hr
          · rename_i ht
            subst ht
            simp only [cond_eq_ite, decide_eq_true_eq] at hr
            split at hr
            · rename_i hle
              obtain ⟨v', β', w', hrun, A, R, hv⟩ := append_own hok h hFb hk hx (objAt_some ho rfl) hsrc hle
              exact wp_value (by simp [hop]) (fin hrun) (hK.moved A R hr hv)
            · cases hr
          · cases hr
        · cases hr
      · cases hr
    · cases hr
  · cases hr
theorem zeroT_spec {ty : Ty} {k : Kind} {z : T ty} (h : zeroT ty k = some z) : ∃ k', k = .int k' ∧ cells ty z = [.int k' 0] ∧ ty.size = 1 := by
  unfold zeroT at h
  split at h
  · cases h; exact ⟨_, rfl, rfl, rfl⟩
  · rename_i k1 k2
    simp only [cond_eq_ite, decide_eq_true_eq] at h
    split at h
    · rename_i e; subst e; cases h; exact ⟨_, rfl, rfl, rfl⟩
    · cases h
  · cases h
theorem make_op (hok : cx.ok = true) (h : Rel cx Fb β st a w) (hFb : ∀ b off, Fb b off → b < w.heap.size) {R : Type} {κ : St → Option R} {r : R} {K : Act → World → Prop} {Q : Exit → Act → World → Prop} {ro : Option Nat} {n : Nat} {o : Oper}
    (hK : After cx Fb β st a w κ r K) {t : Nat} {l c : Operand} (hop : o.op = .makeSlice t l c) (O : Orc cx) (hr : aop cx O o st κ = some r) : o.wpIn (FW ro) n cx.prog a w K Q := by
  simp only [aop, aopV, hop] at hr
  split at hr
  · rename_i ty e sz bytes k1 n1 k2 n2 hk el ec
    split at hr
    · rename_i z hz0
      simp only [cond_eq_ite, Bool.and_eq_true, decide_eq_true_eq] at hr
      split at hr
      · rename_i hc
        obtain ⟨⟨h0, h1⟩, h2⟩ := hc
        obtain ⟨k', hke, hcz, hs1⟩ := zeroT_spec hz0
        obtain ⟨hu, _, i, z', hi, hsz, hsz2, hby, hpos, hz, hzs⟩ := k_sl hok hk
        subst hsz2
        subst hby
        obtain ⟨i', v', hi', hs', hz', hzb, hone⟩ := k_one (k_int hok hke).2
        rw [hi] at hi'
        obtain rfl := Option.some.inj hi'
        rw [hz] at hz'
        obtain rfl := Option.some.inj hz'
        have hv' : z' = .int k' 0 := by
          cases z' with
          | int kk nn =>
            simp only [zeroB, Bool.and_eq_true, decide_eq_true_eq, beq_iff_eq] at hzb
            obtain ⟨⟨h5, h6⟩, _⟩ := hzb
            rw [h5, ← h6]
          | _ => simp [zeroB] at hzb
        subst hv'
        have hl := h.ev l
        rw [el] at hl
        generalize hvl : a.eval l = vl at hl
        cases hl
        have hcc := h.ev c
        rw [ec] at hcc
        generalize hvc : a.eval c = vc at hcc
        cases hcc
        have hb : ((i.bytes : Nat) : Int) * n2 ≤ 140737488355328 := by rw [Int.mul_comm]; exact h2
        have hn2 : n2 ≤ 140737488355328 := by
          have : (1 : Int) * n2 ≤ (i.bytes : Int) * n2 := Int.mul_le_mul_of_nonneg_right (by omega) (by omega)
          omega
        have hrun := run_make (P := cx.prog) w t e i (.int k' 0) hu hi hz k1 k2 n1 n2 h0 h1 (by omega) (by omega)
        have hmc : ∀ (m j : Nat) v, (madeCells (Value.cells (.int k' 0)) m)[j]? = some v → v = .int k' 0 := by
          intro m j v hv
          unfold madeCells at hv
          rw [Array.getElem?_map] at hv
          obtain ⟨x, _, rfl⟩ := Option.map_eq_some_iff.1 hv
          simp [Value.cells, Nat.mod_one]
        obtain ⟨A, R2⟩ := h.row hFb (Grow.push w (.cells (madeCells (Value.cells (.int k' 0)) (n2.toNat * i.size)) e)) ty false (List.replicate n1.toNat z) n2.toNat (madeCells (Value.cells (.int k' 0)) (n2.toNat * i.size)) e (0, 0) (by simp) (by rw [size_madeCells, hsz]) (by simp; omega) (fun j _ hj => by simp at hj) (fun q x j cc v hx hcx hv => by
          have hxz : x = z := by
            have := (List.mem_replicate.1 (List.mem_of_getElem? hx)).2
            exact this
          subst hxz
          rw [hcz] at hcx
          have hj0 : cc = .int k' 0 := by
            cases j with
            | zero => simpa using hcx.symm
            | succ j => simp at hcx
          subst hj0
          rw [hmc _ _ _ hv]
          exact .int fun _ => ⟨by omega, by omega⟩)
        refine wp_value (by simp [hop]) (by simp only [execOp, hop, hvl, hvc, hrun, Sem.run_bind, Result.andThen_ok]; rfl) (hK.moved A R2 hr ?_)
        have := own_last (w := { w with heap := w.heap.push (.cells (madeCells (Value.cells (.int k' 0)) (n2.toNat * i.size)) e) }) (N := NN Fb (β ++ [.at w.heap.size n2.toNat]) (st.objs ++ [.arr ty false (List.replicate n1.toNat z)])) (t := ty) (sh := false) (xs := List.replicate n1.toNat z) (l := .at w.heap.size n2.toNat) (objs0 := st.objs) (n := st.objs.length) rfl h.len
        rw [List.length_replicate] at this
        exact this
      · cases hr
    · cases hr
  · cases hr
theorem copy_op (hok : cx.ok = true) (h : Rel cx Fb β st a w) {R : Type} {κ : St → Option R} {r : R} {K : Act → World → Prop} {Q : Exit → Act → World → Prop} {ro : Option Nat} {n : Nat} {o : Oper}
    (hK : After cx Fb β st a w κ r K) {c : Call} (hop : o.op = .call c) (hb : c.callee = .builtin .copy) (O : Orc cx) (hr : aop cx O o st κ = some r) : o.wpIn (FW ro) n cx.prog a w K Q := by
  simp only [aop, aopV, hop, hb] at hr
  split at hr
  · rename_i x y t t2 e1 e2
    split at hr
    · rename_i ty e sz bytes id hk ex
      split at hr
      · rename_i ty' xs ho
        split at hr
        · rename_i ht
          subst ht
          obtain ⟨ys, hys, hr1⟩ := Option.bind_eq_some_iff.1 hr
          clear hr
          simp only [cond_eq_ite, Bool.and_eq_true, decide_eq_true_eq] at hr1
          split at hr1
          · rename_i hc
            obtain ⟨hlen, hs1⟩ := hc
            obtain ⟨hu, _, i, z', hi, hsz, hsz2, hby, hpos, hz, hzs⟩ := k_sl hok hk
            subst hsz2
            have hinfo : (cx.prog.info? e).map (·.size) = some 1 := by rw [hi]; simp [hsz, hs1]
            have fin : ∀ {v' : Value} {w' : World}, (Builtin.copy_ #[t, t2] o.type #[a.eval x, a.eval y]).run cx.prog w = .ok v' w' → (execOp a.eval o).run cx.prog w = .ok (.value v') w' := by
              intro v' w' hrun
              refine builtin_run hop hb ?_
              rw [toArr2 e1, toArr2 e2]
              simp [builtin, hrun]
            have ho' := objAt_some ho rfl
            have hx := h.ev x
            rw [ex] at hx
            have hlt : id < β.length := by rw [h.len]; exact (List.getElem?_eq_some_iff.1 ho').1
            obtain ⟨l, hl⟩ : ∃ l, β[id]? = some l := ⟨β[id], by simp [hlt]⟩
            have hvv : a.eval x = ownVal l xs.length := by
              generalize a.eval x = v at hx
              cases hx with | own _ _ hv => exact hv _ false xs l ho' hl
            obtain ⟨A, cap', f, hv, hcap, hrow⟩ := rowOf h (h.ev y) hys
            have hint : ∀ (m : Nat), RelV β st.objs w (NN Fb β st.objs) (.int .i64 m) (goInt m) := fun m => .int (by simp)
            by_cases h0 : ys.length = 0
            · have hy0 : ys = [] := List.eq_nil_of_length_eq_zero h0
              have hx0 : xs = [] := List.eq_nil_of_length_eq_zero (by omega)
              subst hy0; subst hx0
              have hset : st.objs.set id (.arr ty' false []) = st.objs := by
                apply List.ext_getElem?
                intro q
                by_cases e : id = q
                · subst e; rw [List.getElem?_set_self (List.getElem?_eq_some_iff.1 ho').1, ho']
                · rw [List.getElem?_set_ne e]
              rw [hset] at hr1
              refine wp_value (by simp [hop]) (fin ?_) (hK.same h hr1 (hint 0))
              rw [hvv, hv]
              have hm : ∀ (q1 q2 : Nat), Nat.min 0 q1 = 0 := fun q1 _ => Nat.zero_min q1
              cases l with
              | nil => exact run_copy_none w t t2 o.type e none A 0 0 0 cap' hu hinfo (by simp)
              | «at» b cap => exact run_copy_none w t t2 o.type e (some ⟨b, 0, none⟩) A 0 cap 0 cap' hu hinfo (by simp)
            · cases l with
              | nil =>
                have hx0 : xs = [] := h.obj id _ _ ho' hl
                subst hx0
                exact absurd hlen h0
              | «at» b cap =>
                obtain ⟨arr, e', fr, hbk, hs2, hxl, hfr, hrel⟩ := h.obj id _ _ ho' hl
                have hA : ∃ ad, A = some ad := by
                  cases A with
                  | none => exact absurd (hrow.nil rfl ▸ rfl) h0
                  | some ad => exact ⟨ad, rfl⟩
                obtain ⟨ad, rfl⟩ := hA
                have hbase : xs.length ≤ arr.size := by rw [hs2, hs1, Nat.mul_one]; exact hxl
                have hf1 : ∀ v ∈ (List.range ys.length).map f, v.oneCell' = true := by
                  intro v hv
                  simp at hv
                  obtain ⟨k, hk, rfl⟩ := hv
                  exact hrow.cov.one ty'.size_pos k (by rw [hs1, Nat.mul_one]; exact hk)
                have hrun := run_copy_cells (P := cx.prog) w t t2 o.type e b 0 xs.length cap ad ys.length cap' ((List.range ys.length).map f) hu hinfo (by simp [hlen]) (fun j v hj => by
                    obtain ⟨q, hq, rfl⟩ := getElem?_map_some hj
                    have hq' := (List.getElem?_eq_some_iff.1 hq)
                    obtain ⟨hq1, hq2⟩ := hq'
                    simp at hq1 hq2
                    subst hq2
                    exact hrow.cell ad rfl j (by rw [hs1, Nat.mul_one]; exact hq1)) (fun j hj => by
                    simp at hj
                    rw [Option.isSome_iff_exists]
                    exact ⟨arr[0 + j], cell?_some.2 ⟨arr, e', fr, hbk, rfl, by simp [show j < arr.size by omega]⟩⟩) (fun j hj => by
                    simp at hj
                    have := hfr j (by omega)
                    simp only [World.frozen?, hbk]
                    simp; omega) hf1
                obtain ⟨A2, R2⟩ := h.setObj (o' := .arr ty' false ys) (w' := w.setCells b 0 ((List.range ys.length).map f)) ho' hl rfl (fun b' off' hw => ⟨hw.1, by simp⟩) (setCells_keep hbk _ fun off' _ _ => ⟨rfl, by simp⟩) (fun b' hne _ => setCells_other _ _ _ _ _ hne) (setCells_recs hbk) (by simp) (fun t' sh' xs' e => by cases e; exact ⟨false, xs, rfl, hlen.symm⟩) fun G => by
                  refine ⟨_, e', fr, setCells_heap b _ 0 w arr e' fr hbk, by rw [setA_size]; exact hs2, by omega, by rw [setA_size]; exact hfr, fun k x j cc v hk2 hc2 hv2 => ?_⟩
                  have hj : j = 0 := by
                    have := (List.getElem?_eq_some_iff.1 hc2).1
                    rw [cells_length, hs1] at this; omega
                  subst hj
                  have hkl := (List.getElem?_eq_some_iff.1 hk2).1
                  have e3 : k * ty'.size + 0 = 0 + k := by rw [hs1]; omega
                  rw [e3, setA_in _ arr 0 k (f k) (by simp [hkl]) (by omega)] at hv2
                  obtain rfl := Option.some.inj hv2
                  have := hrow.cov k x 0 cc hk2 hc2
                  rw [show k * ty'.size + 0 = k by rw [hs1]; omega] at this
                  exact this.goes G
                refine wp_value (by simp [hop]) (fin ?_) (hK.moved A2 R2 hr1 (.int (by simp)))
                rw [hvv, hv]
                simpa [ownVal, goInt] using hrun
          · cases hr1
        · cases hr
      · cases hr
    · cases hr
  · cases hr
end
end Go.Ev
