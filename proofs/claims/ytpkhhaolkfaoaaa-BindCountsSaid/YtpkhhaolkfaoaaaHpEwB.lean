/-
  THE EVALUATOR, PART 28: ranges over functions: rounds.
-/
import Derived.Test.YtpkhhaolkfaoaaaHpEwA
set_option linter.unusedVariables false
set_option linter.unusedSimpArgs false
set_option linter.unusedSectionVars false
namespace Go.Ev

section
variable {cx : Cx} {Fb : Nat → Nat → Prop} {β : List Loc} {st : St} {a : Act} {w : World}

theorem putObj_keep {l : Nat} {L : Go.Loop} (o : Obj) (hl : w.heap[l]? = some (.loop L)) {W : Nat → Nat → Prop} (hW : ∀ off, W l off) : Keep W w (w.putObj l o) := by
  refine ⟨rfl, rfl, rfl, by simp [World.putObj], fun b hb hn => ?_, fun b vs e fr hb => ?_⟩
  · by_cases e : b = l
    · subst e; exact absurd (hW 0) (hn 0)
    · exact World.putObj_heap_other e
  · have : b ≠ l := fun e => by subst e; rw [hl] at hb; cases hb
    exact ⟨vs, (World.putObj_heap_other this).trans hb, rfl, fun _ _ => rfl⟩
theorem putObj_recs {l : Nat} {L L' : Go.Loop} (hl : w.heap[l]? = some (.loop L)) (ht : L'.tmps = L.tmps) : Recs w (w.putObj l (.loop L')) := by
  intro b L2 hb
  by_cases e : b = l
  · subst e
    rw [hl] at hb; cases hb
    exact ⟨L', World.putObj_heap_same (lt_of_get hl), ht⟩
  · exact ⟨L2, (World.putObj_heap_other e).trans hb, rfl⟩

/-- The record of a loop is changed. -/
theorem Rel.setFrm (h : Rel cx Fb β st a w) {id l cap : Nat} {f : Nat} {p : List Nat} {t1 ts : List AVal} {j1 j : Option (Option AEx)} (ho : st.objs[id]? = some (.frm f p t1 j1)) (hl : β[id]? = some (.at l cap))
    {L L' : Go.Loop} (hL : w.heap[l]? = some (.loop L)) (hs : L'.state = loopState j) (hp : L'.pending = loopJump j) (hsame : L'.fn = L.fn ∧ L'.tmps = L.tmps ∧ L'.params = L.params ∧ L'.assign = L.assign ∧ L'.body = L.body)
    (hj : j ≠ some (some .normal)) (hts : RelL β st.objs w (NN Fb β st.objs) ts L.tmps) :
    Adv β st.objs w β (st.objs.set id (.frm f p ts j)) (w.putObj l (.loop L')) ∧ Rel cx Fb β { st with objs := st.objs.set id (.frm f p ts j) } a (w.putObj l (.loop L')) := by
  refine h.setObj ho hl rfl (fun b' off hw => hw) (putObj_keep _ hL fun _ => rfl) (fun b' hne _ => World.putObj_heap_other hne) (putObj_recs hL hsame.2.1) (fun f' p' ts' j' e => by cases e; exact ⟨ts, j, rfl⟩) (by simp) fun G => ?_
  obtain ⟨b', cap', tmps, blk, gg, ps, asg, body, fn, hloc, k1, k2, k3, k4⟩ := h.obj id _ _ ho hl
  cases hloc
  rw [hL] at k2; cases k2
  obtain ⟨e1, e2, e3, e4, e5⟩ := hsame
  obtain ⟨s', pd', fn', tm', pa', as', bo', de'⟩ := L'
  simp only at e1 e2 e3 e4 e5 hs hp
  subst e1 e2 e3 e4 e5 hs hp
  exact ⟨l, cap, _, de', gg, _, _, _, _, rfl, k1, World.putObj_heap_same (lt_of_get hL), hts.goes G, hj⟩

theorem setTmps_rel {objs : List AObj} {N : Nat → Nat → Prop} : ∀ (ps : List Nat) (args : List AVal) (cargs : List Value) (ts : List AVal) (tv : Array Value), RelL β objs w N ts tv → args.length = cargs.length →
    (∀ (i : Nat) c v, args[i]? = some c → cargs[i]? = some v → RelV β objs w N c v) → RelL β objs w N (setTmps ts ps args) ((ps.zip cargs).foldl (fun tmps (x : Nat × Value) => tmps.setIfInBounds x.1 x.2) tv)
  | [], args, _, ts, tv, h, _, _ => by cases args <;> simpa [setTmps] using h
  | p :: ps, [], [], ts, tv, h, _, _ => h
  | p :: ps, [], _ :: _, _, _, _, hl, _ => by simp at hl
  | p :: ps, _ :: _, [], _, _, _, hl, _ => by simp at hl
  | p :: ps, c :: cs, v :: vs, ts, tv, h, hl, hr => by
    simp only [setTmps, List.zip_cons_cons, List.foldl_cons]
    exact setTmps_rel ps cs vs _ _ (h.set p (hr 0 c v rfl rfl)) (by simpa using hl) fun i c v a b => hr (i + 1) c v (by simpa using a) (by simpa using b)

/-- A round. -/
theorem callYld_op {O : Orc cx} (hR : RunOK cx O) (h : Rel cx Fb β st a w) (hFb : ∀ b off, Fb b off → b < w.heap.size) {R : Type} {κ : St → Option R} {r : R} {K : Act → World → Prop} {Q : Exit → Act → World → Prop} {ro : Option Nat} {n : Nat} {o : Oper}
    (hK : After cx Fb β st a w κ r K) {c : Call} {x : Operand} (hop : o.op = .call c) (hc : c.callee = .value x) {id : Nat} (hx : st.ev x = .yld id)
    (hr : callVal cx O (.yld id) c.argTypes.toList (c.args.toList.map st.ev) st.objs (fun objs v => κ ({ st with objs := objs }.put o.dst v)) = some r) : o.wpIn (FW ro) n cx.prog a w K Q := by
  have hxv := h.ev x
  rw [hx] at hxv
  generalize hv : a.eval x = v at hxv
  cases hxv with | yld hβ =>
  rename_i l cap
  unfold callVal at hr
  simp only at hr
  split at hr
  · rename_i f p ts ho
    split at hr
    · rename_i g ps asg body hcode
      simp only [cond_eq_ite, beq_iff_eq] at hr
      split at hr
      · rename_i hlen
        have ho' := objAt_some ho rfl
        obtain ⟨b', cap', tmps, blk, gg, ps', asg', body', fn, hloc, k1, k2, k3, k4⟩ := h.obj id _ _ ho' hβ
        cases hloc
        rw [hcode] at k1; cases k1
        have hsz : (c.args.map a.eval).size = ps.size := by simpa using hlen
        have hrun : (execOp a.eval o).run cx.prog w = .ok (.round l fn ((ps.zip (c.args.map a.eval)).foldl (fun tmps (t, a) => tmps.setIfInBounds t a) tmps) asg body) w := by
          simp only [execOp, hop, resolve, hc, hv, Deferred.ofValue, Sem.run_bind, Sem.run_pure, Result.andThen_ok, invoke, Array.empty_append]
          exact run_yield k2 hsz
        refine ⟨fun _ _ => trivial, ?_⟩
        rw [Oper.semAt_eq _ _ _ (by simp [hop]), hrun, Oper.uponIn_round]
        refine ⟨FW_depth ro n, roundIn_of_wpIn trivial ?_⟩
        rw [FW_inRound]
        have hfold : (ps.zip (c.args.map a.eval)).foldl (fun tmps (x : Nat × Value) => tmps.setIfInBounds x.1 x.2) tmps = (ps.toList.zip (c.args.map a.eval).toList).foldl (fun tmps (x : Nat × Value) => tmps.setIfInBounds x.1 x.2) tmps := by
          rw [← Array.foldl_toList, Array.toList_zip]
        have hT : RelL β st.objs w (NN Fb β st.objs) (setTmps ts ps.toList (c.args.toList.map st.ev)) ((ps.zip (c.args.map a.eval)).foldl (fun tmps (x : Nat × Value) => tmps.setIfInBounds x.1 x.2) tmps) := by
          rw [hfold]
          refine setTmps_rel _ _ _ _ _ k3 (by simp) fun i d u hd hu => ?_
          obtain ⟨y, hy, rfl⟩ := getElem?_map_some hd
          simp at hy
          simp [hy] at hu
          subst hu
          exact h.ev y
        refine hR f asg (p ++ [0]) st.objs.length (by rw [codeAt_append, hcode]; rfl) R _ _ r hr 0 Fb β _ w β st.objs w (some l) (n - 1) _ ⟨h.len, hFb, Nat.zero_le _, fun l' e => by cases e; exact ⟨id, f, p, ts, none, cap, ho', hβ⟩⟩ rfl
          ⟨⟨hT, h.len, h.obj, h.inj, h.fb⟩, .refl _ _ _, ⟨[], rfl, List.nodup_nil, by simp⟩⟩ fun e st1 β1 a1 w1 hκ I1 => ?_
        split at hκ
        · rename_i f1 p1 t1 ho1
          have ho1' := objAt_some ho1 rfl
          obtain ⟨ts', j', e1⟩ := I1.adv.frm id f p ts none ho'
          rw [ho1'] at e1; cases e1
          obtain ⟨ls1, hls1⟩ := I1.adv.pre
          have hβ1 : β1[id]? = some (.at l cap) := by rw [hls1]; exact getElem?_append_left' hβ
          obtain ⟨b', cap', tmps1, blk1, gg1, ps1, asg1, body1, fn1, hloc, m1, m2, m3, m4⟩ := I1.rel.obj id _ _ ho1' hβ1
          cases hloc
          obtain ⟨L', s1, s2⟩ := I1.adv.lp l _ k2
          rw [m2] at s1; cases s1
          simp only at s2
          subst s2
          obtain ⟨A2, R2⟩ := I1.rel.setFrm (ts := ts) (j := some none) (L' := ⟨.busy, none, fn1, tmps1, ps1, asg1, body1, blk1⟩) ho1' hβ1 m2 rfl rfl ⟨rfl, rfl, rfl, rfl, rfl⟩ (by simp) (k3.goes (I1.adv.goes (Fb := Fb) h.len))
          refine ⟨_, run_beginRound m2 rfl, ?_⟩
          have hlt1 : id < st1.objs.length := (List.getElem?_eq_some_iff.1 ho1').1
          have hFb2 : ∀ b off, Fb b off → b < (w1.putObj l (.loop ⟨.busy, none, fn1, tmps1, ps1, asg1, body1, blk1⟩)).heap.size := fun b off hF => Nat.lt_of_lt_of_le (hFb b off hF) (I1.adv.trans A2).keep.size
          refine hR f body (p ++ [1]) st1.objs.length (by rw [codeAt_append, hcode]; rfl) R _ _ r hκ 0 Fb β1 a1 _ β1 (st1.objs.set id (.frm f p ts (some none))) _ (some l) (n - 1) _ ⟨R2.len, hFb2, Nat.zero_le _, fun l' e => by cases e; exact ⟨id, f, p, ts, some none, cap, by simp [hlt1], hβ1⟩⟩ (by simp)
            ⟨R2, .refl _ _ _, I1.marks.adv I1.rel A2 rfl⟩ fun e st2 β2 a2 w3 hκ2 I2 => ?_
          obtain ⟨ts2, j2, e2⟩ := I2.adv.frm id f p ts (some none) (by simp [hlt1])
          obtain ⟨ls2, hls2⟩ := I2.adv.pre
          have hβ2 : β2[id]? = some (.at l cap) := by rw [hls2]; exact getElem?_append_left' hβ1
          obtain ⟨b', cap', tmps2, blk2, gg2, ps2, asg2, body2, fn2, hloc, q1, q2, q3, q4⟩ := I2.rel.obj id _ _ e2 hβ2
          cases hloc
          have AA := I1.adv.trans (A2.trans I2.adv)
          obtain ⟨L', s1, s2⟩ := AA.lp l _ k2
          rw [q2] at s1; cases s1
          simp only at s2
          subst s2
          have fin : ∀ (jump : Option Code) (j : Option (Option AEx)) (bv : Bool), jump.isNone = bv → loopState j = (if jump.isNone then .ready else .done) → loopJump j = jump → j ≠ some (some .normal) →
              κ ({ st with objs := st2.objs.set id (.frm f p ts j) }.put o.dst (.bool bv)) = some r → ∃ v w', (Instr.endRound l jump).run cx.prog w3 = .ok v w' ∧ K (a.put o.dst v) w' := by
            intro jump j bv hbv hs hp hj hκ3
            obtain ⟨A4, R4⟩ := I2.rel.setFrm (ts := ts) (j := j) (L' := ⟨if jump.isNone then .ready else .done, jump, fn2, tmps2, ps2, asg2, body2, blk2⟩) e2 hβ2 q2 hs.symm hp.symm ⟨rfl, rfl, rfl, rfl, rfl⟩ hj (k3.goes (AA.goes (Fb := Fb) h.len))
            have AT := AA.trans A4
            refine ⟨_, _, run_endRound jump q2, ?_⟩
            subst hbv
            exact hK.moved (st' := { st with objs := st2.objs.set id (.frm f p ts j) }) AT ⟨h.tmps.goes (AT.goes (Fb := Fb) h.len), R4.len, R4.obj, R4.inj, R4.fb⟩ hκ3 (.bool _)
          cases e with
          | normal => exact fin none none true rfl rfl rfl (by simp) hκ2
          | exit id' => exact fin (some (.exit id')) (some (some (.exit id'))) false rfl rfl rfl (by simp) hκ2
          | goto l' => exact fin (some (.goto l')) (some (some (.goto l'))) false rfl rfl rfl (by simp) hκ2
          | ret => exact fin (some .ret) (some (some .ret)) false rfl rfl rfl (by simp) hκ2
        · cases hκ
      · cases hr
    · cases hr
  · cases hr
end
end Go.Ev
