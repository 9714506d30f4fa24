/-
  THE EVALUATOR, PART 32: functions.
-/
import Derived.Test.YtpkhhaolkfaoaaaHpEwE
set_option linter.unusedVariables false
set_option linter.unusedSimpArgs false
set_option linter.unusedSectionVars false
namespace Go.Ev

/-- Blocks for deferred calls are shut. -/
structure Shut (B : Nat) (w w' : World) : Prop where
  os : w'.os = w.os
  tape : w'.tape = w.tape
  output : w'.output = w.output
  size : w'.heap.size = w.heap.size
  blk : ∀ b : Nat, w'.heap[b]? = w.heap[b]? ∨ (B ≤ b ∧ ∃ ds, w.heap[b]? = some (.deferred ds))
theorem Shut.refl (B : Nat) (w : World) : Shut B w w := ⟨rfl, rfl, rfl, rfl, fun _ => .inl rfl⟩
theorem Shut.trans {B : Nat} {w w1 w2 : World} (h : Shut B w w1) (h' : Shut B w1 w2) : Shut B w w2 := by
  refine ⟨h'.os.trans h.os, h'.tape.trans h.tape, h'.output.trans h.output, h'.size.trans h.size, fun b => ?_⟩
  rcases h.blk b with h1 | h1
  · rcases h'.blk b with h2 | ⟨h2, ds, h3⟩
    · exact .inl (h2.trans h1)
    · exact .inr ⟨h2, ds, h1 ▸ h3⟩
  · exact .inr h1
theorem Shut.put {B r : Nat} {w : World} (hB : B ≤ r) {ds : Option (List Deferred)} (h : w.heap[r]? = some (.deferred ds)) : Shut B w (w.putObj r (.deferred none)) := by
  refine ⟨rfl, rfl, rfl, by simp [World.putObj], fun b => ?_⟩
  by_cases e : b = r
  · subst e; exact .inr ⟨hB, ds, h⟩
  · exact .inl (World.putObj_heap_other e)

section
variable {cx : Cx} {Fb : Nat → Nat → Prop} {β : List Loc} {st : St} {a : Act} {w : World}

theorem Shut.cell {B : Nat} {w w' : World} (h : Shut B w w') {ad : Addr} {v : Value} (hv : w.cell? ad = some v) : w'.cell? ad = some v := by
  obtain ⟨vs, e, fr, hb, hs, hv⟩ := cell?_some.1 hv
  rcases h.blk ad.block with h1 | ⟨_, ds, h1⟩
  · exact cell?_some.2 ⟨vs, e, fr, h1.trans hb, hs, hv⟩
  · rw [hb] at h1; cases h1
theorem Rel.shut (h : Rel cx Fb β st a w) {B : Nat} {w' : World} (s : Shut B w w') : Rel cx Fb β st a w' := by
  have G : Goes β β st.objs st.objs w w' (NN Fb β st.objs) (NN Fb β st.objs) := ⟨fun _ _ h => h, fun i t sh xs _ ho => ⟨sh, xs, ho, rfl⟩, fun ad v _ hv => s.cell hv, fun _ _ _ h => h⟩
  refine h.step G h.len (fun i o l ho hl => ?_) h.inj h.fb
  have hob := h.obj i o l ho hl
  by_cases ha : alive o = true
  · refine hob.goes G fun b cap e => ?_
    subst e
    rcases s.blk b with h1 | ⟨_, ds, h1⟩
    · exact h1
    · obtain ⟨off, hw⟩ := wr_ex (b := b) (c := cap) ha
      exact absurd ⟨i, o, _, ho, hl, hw⟩ (not_wr_deferred h h1 off)
  · cases o with
    | dead => trivial
    | _ => exact absurd rfl ha
theorem Adv.shut {β0 : List Loc} {objs0 : List AObj} {w0 : World} {objs : List AObj} (A : Adv β0 objs0 w0 β objs w) {w' : World} (s : Shut w0.heap.size w w') : Adv β0 objs0 w0 β objs w' := by
  have old : ∀ b, b < w0.heap.size → w'.heap[b]? = w.heap[b]? := fun b hb => by
    rcases s.blk b with h1 | ⟨h1, _⟩
    · exact h1
    · omega
  refine ⟨A.pre, ⟨s.os.trans A.keep.os, s.tape.trans A.keep.tape, s.output.trans A.keep.output, by rw [s.size]; exact A.keep.size, fun b hb hn => (old b hb).trans (A.keep.blk b hb hn), fun b vs e fr hb => ?_⟩, A.wr, A.frm, A.arr, A.len, fun b L hb => ?_⟩
  · obtain ⟨vs', h1, h2⟩ := A.keep.cell b vs e fr hb
    exact ⟨vs', (old b (lt_of_get hb)).trans h1, h2⟩
  · obtain ⟨L', h1, h2⟩ := A.lp b L hb
    exact ⟨L', (old b (lt_of_get hb)).trans h1, h2⟩

theorem leave_marks {F : Fence} {n B : Nat} {P : Program} {fn : Func} {tmps : Array Value} {R : Ending → World → Prop} : ∀ (rs : List Nat) (w : World), rs.Nodup → (∀ r ∈ rs, B ≤ r ∧ w.heap[r]? = some (.deferred (some []))) →
    (∀ w', Shut B w w' → ∃ v, (results fn tmps).run P w' = .ok v w' ∧ R (.returned v) w') →
    LeavesInM F n P fn tmps R (rs.map (fun r => ({ target := .collected r, args := #[] } : Deferred))) .returning w
  | [], w, _, _, h => by
    obtain ⟨v, h1, h2⟩ := h w (.refl _ _)
    exact ⟨v, h1, h2⟩
  | r :: rs, w, hnd, hm, h => by
    have hn := List.nodup_cons.1 hnd
    obtain ⟨hB, hr⟩ := hm r (by simp)
    refine ⟨by simp, .inl ⟨r, _, rfl, run_takeDeferred hr, leave_marks (B := B) rs _ hn.2 (fun q hq => ⟨(hm q (by simp [hq])).1, ?_⟩) fun w' s => h w' ((Shut.put hB hr).trans s)⟩⟩
    rw [World.putObj_heap_other (fun e => by subst e; exact hn.1 hq)]
    exact (hm q (by simp [hq])).2

def resG (ts : Array Value) : ResultVar → Sem Value
  | .tmp t => pure (ts.getD t undef)
  | .cell a t => do loadVar t (← asAddr (ts.getD a undef))
theorem results_eq (fn : Func) (ts : Array Value) : results fn ts = (do let vs ← fn.results.mapM (resG ts); pure (if h : vs.size = 1 then vs[0] else .tuple vs) : Sem Value) := by
  unfold results
  congr 1
theorem resultsA_run (hok : cx.ok = true) (h : Rel cx Fb β st a w) : ∀ (rs : List ResultVar) (vs : List AVal), resultsA cx st rs = some vs →
    ∃ us : List Value, (rs.mapM (resG a.tmps)).run cx.prog w = .ok us w ∧ RelL β st.objs w (NN Fb β st.objs) vs us.toArray
  | [], vs, hr => by
    cases hr
    exact ⟨[], by simp, rfl, by simp⟩
  | .tmp t :: rs, vs, hr => by
    obtain ⟨vs', hvs, rfl⟩ := Option.map_eq_some_iff.1 hr
    obtain ⟨us, h1, h2⟩ := resultsA_run hok h rs vs' hvs
    have h0 : (resG a.tmps (.tmp t)).run cx.prog w = .ok (a.tmps.getD t undef) w := rfl
    refine ⟨a.tmps.getD t undef :: us, by simp only [List.mapM_cons, Sem.run_bind, h0, h1, Result.andThen_ok, Sem.run_pure], by simpa using h2.1, fun i c v hc hv => ?_⟩
    cases i with
    | zero =>
      simp at hc hv
      subst hc; subst hv
      have := h.ev (.tmp t)
      simp only [St.ev, Act.eval, Array.getD_eq_getD_getElem?] at this
      exact this
    | succ i => exact h2.2 i c v (by simpa using hc) (by simpa using hv)
  | .cell c t :: rs, vs, hr => by
    simp only [resultsA] at hr
    split at hr
    · rename_i id off e
      split at hr
      · rename_i cs ho
        obtain ⟨z, hz, hr⟩ := Option.bind_eq_some_iff.1 hr
        obtain ⟨vs', hvs, rfl⟩ := Option.map_eq_some_iff.1 hr
        obtain ⟨us, h1, h2⟩ := resultsA_run hok h rs vs' hvs
        have hev := h.ev (.tmp c)
        simp only [St.ev, Act.eval] at hev
        rw [e] at hev
        generalize hv : a.tmps.getD c undef = v at hev
        cases hev with | ptr hβ =>
        rename_i b cap
        obtain ⟨u, h3, h4⟩ := loadAs_run hok (rowAt_ptr (rowAt_box (h.obj id _ _ (objAt_some ho rfl) hβ)) off) hz
        have h0 : (resG a.tmps (.cell c t)).run cx.prog w = .ok u w := by
          simp only [resG]
          rw [hv]
          simp [asAddr, h3]
        refine ⟨u :: us, by simp only [List.mapM_cons, Sem.run_bind, h0, h1, Result.andThen_ok, Sem.run_pure], by simpa using h2.1, fun i c' v hc hv => ?_⟩
        cases i with
        | zero =>
          simp at hc hv
          subst hc; subst hv
          exact h4
        | succ i => exact h2.2 i c' v (by simpa using hc) (by simpa using hv)
      · cases hr
    · cases hr

theorem resultA_run (hok : cx.ok = true) (h : Rel cx Fb β st a w) {fn : Func} {v : AVal} (hr : resultA cx st fn.results.toList = some v) :
    ∃ u, (results fn a.tmps).run cx.prog w = .ok u w ∧ RelV β st.objs w (NN Fb β st.objs) v u := by
  obtain ⟨vs, hvs, hv⟩ := Option.map_eq_some_iff.1 hr
  obtain ⟨us, h1, h2⟩ := resultsA_run hok h _ vs hvs
  have hrun : (fn.results.mapM (resG a.tmps)).run cx.prog w = .ok us.toArray w := by
    rw [Array.mapM_eq_mapM_toList, ← bind_pure_comp, Sem.run_bind, h1]
    rfl
  refine ⟨if h : us.toArray.size = 1 then us.toArray[0] else .tuple us.toArray, ?_, ?_⟩
  · rw [results_eq, Sem.run_bind, hrun]
    rfl
  · subst hv
    clear hrun h1 hvs hr
    have hl : vs.length = us.length := by simpa using h2.1
    match vs, us, hl, h2 with
    | [x], [u], _, h2 => exact h2.2 0 x u rfl rfl
    | [], [], _, h2 => exact .tup h2.1 h2.2
    | x :: y :: l, u :: v :: m, _, h2 =>
      have : ¬ (u :: v :: m).toArray.size = 1 := by simp
      rw [dif_neg this]
      exact .tup h2.1 h2.2

theorem decA_sim {β0 : List Loc} {objs0 : List AObj} {ts0 : List AVal} {a0 : Act} {w0 : World} (h0 : Rel cx Fb β0 { tmps := ts0, objs := objs0 } a0 w0) {objs : List AObj} {v : AVal} {u : Value}
    (h : Rel cx Fb β { tmps := [v], objs := objs } { tmps := #[u], defers := [] } w) (A : Adv β0 objs0 w0 β objs w) : ∀ {alts : List FSh} {x : TA alts}, decA objs0.length alts objs v = some x →
    ∃ β', Adv β0 objs0 w0 β' (encP objs0 alts x).1 w ∧ Rel cx Fb β' { tmps := [(encP objs0 alts x).2], objs := (encP objs0 alts x).1 } { tmps := #[u], defers := [] } w
  | [], x, hd => by cases hd
  | [a], x, hd => dec1_sim h0 h A hd
  | a :: b :: r, x, hd => by
    simp only [decA] at hd
    split at hd
    · rename_i y hy
      cases hd
      exact dec1_sim h0 h A hy
    · obtain ⟨y, hy, rfl⟩ := Option.map_eq_some_iff.1 hd
      exact decA_sim h0 h A (alts := b :: r) (x := y) hy

/-- What is said of functions that aren't run by the evaluator. -/
def ExtAll (cx : Cx) : Prop := ∀ f args objs v, cx.ext f args objs = some v → ∀ (Fb : Nat → Nat → Prop) (β : List Loc) (cargs : Array Value) (w : World), Rel cx Fb β { tmps := args, objs := objs } { tmps := cargs, defers := [] } w → (∀ b off, Fb b off → b < w.heap.size) →
  Calls cx.prog f cargs w fun e w' => ∃ u, e = .returned u ∧ Grow w w' ∧ RelV β objs w' (NN Fb β objs) v u
theorem extAll_none (h : ∀ f args objs, cx.ext f args objs = none) : ExtAll cx := fun f args objs v hv => by rw [h] at hv; cases hv
theorem call_sim (hok : cx.ok = true) (hx : ExtAll cx) {O : Orc cx} (hO : OrcOK cx O) (k : Nat) {f : Nat} {args : List AVal} {objs : List AObj} {r : TA (cx.rty f args objs)} (hr : acallBody cx O k f args objs = some r) :
    (∃ fn c, cx.prog.funcs[f]? = some fn ∧ fn.body = some c) ∧
    ∀ (Fb : Nat → Nat → Prop) (β : List Loc) (cargs : Array Value) (w : World) (n : Nat), Rel cx Fb β { tmps := args, objs := objs } { tmps := cargs, defers := [] } w → (∀ b off, Fb b off → b < w.heap.size) →
      CallsIn Fence.wide n cx.prog f cargs w fun e w' => ∃ v β', e = .returned v ∧ Adv β objs w β' (encP objs _ r).1 w' ∧
        Rel cx Fb β' { tmps := [(encP objs _ r).2], objs := (encP objs _ r).1 } { tmps := #[v], defers := [] } w' := by
  unfold acallBody at hr
  split at hr
  · cases hr
  · rename_i fn hf
    split at hr
    · cases hr
    · rename_i c hb
      split at hr
      · rename_i v hv
        have hC := hx f args objs v hv
        refine ⟨⟨fn, c, hf, hb⟩, fun Fb β cargs w n h hFb => ?_⟩
        refine callsIn_wide.2 ((hC Fb β cargs w h hFb).mono fun e w' he => ?_)
        obtain ⟨u, rfl, hg, hu⟩ := he
        have A := h.push_adv hg [] [] rfl (fun i b cap hi => by simp at hi)
        obtain ⟨Gp, Rp⟩ := h.push hg [] [] rfl hFb (fun i b cap hi => by simp at hi) (fun i j b c c' hi => by simp at hi) fun G i o l2 ho => by simp at ho
        simp only [List.append_nil, St.push] at A Rp
        have R : Rel cx Fb β { tmps := [v], objs := objs } { tmps := #[u], defers := [] } w' := ⟨⟨rfl, fun i c x hc hx => by
          cases i with
          | zero => simp at hc hx; subst hc; subst hx; exact hu
          | succ i => simp at hc⟩, Rp.len, Rp.obj, Rp.inj, Rp.fb⟩
        obtain ⟨β3, A4, R4⟩ := decA_sim h R A hr
        exact ⟨u, β3, rfl, A4, R4⟩
      refine ⟨⟨fn, c, hf, hb⟩, fun Fb β cargs w n h hFb => callsIn_of_wp_marks hf hb trivial ?_⟩
      have hbody : codeAt [] (bodyOf cx f) = c := by simp [codeAt, bodyOf, hf, hb]
      have hrep : RelL β objs w (NN Fb β objs) (List.replicate (fn.ntmps - args.length) .undef) (Array.replicate (fn.ntmps - cargs.size) undef) := by
        have := h.tmps.1
        simp only at this
        refine ⟨by simp [this], fun i c v hc _ => ?_⟩
        have : c = .undef := by
          have := List.mem_of_getElem? hc
          simp at this; exact this.2
        subst this; exact .undef _
      have key := aev_sim hok hO k f objs.length c [] hbody (TA (cx.rty f args objs)) _ (kRet cx f fn.results.toList args objs) r hr w.heap.size Fb β
        { tmps := cargs ++ Array.replicate (fn.ntmps - cargs.size) undef, defers := [] } w β objs w none n
        (bodyPostM Fence.wide n cx.prog fn fun e w' => ∃ v β', e = .returned v ∧ Adv β objs w β' (encP objs _ r).1 w' ∧
          Rel cx Fb β' { tmps := [(encP objs _ r).2], objs := (encP objs _ r).1 } { tmps := #[v], defers := [] } w')
        ⟨h.len, hFb, Nat.le_refl _, fun l e => by cases e⟩ rfl ⟨⟨h.tmps.append hrep, h.len, h.obj, h.inj, h.fb⟩, .refl _ _ _, ⟨[], rfl, List.nodup_nil, by simp⟩⟩
      refine key fun e st' β' a' w' hκ I => ?_
      have fin : kRet cx f fn.results.toList args objs .normal st' = some r → LeavesInM Fence.wide n cx.prog fn a'.tmps (fun e w' => ∃ v β', e = .returned v ∧ Adv β objs w β' (encP objs _ r).1 w' ∧
          Rel cx Fb β' { tmps := [(encP objs _ r).2], objs := (encP objs _ r).1 } { tmps := #[v], defers := [] } w') a'.defers .returning w' := by
        intro hκ
        obtain ⟨rs, m1, m2, m3⟩ := I.marks
        rw [m1]
        refine leave_marks (B := w.heap.size) rs w' m2 m3 fun w2 s => ?_
        obtain ⟨v, hv, hκ⟩ := Option.bind_eq_some_iff.1 hκ
        have R2 := I.rel.shut s
        have A2 := I.adv.shut s
        obtain ⟨u, hu1, hu2⟩ := resultA_run hok R2 hv
        refine ⟨u, hu1, ?_⟩
        obtain ⟨⟨e, he, _⟩, hnd⟩ := reach_spec 200 st'.objs ((st'.objs.take objs.length).flatMap objRefs ++ refs 3 v) (List.range objs.length) List.nodup_range
        have A3 := A2.pick h.len R2.len he
        have R3 := R2.pick _ hnd (Fb' := Fb) (fun i o b c _ h1 h2 h3 => R2.fb i o b c h1 h2 h3) (fun b off _ hF => .inl hF) (ts := [v]) (a' := { tmps := #[u], defers := [] })
          ⟨rfl, fun i c x hc hx => by
            cases i with
            | zero => simp at hc hx; subst hc; subst hx; exact hu2
            | succ i => simp at hc⟩
        obtain ⟨β3, A4, R4⟩ := decA_sim h R3 A3 hκ
        exact ⟨u, β3, rfl, A4, R4⟩
      cases e with
      | normal => exact fin hκ
      | ret => exact fin hκ
      | exit id => cases hκ
      | goto l => cases hκ

/-- The functions said to only read leave all as it was. -/
def RoAll (cx : Cx) : Prop := ∀ k, RoOK cx (orcAt cx k)
theorem roAll_none (h : ∀ f args objs, cx.ro f args objs = false) : RoAll cx := fun k f args objs r hr => by rw [h] at hr; cases hr

theorem orc_ok (hok : cx.ok = true) (hro : RoAll cx) (hx : ExtAll cx) : ∀ k, OrcOK cx (orcAt cx k)
  | 0 => ⟨hro 0, fun _ _ _ _ h => (by cases h), fun _ _ _ _ h => (by cases h), fun _ _ _ _ _ => (by intro R st κ r hr; cases hr)⟩
  | k + 1 => by
    have ih := orc_ok hok hro hx k
    exact ⟨hro (k + 1), fun f args objs r h => (call_sim hok hx ih k h).2, fun f args objs r h => (call_sim hok hx ih k h).1, fun f c p m hp => aev_sim hok ih k f m c p hp⟩

/-- What the evaluator answers, the program answers. -/
theorem acall_sim (hok : cx.ok = true) (hro : RoAll cx) {k f : Nat} {args : List AVal} {objs : List AObj} {r : TA (cx.rty f args objs)} (hr : acall cx k f args objs = some r) {Fb : Nat → Nat → Prop} {β : List Loc} {cargs : Array Value} {w : World} (hx : ExtAll cx)
    (h : Rel cx Fb β { tmps := args, objs := objs } { tmps := cargs, defers := [] } w) (hFb : ∀ b off, Fb b off → b < w.heap.size) :
    Calls cx.prog f cargs w fun e w' => ∃ v β', e = .returned v ∧ Adv β objs w β' (encP objs _ r).1 w' ∧
      Rel cx Fb β' { tmps := [(encP objs _ r).2], objs := (encP objs _ r).1 } { tmps := #[v], defers := [] } w' :=
  callsIn_wide.1 ((orc_ok hok hro hx k).call f args objs r hr Fb β cargs w 0 h hFb)
end
end Go.Ev
