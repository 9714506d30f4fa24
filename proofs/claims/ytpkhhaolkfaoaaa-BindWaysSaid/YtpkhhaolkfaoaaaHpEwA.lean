/-
  THE EVALUATOR, PART 27: calls as operations.
-/
import Derived.Test.YtpkhhaolkfaoaaaHpEvZ
import Derived.RangeFuncRecord
import Derived.RangeFuncNested
set_option linter.unusedVariables false
set_option linter.unusedSimpArgs false
set_option linter.unusedSectionVars false
namespace Go.Ev

def exOf : AEx → Exit
  | .normal => .normal
  | .exit id => .exit id
  | .goto l => .goto l
  | .ret => .ret

/-- The marks among the deferred calls. -/
def Marks (B : Nat) (a : Act) (w : World) : Prop :=
  ∃ rs : List Nat, a.defers = rs.map (fun r => ({ target := .collected r, args := #[] } : Deferred)) ∧ rs.Nodup ∧ ∀ r ∈ rs, B ≤ r ∧ w.heap[r]? = some (.deferred (some []))

/-- Where a walk began. -/
structure Start (B : Nat) (ro : Option Nat) (Fb : Nat → Nat → Prop) (β0 : List Loc) (objs0 : List AObj) (w0 : World) : Prop where
  len : β0.length = objs0.length
  fb : ∀ b off, Fb b off → b < w0.heap.size
  low : B ≤ w0.heap.size
  ro : ∀ l, ro = some l → ∃ (i : Nat) (f : Nat) (p : List Nat) (ts : List AVal) (j : Option (Option AEx)) (cap : Nat), objs0[i]? = some (.frm f p ts j) ∧ β0[i]? = some (.at l cap)
/-- Where it is. -/
structure Inv (B : Nat) (cx : Cx) (Fb : Nat → Nat → Prop) (β0 : List Loc) (objs0 : List AObj) (w0 : World) (β : List Loc) (st : St) (a : Act) (w : World) : Prop where
  rel : Rel cx Fb β st a w
  adv : Adv β0 objs0 w0 β st.objs w
  marks : Marks B a w

/-- What a run of the evaluator shows of code. -/
def Sim (cx : Cx) (m : Nat) (run : (R : Type) → St → (AEx → St → Option R) → Option R) (c : Code) : Prop :=
  ∀ (R : Type) (st : St) (κ : AEx → St → Option R) (r : R), run R st κ = some r →
    ∀ (B : Nat) (Fb : Nat → Nat → Prop) (β : List Loc) (a : Act) (w : World) (β0 : List Loc) (objs0 : List AObj) (w0 : World) (ro : Option Nat) (n : Nat) (Q : Exit → Act → World → Prop),
      Start B ro Fb β0 objs0 w0 → objs0.length = m → Inv B cx Fb β0 objs0 w0 β st a w →
      (∀ (e : AEx) (st' : St) (β' : List Loc) (a' : Act) (w' : World), κ e st' = some r → Inv B cx Fb β0 objs0 w0 β' st' a' w' → Q (exOf e) a' w') → c.wpIn (FW ro) n cx.prog Q a w
def RunOK (cx : Cx) (O : Orc cx) : Prop := ∀ (f : Nat) (c : Code) (p : List Nat) (m : Nat), codeAt p (bodyOf cx f) = c → Sim cx m (fun R st κ => O.run R f c p m st κ) c
def CallFn (cx : Cx) (O : Orc cx) : Prop := ∀ (f : Nat) (args : List AVal) (objs : List AObj) (r : TA (cx.rty f args objs)), O.call f args objs = some r → ∃ fn c, cx.prog.funcs[f]? = some fn ∧ fn.body = some c

theorem callsIn_ro {ro : Option Nat} {n : Nat} {P : Program} {f : FuncId} {args : Array Value} {w : World} {R : Ending → World → Prop} (h : CallsIn Fence.wide n P f args w R) : CallsIn (FW ro) n P f args w R := h

theorem codeAt_append : ∀ (p q : List Nat) (c : Code), codeAt (p ++ q) c = codeAt q (codeAt p c) := by
  have skip : ∀ q, codeAt q .skip = .skip := fun q => by
    cases q with
    | nil => rfl
    | cons x q => cases x with
      | zero => rfl
      | succ x => cases x <;> rfl
  intro p
  induction p with
  | nil => intro q c; rfl
  | cons x p ih =>
    intro q c
    cases x with
    | zero => cases c <;> first | exact ih q _ | (show Code.skip = _; simp only [codeAt, skip])
    | succ x =>
      cases x with
      | zero => cases c <;> first | exact ih q _ | (show Code.skip = _; simp only [codeAt, skip])
      | succ x => cases c <;> (show Code.skip = _; simp only [codeAt, skip])

section
variable {cx : Cx} {Fb : Nat → Nat → Prop} {β : List Loc} {st : St} {a : Act} {w : World}

theorem not_wr_deferred (h : Rel cx Fb β st a w) {r : Nat} {ds : Option (List Deferred)} (hr : w.heap[r]? = some (.deferred ds)) (off : Nat) : ¬ Wr β st.objs r off := by
  rintro ⟨i, o, l, h1, h2, h3⟩
  obtain ⟨ha, cap, rfl⟩ := wrO_at h3
  have hob := h.obj i o _ h1 h2
  cases o with
  | dead => cases ha
  | box cs => obtain ⟨b', cap', vs, e, fr, hl, k1, _⟩ := hob; cases hl; rw [hr] at k1; cases k1
  | arr t sh xs => obtain ⟨vs, e, fr, k1, _⟩ := hob; rw [hr] at k1; cases k1
  | frm f p ts j => obtain ⟨b', cap', tmps, blk, gg, ps, asg, body, fn, hl, k1, k2, _⟩ := hob; cases hl; rw [hr] at k2; cases k2
  | mp kt vt ks vs => obtain ⟨b', cap', es, clk, hl, k1, _⟩ := hob; cases hl; rw [hr] at k1; cases k1
  | sit s pos => obtain ⟨b', cap', hl, k1⟩ := hob; cases hl; rw [hr] at k1; cases k1
theorem Marks.adv {B : Nat} {a0 a' : Act} (hm : Marks B a0 w) (h : Rel cx Fb β st a w) {β' : List Loc} {objs' : List AObj} {w' : World} (A : Adv β st.objs w β' objs' w') (hd : a'.defers = a0.defers) : Marks B a' w' := by
  obtain ⟨rs, h1, h2, h3⟩ := hm
  refine ⟨rs, hd.trans h1, h2, fun r hr => ⟨(h3 r hr).1, ?_⟩⟩
  have := (h3 r hr).2
  rw [A.keep.blk r (lt_of_get this) (not_wr_deferred h this)]
  exact this

theorem argsAs_rel : ∀ (f : Nat) (i : Nat) (ts : List Nat) (args : List AVal) {cargs : Array Value} {β : List Loc} {st : St}, Rel cx Fb β st a w → RelL β st.objs w (NN Fb β st.objs) args cargs → (∀ (k : Nat) (v : AVal), args[k]? = some v → cx.mutp f (i + k) = false → ∀ id, .own id ∈ valCells v → Shared st.objs id) →
    RelL β st.objs w (NN Fb β st.objs) (argsAs cx st.objs f i ts args) cargs := by
  intro f i ts args cargs β st h hr hs
  have key : ∀ (args : List AVal) (i : Nat) (ts : List Nat), (argsAs cx st.objs f i ts args).length = args.length ∧
      ∀ (k : Nat) (c : AVal), (argsAs cx st.objs f i ts args)[k]? = some c → ∃ v, args[k]? = some v ∧ (c = v ∨ ∃ t, c = argAs st.objs (cx.mutp f (i + k)) (cx.kind t) v) := by
    intro args
    induction args with
    | nil => intro i ts; cases ts <;> exact ⟨rfl, by simp [argsAs]⟩
    | cons v args ih =>
      intro i ts
      cases ts with
      | nil =>
        obtain ⟨l, hh⟩ := ih (i + 1) []
        refine ⟨by simp [argsAs, l], fun k c hc => ?_⟩
        cases k with
        | zero => simp [argsAs] at hc; exact ⟨v, rfl, .inl hc.symm⟩
        | succ k =>
          obtain ⟨v', h1, h2⟩ := hh k c (by simpa [argsAs] using hc)
          exact ⟨v', by simpa using h1, by rw [show i + (k + 1) = i + 1 + k by omega]; exact h2⟩
      | cons t ts =>
        obtain ⟨l, hh⟩ := ih (i + 1) ts
        refine ⟨by simp [argsAs, l], fun k c hc => ?_⟩
        cases k with
        | zero => simp [argsAs] at hc; exact ⟨v, rfl, .inr ⟨t, hc.symm⟩⟩
        | succ k =>
          obtain ⟨v', h1, h2⟩ := hh k c (by simpa [argsAs] using hc)
          exact ⟨v', by simpa using h1, by rw [show i + (k + 1) = i + 1 + k by omega]; exact h2⟩
  obtain ⟨l, hh⟩ := key args i ts
  refine ⟨l.trans hr.1, fun k c v hc hv => ?_⟩
  obtain ⟨v0, h1, h2⟩ := hh k c hc
  have hr0 := hr.2 k v0 v h1 hv
  rcases h2 with rfl | ⟨t, rfl⟩
  · exact hr0
  · unfold argAs
    cases hm : cx.mutp f (i + k) with
    | true => exact hr0
    | false =>
      have hsh := hs k v0 h1 hm
      simp only [cond_false]
      split
      · exact fixS_rel h hr0 fun id e => hsh id (by subst e; simp [valCells])
      · rename_i ss _ _ cs _
        cases hr0 with | agg hl hrr =>
        have := fixL_rel h ss cs (⟨hl, hrr⟩ : RelL _ _ _ _ _ _) (fun id hid => hsh id hid)
        exact .agg this.1 this.2
      · exact hr0

theorem shares_rel (f : Nat) : ∀ (args : List AVal) (i : Nat) {β : List Loc} {st : St}, Rel cx Fb β st a w →
    Adv β st.objs w β (shares cx f i st.objs args) w ∧ Rel cx Fb β { st with objs := shares cx f i st.objs args } a w ∧ (∀ k, Shared st.objs k → Shared (shares cx f i st.objs args) k) ∧
    ∀ (k : Nat) (v : AVal), args[k]? = some v → cx.mutp f (i + k) = false → ∀ id, .own id ∈ valCells v → Shared (shares cx f i st.objs args) id
  | [], i, β, st, h => ⟨.refl _ _ _, h, fun _ h => h, by simp⟩
  | v :: vs, i, β, st, h => by
    have step : ∀ objs1, Adv β st.objs w β objs1 w → Rel cx Fb β { st with objs := objs1 } a w → (∀ k, Shared st.objs k → Shared objs1 k) → (cx.mutp f i = false → ∀ id, .own id ∈ valCells v → Shared objs1 id) →
        Adv β st.objs w β (shares cx f (i + 1) objs1 vs) w ∧ Rel cx Fb β { st with objs := shares cx f (i + 1) objs1 vs } a w ∧ (∀ k, Shared st.objs k → Shared (shares cx f (i + 1) objs1 vs) k) ∧
        ∀ (k : Nat) (u : AVal), (v :: vs)[k]? = some u → cx.mutp f (i + k) = false → ∀ id, .own id ∈ valCells u → Shared (shares cx f (i + 1) objs1 vs) id := by
      intro objs1 A1 R1 S1 V1
      obtain ⟨A2, R2, S2, V2⟩ := shares_rel f vs (i + 1) R1
      refine ⟨A1.trans A2, R2, fun k hk => S2 k (S1 k hk), fun k u hu hm id hid => ?_⟩
      cases k with
      | zero => simp at hu; subst hu; exact S2 id (V1 hm id hid)
      | succ k => exact V2 k u (by simpa using hu) (by rw [show i + 1 + k = i + (k + 1) by omega]; exact hm) id hid
    unfold shares
    cases hm : cx.mutp f i with
    | true => exact step st.objs (.refl _ _ _) h (fun _ h => h) (by simp [hm])
    | false =>
      obtain ⟨A1, R1⟩ := h.shareV v
      obtain ⟨s1, s2, _⟩ := shareV_shared st.objs v
      exact step _ A1 R1 s1 (fun _ => s2)

theorem RelL.append {objs : List AObj} {N : Nat → Nat → Prop} {cs ds : List AVal} {vs us : Array Value} (h : RelL β objs w N cs vs) (h' : RelL β objs w N ds us) : RelL β objs w N (cs ++ ds) (vs ++ us) := by
  refine ⟨by simp [h.1, h'.1], fun i c v hc hv => ?_⟩
  rw [Array.getElem?_append] at hv
  rcases getElem?_append_some hc with h1 | ⟨h1, h2⟩
  · have := (List.getElem?_eq_some_iff.1 h1).1
    rw [if_pos (by rw [← h.1]; exact this)] at hv
    exact h.2 i c v h1 hv
  · rw [if_neg (by rw [← h.1]; omega), ← h.1] at hv
    exact h'.2 _ c v h2 hv

theorem callFunc_run (hok : cx.ok = true) {f : Nat} {fn : Func} {c : Code} (hf : cx.prog.funcs[f]? = some fn) (hb : fn.body = some c) (args : Array Value) : (callFunc f args).run cx.prog w = .ok (.enter f args) w := by
  have := Cx.nameOk hok hf
  have this' : ¬ fn.name = "runtime.NumGoroutine" := by simpa using this
  simp [callFunc, hf, this', hb]

theorem callK_fn {O : Orc cx} (hF : CallFn cx O) {f : Nat} {args : List AVal} {objs : List AObj} {R : Type} {κ : List AObj → AVal → Option R} {y : R} (hr : callK O f args objs κ = some y) : ∃ fn c, cx.prog.funcs[f]? = some fn ∧ fn.body = some c := by
  unfold callK at hr
  simp only [frcOs_eq, frcVs_eq, frcNs_eq] at hr
  obtain ⟨r, hcall, hr⟩ := Option.bind_eq_some_iff.1 hr
  exact hF _ _ _ r hcall

/-- A call of a function that is known. -/
theorem callClo_op (hok : cx.ok = true) {O : Orc cx} (hO : CallOK cx O) (hF : CallFn cx O) (h : Rel cx Fb β st a w) (hFb : ∀ b off, Fb b off → b < w.heap.size) {R : Type} {κ : St → Option R} {r : R} {K : Act → World → Prop} {Q : Exit → Act → World → Prop} {ro : Option Nat} {n : Nat} {o : Oper}
    (hK : After cx Fb β st a w κ r K) {c : Call} {x : Operand} (hop : o.op = .call c) (hc : c.callee = .value x) {f : Nat} {caps : List AVal} (hx : st.ev x = .clo f caps)
    (hr : callK O f (argsAs cx (shares cx f 0 st.objs (c.args.toList.map st.ev)) f 0 c.argTypes.toList (c.args.toList.map st.ev) ++ caps) (shares cx f 0 st.objs (c.args.toList.map st.ev)) (fun objs v => κ ({ st with objs := objs }.put o.dst v)) = some r) :
    o.wpIn (FW ro) n cx.prog a w K Q := by
  have hxv := h.ev x
  rw [hx] at hxv
  generalize hv : a.eval x = v at hxv
  cases hxv with | clo hl hrc =>
  rename_i cvs
  obtain ⟨fn, cd, hf, hb⟩ := callK_fn hF hr
  have hargs : RelL β st.objs w (NN Fb β st.objs) (c.args.toList.map st.ev) (c.args.map a.eval) := by
    refine ⟨by simp, fun i d u hd hu => ?_⟩
    obtain ⟨y, hy, rfl⟩ := getElem?_map_some hd
    simp at hy
    simp [hy] at hu
    subst hu
    exact h.ev y
  obtain ⟨A1, R1, _, S1⟩ := shares_rel f (c.args.toList.map st.ev) 0 h
  have G := A1.goes (Fb := Fb) h.len
  have hall := (argsAs_rel f 0 c.argTypes.toList (c.args.toList.map st.ev) (cargs := c.args.map a.eval) R1 (hargs.goes G) (fun k v hk hm id hid => S1 k v hk hm id hid)).append (RelL.goes G (⟨hl, hrc⟩ : RelL β st.objs w (NN Fb β st.objs) caps cvs))
  have hrun : (execOp a.eval o).run cx.prog w = .ok (.enter f (c.args.map a.eval ++ cvs)) w := by
    simp only [execOp, hop, resolve, hc, hv, Deferred.ofValue, Sem.run_bind, Sem.run_pure, Result.andThen_ok, invoke, Array.empty_append]
    exact callFunc_run hok hf hb _
  refine ⟨fun _ _ => trivial, ?_⟩
  rw [Oper.semAt_eq _ _ _ (by simp [hop]), hrun, Oper.uponIn_enter]
  refine ⟨FW_depth ro n, callsIn_ro ((callK_sim hO R1 hFb hall hr (n - 1)).mono fun e w' he => ?_)⟩
  obtain ⟨v', β', objs', av, rfl, hκ, A2, R2, hv'⟩ := he
  exact hK.moved (st' := { st with objs := objs' }) (A1.trans A2) R2 hκ hv'
end
end Go.Ev
