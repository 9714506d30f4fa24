/-
  THE EVALUATOR, PART 29: regions; ranges over functions.
-/
import Derived.Test.YtpkhhaolkfaoaaaHpEwB
set_option linter.unusedVariables false
set_option linter.unusedSimpArgs false
set_option linter.unusedSectionVars false
namespace Go.Ev

section
variable {cx : Cx} {Fb : Nat → Nat → Prop} {β : List Loc} {st : St} {a : Act} {w : World}

/-- Functions that only read. -/
def RoOK (cx : Cx) (O : Orc cx) : Prop := ∀ (f : Nat) (args : List AVal) (objs : List AObj) (r : TA (cx.rty f args objs)), cx.ro f args objs = true → O.call f args objs = some r → (encP objs _ r).1 = objs
structure OrcOK (cx : Cx) (O : Orc cx) : Prop where
  ro : RoOK cx O
  call : CallOK cx O
  fn : CallFn cx O
  run : RunOK cx O

theorem op_sim (hok : cx.ok = true) {O : Orc cx} (hO : OrcOK cx O) (h : Rel cx Fb β st a w) (hFb : ∀ b off, Fb b off → b < w.heap.size) {R : Type} {κ : St → Option R} {r : R} {K : Act → World → Prop} {Q : Exit → Act → World → Prop} {ro : Option Nat} {n : Nat} {o : Oper}
    (hK : After cx Fb β st a w κ r K) (hr : aop cx O o st κ = some r) : o.wpIn (FW ro) n cx.prog a w K Q := by
  refine aop_sim hok h hFb O hK (fun c x hop hc => ?_) hr
  simp only [aop, aopV, hop, hc] at hr
  cases hx : st.ev x with
  | clo f caps => rw [hx] at hr; exact callClo_op hok hO.call hO.fn h hFb hK hop hc hx hr
  | yld id => rw [hx] at hr; exact callYld_op hO.run h hFb hK hop hc hx hr
  | _ => rw [hx] at hr; simp [callVal] at hr

theorem Inv.after {B : Nat} {β0 : List Loc} {objs0 : List AObj} {w0 : World} (I : Inv B cx Fb β0 objs0 w0 β st a w) {β' : List Loc} {st' : St} {a' : Act} {w' : World} (A : Adv β st.objs w β' st'.objs w') (h : Rel cx Fb β' st' a' w')
    (hd : a'.defers = a.defers) : Inv B cx Fb β0 objs0 w0 β' st' a' w' := ⟨h, I.adv.trans A, I.marks.adv I.rel A hd⟩
theorem Start.fb' {B : Nat} {ro : Option Nat} {β0 : List Loc} {objs0 : List AObj} {w0 : World} (S : Start B ro Fb β0 objs0 w0) (A : Adv β0 objs0 w0 β st.objs w) : ∀ b off, Fb b off → b < w.heap.size :=
  fun b off h => Nat.lt_of_lt_of_le (S.fb b off h) A.keep.size

theorem aops_sim (hok : cx.ok = true) {O : Orc cx} (hO : OrcOK cx O) {B : Nat} {ro : Option Nat} {β0 : List Loc} {objs0 : List AObj} {w0 : World} (S : Start B ro Fb β0 objs0 w0) (n : Nat) (ops : Array Oper) {R : Type} {κ : St → Option R} {r : R} {Q : Exit → Act → World → Prop}
    (hQ : ∀ (st' : St) (β' : List Loc) (a' : Act) (w' : World), κ st' = some r → Inv B cx Fb β0 objs0 w0 β' st' a' w' → Q .normal a' w') :
    ∀ (rest : List Oper) (k : Nat), ops.toList.drop k = rest → k + rest.length = ops.size → ∀ (β : List Loc) (st : St) (a : Act) (w : World), Inv B cx Fb β0 objs0 w0 β st a w → aops cx O ops.toList rest st κ = some r →
      wpOpsIn (FW ro) n cx.prog ops Q ((List.range ops.size).drop k) a w := by
  intro rest
  induction rest with
  | nil =>
    intro k hk hlen β st a w I hr
    have : (List.range ops.size).drop k = [] := by simp at hlen ⊢; omega
    rw [this]
    exact hQ st β a w hr I
  | cons o rest ih =>
    intro k hk hlen β st a w I hr
    have hklt : k < ops.size := by simp at hlen; omega
    have hdrop : (List.range ops.size).drop k = k :: (List.range ops.size).drop (k + 1) := by
      rw [List.drop_eq_getElem_cons (by simpa using hklt)]; simp
    have hok' : ops[k]? = some o := by
      have := congrArg List.head? hk
      rw [List.head?_drop] at this
      simpa using this
    have hrest : ops.toList.drop (k + 1) = rest := by
      rw [← List.drop_drop, hk]; rfl
    have next : ∀ (β' : List Loc) (st' : St) (a' : Act) (w' : World), aops cx O ops.toList rest st' κ = some r → Inv B cx Fb β0 objs0 w0 β' st' a' w' → wpOpsIn (FW ro) n cx.prog ops Q ((List.range ops.size).drop (k + 1)) a' w' :=
      fun β' st' a' w' hr' I' => ih (k + 1) hrest (by simp at hlen; omega) β' st' a' w' I' hr'
    have after : ∀ {st1 : St} (I1 : Inv B cx Fb β0 objs0 w0 β st1 a w), After cx Fb β st1 a w (fun st => aops cx O ops.toList rest st κ) r (wpOpsIn (FW ro) n cx.prog ops Q ((List.range ops.size).drop (k + 1))) :=
      fun I1 β' st' a' w' hr' A' R' hd => next β' st' a' w' hr' (I1.after A' R' hd)
    rw [hdrop]
    simp only [wpOpsIn, hok']
    unfold aops at hr
    simp only [frcS_eq] at hr
    cases hg : o.guard with
    | none =>
      rw [hg] at hr
      have hw : Region.wanted o (yielded ops a.tmps) = true := by simp [Region.wanted, hg]
      rw [if_pos hw]
      exact op_sim hok hO I.rel (S.fb' I.adv) (after I) hr
    | some gj =>
      obtain ⟨j, want⟩ := gj
      rw [hg] at hr
      simp only at hr
      cases hd : (ops.toList[j]?).bind (·.dst) with
      | none => rw [hd] at hr; cases hr
      | some d =>
        rw [hd] at hr
        simp only at hr
        have hd' : (ops[j]?).bind (·.dst) = some d := by simpa using hd
        have skip : Region.wanted o (yielded ops a.tmps) = false → ∀ st1, Inv B cx Fb β0 objs0 w0 β st1 a w → aops cx O ops.toList rest (st1.put o.dst (.tup [])) κ = some r →
            (if Region.wanted o (yielded ops a.tmps) = true then o.wpIn (FW ro) n cx.prog a w (wpOpsIn (FW ro) n cx.prog ops Q ((List.range ops.size).drop (k + 1))) Q
              else (∀ f, o.about cx.prog w a.eval = some f → (FW ro).fn f) ∧ wpOpsIn (FW ro) n cx.prog ops Q ((List.range ops.size).drop (k + 1)) (a.put o.dst undef) w) := by
          intro hw st1 I1 hr1
          rw [hw, if_neg (by simp)]
          exact ⟨fun _ _ => trivial, next β _ _ w hr1 (I1.after (by rw [put_objs]; exact .refl _ _ _) (I1.rel.put o.dst relV_undef) (put_defers _ _ _))⟩
        cases ht : (st.tmps[d]?).getD .undef with
        | bool b =>
          rw [ht] at hr
          simp only [cond_eq_ite] at hr
          have htd : st.tmps[d]? = some (.bool b) := by
            cases hh : st.tmps[d]? with
            | none => rw [hh] at ht; cases ht
            | some c => rw [hh] at ht; simp at ht; rw [ht]
          have hlt : d < a.tmps.size := by rw [← I.rel.tmps.1]; exact (List.getElem?_eq_some_iff.1 htd).1
          have hva := I.rel.tmps.2 d _ a.tmps[d] htd (by simp [hlt])
          generalize hvv : a.tmps[d] = vv at hva
          cases hva
          have hy : yielded ops a.tmps j = some b := by
            unfold yielded
            rw [hd']
            simp [hlt, hvv]
          have same : ∀ b', b' = b → Inv B cx Fb β0 objs0 w0 β { st with tmps := st.tmps.set d (.bool b') } a w := by
            intro b' e
            subst e
            refine ⟨⟨⟨by simpa using I.rel.tmps.1, fun i c v hc hv => ?_⟩, I.rel.len, I.rel.obj, I.rel.inj, I.rel.fb⟩, I.adv, I.marks⟩
            rcases getElem?_set_some hc with ⟨e1, e2, _⟩ | ⟨_, h1⟩
            · subst e1; subst e2
              exact I.rel.tmps.2 d _ v htd hv
            · exact I.rel.tmps.2 i c v h1 hv
          split at hr
          · rename_i hb
            have hb' : b = want := by simpa using hb
            have hw : Region.wanted o (yielded ops a.tmps) = true := by simp [Region.wanted, hg, hy, hb']
            rw [if_pos hw]
            have I1 := same want hb'.symm
            exact op_sim hok hO I1.rel (S.fb' I1.adv) (after I1) hr
          · rename_i hb
            have hb' : b ≠ want := by simpa using hb
            exact skip (by simp [Region.wanted, hg, hy, hb']) _ (same (!want) (by cases b <;> cases want <;> simp_all)) hr
        | tup vs =>
          rw [ht] at hr
          cases vs with
          | cons _ _ => cases hr
          | nil =>
            have htd : st.tmps[d]? = some (.tup []) := by
              cases hh : st.tmps[d]? with
              | none => rw [hh] at ht; cases ht
              | some c => rw [hh] at ht; simp at ht; rw [ht]
            have hlt : d < a.tmps.size := by rw [← I.rel.tmps.1]; exact (List.getElem?_eq_some_iff.1 htd).1
            have hva := I.rel.tmps.2 d _ a.tmps[d] htd (by simp [hlt])
            generalize hvv : a.tmps[d] = vv at hva
            cases hva
            have hy : yielded ops a.tmps j = none := by
              unfold yielded
              rw [hd']
              simp [hlt, hvv]
            exact skip (by simp [Region.wanted, hg, hy]) st I hr
        | _ => rw [ht] at hr; cases hr

/-- A loop's record, used up, and its object. -/
theorem Rel.killFrm (h : Rel cx Fb β st a w) {id l cap : Nat} {f : Nat} {p : List Nat} {ts : List AVal} {j : Option (Option AEx)} (ho : st.objs[id]? = some (.frm f p ts j)) (hl : β[id]? = some (.at l cap)) (o : Obj) {a' : Act} (ha : a'.tmps = a.tmps) :
    Rel cx Fb β { st with objs := st.objs.set id .dead } a' (w.putObj l o) := by
  obtain ⟨b', cap', tmps, blk, gg, ps, asg, body, fn, hloc, k1, k2, k3, k4⟩ := h.obj id _ _ ho hl
  cases hloc
  have back : ∀ (k : Nat) (o2 : AObj), (st.objs.set id .dead)[k]? = some o2 → alive o2 = true → k ≠ id ∧ st.objs[k]? = some o2 := by
    intro k o2 h1 h2
    rcases getElem?_set_some h1 with ⟨e1, rfl, _⟩ | ⟨e1, h1⟩
    · cases h2
    · exact ⟨Ne.symm e1, h1⟩
  have G : Goes β β st.objs (st.objs.set id .dead) w (w.putObj l o) (NN Fb β st.objs) (NN Fb β (st.objs.set id .dead)) := by
    refine ⟨fun _ _ h => h, fun i t sh xs _ ho => ⟨sh, xs, (back i _ ho rfl).2, rfl⟩, fun ad v _ hv => ?_, fun ad v _ hn => ?_⟩
    · obtain ⟨vs, e, fr, hb, hs, hv⟩ := cell?_some.1 hv
      have : ad.block ≠ l := fun e => by rw [e, k2] at hb; cases hb
      exact cell?_some.2 ⟨vs, e, fr, (World.putObj_heap_other this).trans hb, hs, hv⟩
    · rcases hn with hn | ⟨i, o2, l2, h1, h2, h3⟩
      · exact .inl hn
      · exact .inr ⟨i, o2, l2, (back i o2 h1 (wrO_at h3).1).2, h2, h3⟩
  refine ⟨by rw [ha]; exact h.tmps.goes G, by simp [h.len], fun k o2 l2 h1 h2 => ?_, fun i k o1 o2 b c c' h1 h2 h3 h4 h5 h6 => h.inj i k o1 o2 b c c' (back _ _ h1 h2).2 h2 h3 (back _ _ h4 h5).2 h5 h6, fun k o2 b c h1 h2 h3 => h.fb k o2 b c (back _ _ h1 h2).2 h2 h3⟩
  by_cases ha2 : alive o2 = true
  · obtain ⟨hne, h1⟩ := back k o2 h1 ha2
    refine (h.obj k o2 l2 h1 h2).goes G fun b2 cap2 e => ?_
    subst e
    refine World.putObj_heap_other fun e => ?_
    subst e
    exact hne (h.inj k id o2 _ _ _ _ h1 ha2 h2 ho rfl hl)
  · cases o2 with
    | dead => trivial
    | _ => exact absurd rfl ha2

theorem mask_inv {B : Nat} {ro : Option Nat} {β0 : List Loc} {objs0 : List AObj} {w0 : World} (S : Start B ro Fb β0 objs0 w0) (I : Inv B cx Fb β0 objs0 w0 β st a w) (f : Nat) (p : List Nat) {m : Nat} (hm : objs0.length = m) :
    ∃ β', Inv B cx Fb β0 objs0 w0 β' (maskAt cx f p m st) a w := by
  subst hm
  unfold maskAt
  split
  · obtain ⟨β', A, R⟩ := canon_rel I.rel I.adv S.len _
    exact ⟨β', R, A, I.marks⟩
  · exact ⟨β, I⟩
end
end Go.Ev
