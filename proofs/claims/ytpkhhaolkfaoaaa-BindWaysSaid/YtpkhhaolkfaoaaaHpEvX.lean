/-
  THE EVALUATOR, PART 24: a call, seen by the caller.
-/
import Derived.Test.YtpkhhaolkfaoaaaHpEvW
import Derived.CallsIn
set_option linter.unusedVariables false
set_option linter.unusedSimpArgs false
set_option linter.unusedSectionVars false
namespace Go.Ev

/-- What a result stands for. -/
def encP (orig : List AObj) : (alts : List FSh) → TA alts → List AObj × AVal
  | [], x => x.elim
  | [a], x => (buildOs orig a.objs 0 ((encTL a.flat x).take (a.objs.flatMap OSh.flat).length), buildV a.val ((encTL a.flat x).drop (a.objs.flatMap OSh.flat).length))
  | a :: b :: r, x => match x with
    | .inl x => (buildOs orig a.objs 0 ((encTL a.flat x).take (a.objs.flatMap OSh.flat).length), buildV a.val ((encTL a.flat x).drop (a.objs.flatMap OSh.flat).length))
    | .inr y => encP orig (b :: r) y
theorem encK_eq {R : Type} (orig : List AObj) (κ : List AObj → AVal → Option R) : ∀ (alts : List FSh) (x : TA alts), encK orig alts x κ = κ (encP orig alts x).1 (encP orig alts x).2
  | [], x => x.elim
  | [a], x => rfl
  | a :: b :: r, .inl x => rfl
  | a :: b :: r, .inr y => encK_eq orig κ (b :: r) y

/-- What is known of the calls that may be asked for. -/
def CallOK (cx : Cx) (O : Orc cx) : Prop :=
  ∀ (f : Nat) (args : List AVal) (objs : List AObj) (r : TA (cx.rty f args objs)), O.call f args objs = some r →
    ∀ (Fb : Nat → Nat → Prop) (β : List Loc) (cargs : Array Value) (w : World) (n : Nat), Rel cx Fb β { tmps := args, objs := objs } { tmps := cargs, defers := [] } w → (∀ b off, Fb b off → b < w.heap.size) →
      CallsIn Fence.wide n cx.prog f cargs w fun e w' => ∃ v β', e = .returned v ∧ Adv β objs w β' (encP objs _ r).1 w' ∧
        Rel cx Fb β' { tmps := [(encP objs _ r).2], objs := (encP objs _ r).1 } { tmps := #[v], defers := [] } w'

theorem fold_get (back : Nat → Option Nat) : ∀ (ids : List Nat) (objs2 objs : List AObj), ids.Nodup →
    ((ids.zip objs2).foldl (fun o x => o.set x.1 (renO back x.2)) objs).length = objs.length ∧
    ∀ i : Nat, (i ∉ ids → ((ids.zip objs2).foldl (fun o x => o.set x.1 (renO back x.2)) objs)[i]? = objs[i]?) ∧
      (∀ (j : Nat) (o2 : AObj), ids[j]? = some i → i < objs.length → objs2[j]? = some o2 → ((ids.zip objs2).foldl (fun o x => o.set x.1 (renO back x.2)) objs)[i]? = some (renO back o2))
  | [], _, objs, _ => ⟨rfl, fun i => ⟨fun _ => rfl, by simp⟩⟩
  | k :: ids, [], objs, _ => ⟨rfl, fun i => ⟨fun _ => rfl, by simp⟩⟩
  | k :: ids, o :: objs2, objs, hnd => by
    have hn := List.nodup_cons.1 hnd
    obtain ⟨h1, h2⟩ := fold_get back ids objs2 (objs.set k (renO back o)) hn.2
    refine ⟨by simpa using h1, fun i => ⟨fun hi => ?_, fun j o2 hj hlt ho => ?_⟩⟩
    · simp only [List.mem_cons, not_or] at hi
      simp only [List.zip_cons_cons, List.foldl_cons]
      rw [(h2 i).1 hi.2, List.getElem?_set, if_neg (Ne.symm hi.1)]
    · simp only [List.zip_cons_cons, List.foldl_cons]
      cases j with
      | zero =>
        simp at hj ho
        subst hj; subst ho
        rw [(h2 k).1 hn.1]
        simp [hlt]
      | succ j => exact (h2 i).2 j o2 (by simpa using hj) (by simpa using hlt) (by simpa using ho)

theorem wr_ex {o : AObj} {b c : Nat} (h : alive o = true) : ∃ off, wrO o (.at b c) b off := by
  cases o with
  | dead => cases h
  | arr t sh xs => exact ⟨xs.length * t.size, rfl, fun _ => Nat.le_refl _⟩
  | _ => exact ⟨0, rfl⟩

section
variable {cx : Cx} {Fb : Nat → Nat → Prop} {β : List Loc} {st : St} {a : Act} {w : World}

theorem callK_sim {O : Orc cx} (hO : CallOK cx O) (h : Rel cx Fb β st a w) (hFb : ∀ b off, Fb b off → b < w.heap.size) {f : Nat} {args : List AVal} {cargs : Array Value} (hargs : RelL β st.objs w (NN Fb β st.objs) args cargs)
    {R : Type} {κ : List AObj → AVal → Option R} {y : R} (hr : callK O f args st.objs κ = some y) (n : Nat) :
    CallsIn Fence.wide n cx.prog f cargs w fun e w' => ∃ v β' objs' av, e = .returned v ∧ κ objs' av = some y ∧ Adv β st.objs w β' objs' w' ∧ Rel cx Fb β' { st with objs := objs' } a w' ∧ RelV β' objs' w' (NN Fb β' objs') av v := by
  unfold callK at hr
  simp only [frcOs_eq, frcVs_eq, frcNs_eq] at hr
  obtain ⟨r, hcall, hr⟩ := Option.bind_eq_some_iff.1 hr
  rw [encK_eq] at hr
  obtain ⟨⟨ids0, hids0, hltids⟩, hnd⟩ := reach_spec 200 st.objs (args.flatMap (refs 3)) [] List.nodup_nil
  generalize hids : reach 200 st.objs (args.flatMap (refs 3)) [] = ids at *
  simp only [List.nil_append] at hids0
  subst hids0
  have hlt : ∀ i ∈ ids, i < st.objs.length := hltids
  let Fb' : Nat → Nat → Prop := fun b off => Fb b off ∨ ∃ (i : Nat) (o : AObj) (l : Loc), i ∉ ids ∧ st.objs[i]? = some o ∧ β[i]? = some l ∧ wrO o l b off
  have hFb' : ∀ b off, Fb' b off → b < w.heap.size := by
    rintro b off (hF | ⟨i, o, l, _, h1, h2, h3⟩)
    · exact hFb b off hF
    · exact h.wr_lt ⟨i, o, l, h1, h2, h3⟩
  have R1 : Rel cx Fb' (pickB β ids) { tmps := args.map (renV 3 (posOf ids)), objs := pickO st.objs ids } { tmps := cargs, defers := [] } w := by
    refine h.pick ids hnd (fun i o b c hi ho ha hl off hF => ?_) (fun b off _ hF => ?_) hargs
    · rcases hF with hF | ⟨k, o2, l, hk, h1, h2, h3⟩
      · exact h.fb i o b c ho ha hl off hF
      · obtain ⟨ha2, cap, rfl⟩ := wrO_at h3
        have := h.inj i k o o2 b c cap ho ha hl h1 ha2 h2
        subst this
        exact hk hi
    · rcases hF with hF | ⟨k, o2, l, hk, h1, h2, h3⟩
      · exact .inl hF
      · exact .inr ⟨k, o2, l, h1, h2, h3⟩
  refine (hO f _ _ r hcall Fb' _ cargs w n R1 hFb').mono fun e w' he => ?_
  obtain ⟨v, β2, rfl, A, R2⟩ := he
  generalize hp : encP (pickO st.objs ids) (cx.rty f (args.map (renV 3 (posOf ids))) (pickO st.objs ids)) r = p at *
  obtain ⟨objs2, v2⟩ := p
  simp only at A R2 hr
  obtain ⟨ls, hls⟩ := A.pre
  have hm : (pickO st.objs ids).length = ids.length := by simp [pickO]
  have hl2 : β2.length = objs2.length := R2.len
  have hlen2 : objs2.length = ids.length + ls.length := by rw [← hl2, hls]; simp [pickB]
  generalize hback : (fun j => some (bif decide (j < ids.length) then (ids[j]?).getD 0 else st.objs.length + (j - ids.length)) : Nat → Option Nat) = back at hr
  have back1 : ∀ j i, ids[j]? = some i → back j = some i := by
    intro j i hj
    have := (List.getElem?_eq_some_iff.1 hj).1
    rw [← hback]; simp [this, hj]
    simp [this] at hj; exact hj
  have back2 : ∀ k, back (ids.length + k) = some (st.objs.length + k) := by
    intro k; rw [← hback]
    have : decide (ids.length + k < ids.length) = false := by simp
    simp [this]
  obtain ⟨f1, f2⟩ := fold_get back ids objs2 st.objs hnd
  generalize hbase : (ids.zip objs2).foldl (fun o x => o.set x.1 (renO back x.2)) st.objs = base at *
  generalize hobjs3 : base ++ (objs2.drop ids.length).map (renO back) = objs3 at *
  have len3 : objs3.length = st.objs.length + ls.length := by rw [← hobjs3]; simp [f1, hlen2]
  -- the callee's objects, in the caller's numbering
  have fwd : ∀ j o2 i, objs2[j]? = some o2 → back j = some i → objs3[i]? = some (renO back o2) ∧ (β ++ ls)[i]? = β2[j]? := by
    intro j o2 i ho hb
    by_cases hj : j < ids.length
    · have hji : ids[j]? = some ids[j] := by simp [hj]
      have := back1 j _ hji
      rw [hb] at this; cases this
      have hi := hlt _ (List.getElem_mem hj)
      refine ⟨?_, ?_⟩
      · rw [← hobjs3, List.getElem?_append_left (by rw [f1]; exact hi)]
        exact (f2 _).2 j o2 hji hi ho
      · have hi' : ids[j] < β.length := by rw [h.len]; exact hi
        rw [List.getElem?_append_left hi', hls, List.getElem?_append_left (by simpa [pickB] using hj)]
        simp [pickB, hji, hi']
    · obtain ⟨k, rfl⟩ : ∃ k, j = ids.length + k := ⟨j - ids.length, by omega⟩
      rw [back2] at hb; cases hb
      refine ⟨?_, ?_⟩
      · rw [← hobjs3, List.getElem?_append_right (by rw [f1]; omega), f1, Nat.add_sub_cancel_left, List.getElem?_map, List.getElem?_drop, ho]; rfl
      · rw [← h.len, List.getElem?_append_right (by omega), Nat.add_sub_cancel_left, hls, List.getElem?_append_right (by simp [pickB])]
        simp [pickB]
  have bwd : ∀ i o l, objs3[i]? = some o → (β ++ ls)[i]? = some l → (∃ j o2, objs2[j]? = some o2 ∧ β2[j]? = some l ∧ o = renO back o2 ∧ back j = some i) ∨ (i ∉ ids ∧ st.objs[i]? = some o ∧ β[i]? = some l) := by
    intro i o l ho hl
    have hi3 := (List.getElem?_eq_some_iff.1 ho).1
    have viaj : ∀ j, j < objs2.length → back j = some i → (∃ j o2, objs2[j]? = some o2 ∧ β2[j]? = some l ∧ o = renO back o2 ∧ back j = some i) := by
      intro j hj hb
      have ho2 : objs2[j]? = some objs2[j] := by simp [hj]
      obtain ⟨e1, e2⟩ := fwd j _ i ho2 hb
      rw [ho] at e1; cases e1
      exact ⟨j, _, ho2, by rw [← e2, hl], rfl, hb⟩
    by_cases hi : i < st.objs.length
    · by_cases hmem : i ∈ ids
      · obtain ⟨j, hj, rfl⟩ := List.getElem_of_mem hmem
        exact .inl (viaj j (by omega) (back1 j _ (by simp [hj])))
      · refine .inr ⟨hmem, ?_, ?_⟩
        · rw [← hobjs3, List.getElem?_append_left (by rw [f1]; exact hi), (f2 i).1 hmem] at ho; exact ho
        · rw [List.getElem?_append_left (by rw [h.len]; exact hi)] at hl; exact hl
    · obtain ⟨k, rfl⟩ : ∃ k, i = st.objs.length + k := ⟨i - st.objs.length, by omega⟩
      exact .inl (viaj (ids.length + k) (by omega) (back2 k))
  have wr3 : ∀ b off, Wr (β ++ ls) objs3 b off → Wr β2 objs2 b off ∨ ∃ (i : Nat) (o : AObj) (l : Loc), i ∉ ids ∧ st.objs[i]? = some o ∧ β[i]? = some l ∧ wrO o l b off := by
    rintro b off ⟨i, o, l, h1, h2, h3⟩
    rcases bwd i o l h1 h2 with ⟨j, o2, g1, g2, rfl, g4⟩ | ⟨g1, g2, g3⟩
    · exact .inl ⟨j, o2, l, g1, g2, wrO_renO.1 h3⟩
    · exact .inr ⟨i, o, l, g1, g2, g3, h3⟩
  have wrpick : ∀ b off, Wr (pickB β ids) (pickO st.objs ids) b off → Wr β st.objs b off := by
    intro b off hw
    obtain ⟨i, o, l, _, h1, h2, h3⟩ := wr_pick h.len hw
    exact ⟨i, o, l, h1, h2, h3⟩
  have A3 : Adv β st.objs w (β ++ ls) objs3 w' := by
    refine ⟨⟨ls, rfl⟩, A.keep.mono fun b off _ hw => wrpick b off hw, fun b off hb hw => ?_, fun i ff p ts j hi => ?_, fun i t sh xs hi ho => ?_, by rw [len3]; omega, A.lp⟩
    · rcases wr3 b off hw with hw | ⟨i, o, l, _, h1, h2, h3⟩
      · exact wrpick b off (A.wr b off hb hw)
      · exact ⟨i, o, l, h1, h2, h3⟩
    · have hlt' := (List.getElem?_eq_some_iff.1 hi).1
      by_cases hmem : i ∈ ids
      · obtain ⟨q, hq, rfl⟩ := List.getElem_of_mem hmem
        obtain ⟨ts', j', h1⟩ := A.frm q ff p (ts.map (renV 3 (posOf ids))) j (by simp [pickO, hq, objAt, hi, renO])
        obtain ⟨e1, _⟩ := fwd q _ ids[q] h1 (back1 q ids[q] (by simp [hq]))
        exact ⟨_, j', e1⟩
      · refine ⟨ts, j, ?_⟩
        rw [← hobjs3, List.getElem?_append_left (by rw [f1]; exact hlt'), (f2 i).1 hmem]; exact hi
    · by_cases hmem : i ∈ ids
      · obtain ⟨q, hq, rfl⟩ := List.getElem_of_mem hmem
        have hq2 : q < objs2.length := by omega
        obtain ⟨e1, _⟩ := fwd q objs2[q] ids[q] (by simp [hq2]) (back1 q ids[q] (by simp [hq]))
        rw [ho] at e1
        have e2 := renO_arr (Option.some.inj e1).symm
        obtain ⟨sh0, xs0, g1, g2⟩ := A.arr q t sh xs (by rw [hm]; exact hq) (by simp [hq2, e2])
        obtain ⟨i', hi', he⟩ := pickO_get g1
        simp [hq] at hi'
        subst hi'
        exact ⟨sh0, xs0, objAt_some (renO_arr he.symm) rfl, g2⟩
      · refine ⟨sh, xs, ?_, rfl⟩
        rw [← hobjs3, List.getElem?_append_left (by rw [f1]; exact hi), (f2 i).1 hmem] at ho; exact ho
  have ren : Ren back β2 (β ++ ls) objs2 objs3 w' w' (NN Fb' β2 objs2) (NN Fb (β ++ ls) objs3) := by
    refine ⟨fun i j l hb hl => ?_, fun i j t sh xs hb hi ho => ?_, fun _ _ _ h => h, fun ad v _ hn => ?_⟩
    · have hi : i < objs2.length := by rw [← hl2]; exact lt_of_loc hl
      obtain ⟨_, e2⟩ := fwd i objs2[i] j (by simp [hi]) hb
      rw [e2]; exact hl
    · have hi : i < objs2.length := by rw [← hl2]; exact hi
      obtain ⟨e1, _⟩ := fwd i objs2[i] j (by simp [hi]) hb
      rw [ho] at e1
      have e2 := renO_arr (Option.some.inj e1).symm
      exact ⟨sh, xs, by simp [hi, e2], rfl⟩
    · rcases hn with hn | hn
      · exact .inl (.inl hn)
      · rcases wr3 _ _ hn with hw | hw
        · exact .inr hw
        · exact .inl (.inr hw)
  have goes := A3.goes (Fb := Fb) h.len
  refine ⟨v, β ++ ls, objs3, _, rfl, hr, A3, h.adv A3 (by rw [len3]; simp [h.len]) (fun i o l ho hl => ?_) (fun i j o o' b c c' h1 h2 h3 h4 h5 h6 => ?_) (fun i o b c h1 h2 h3 off hF => ?_), ?_⟩
  · rcases bwd i o l ho hl with ⟨j, o2, g1, g2, rfl, g4⟩ | ⟨g1, g2, g3⟩
    · exact (R2.obj j o2 l g1 g2).ren ren fun _ _ _ => rfl
    · by_cases ha : alive o = true
      · refine (h.obj i o l g2 g3).goes goes fun b cap e => ?_
        subst e
        refine A.keep.blk b ((h.obj i o _ g2 g3).lt ha) fun off hw => ?_
        obtain ⟨k, ok, lk, hk, k1, k2, k3⟩ := wr_pick h.len hw
        obtain ⟨ha2, cap2, rfl⟩ := wrO_at k3
        have := h.inj i k o ok b cap cap2 g2 ha g3 k1 ha2 k2
        subst this
        exact g1 hk
      · cases o with
        | dead => trivial
        | _ => exact absurd rfl ha
  · have mixed : ∀ {j : Nat} {o2 : AObj} {i' : Nat} {o3 : AObj} {b c c' : Nat}, objs2[j]? = some o2 → alive o2 = true → β2[j]? = some (.at b c) → i' ∉ ids → st.objs[i']? = some o3 → alive o3 = true → β[i']? = some (.at b c') → False := by
      intro j o2 i' o3 b c c' p1 p2 p3 p4 p5 p6 p7
      obtain ⟨off, hw⟩ := wr_ex (b := b) (c := c') p6
      exact R2.fb j o2 b c p1 p2 p3 off (.inr ⟨i', o3, _, p4, p5, p7, hw⟩)
    rcases bwd i o _ h1 h3 with ⟨j1, o2, g1, g2, rfl, g4⟩ | ⟨g1, g2, g3⟩ <;> rcases bwd j o' _ h4 h6 with ⟨j2, o3, k1, k2, rfl, k4⟩ | ⟨k1, k2, k3⟩
    · have := R2.inj j1 j2 o2 o3 b c c' g1 (by rwa [alive_renO] at h2) g2 k1 (by rwa [alive_renO] at h5) k2
      subst this
      rw [g4] at k4; cases k4; rfl
    · exact (mixed g1 (by rwa [alive_renO] at h2) g2 k1 k2 h5 k3).elim
    · exact (mixed k1 (by rwa [alive_renO] at h5) k2 g1 g2 h2 g3).elim
    · exact h.inj i j o o' b c c' g2 h2 g3 k2 h5 k3
  · rcases bwd i o _ h1 h3 with ⟨j1, o2, g1, g2, rfl, g4⟩ | ⟨g1, g2, g3⟩
    · exact R2.fb j1 o2 b c g1 (by rwa [alive_renO] at h2) g2 off (.inl hF)
    · exact h.fb i o b c g2 h2 g3 off hF
  · exact RelV.ren ren 3 (R2.tmps.2 0 v2 v rfl rfl)
end
end Go.Ev
