/-
  THE EVALUATOR, PART 43: a region whose operations may come in any order, against the model.
-/
import Derived.Test.YtpkhhaolkfaoaaaHpEwP
import Derived.OrdersIn
set_option linter.unusedVariables false
set_option linter.unusedSimpArgs false
set_option linter.unusedSectionVars false
namespace Go.Ev
section
variable {cx : Cx} {O : Orc cx} {ops : Array Oper} {ahead slots : List (List Nat)} {L0 L : Nat} {V : Nat → St} {fp : Nat → List Nat × List Nat}
variable {Fb : Nat → Nat → Prop} {β : List Loc} {st : St} {a : Act} {w : World}

/-- Objects are picked: all is as it was, but for their numbers. -/
theorem Inv.pick {B : Nat} {ro : Option Nat} {β0 : List Loc} {objs0 : List AObj} {w0 : World} (S : Start B ro Fb β0 objs0 w0) (I : Inv B cx Fb β0 objs0 w0 β st a w) {ids e : List Nat} (hnd : ids.Nodup) (hids : ids = List.range objs0.length ++ e) :
    Inv B cx Fb β0 objs0 w0 (pickB β ids) { tmps := st.tmps.map (renV 3 (posOf ids)), objs := pickO st.objs ids } a w :=
  ⟨I.rel.pick ids hnd (fun i o b c _ h1 h2 h3 => I.rel.fb i o b c h1 h2 h3) (fun b off _ hF => .inl hF) I.rel.tmps, I.adv.pick S.len I.rel.len hids, I.marks⟩

theorem Inv.pad {B : Nat} {β0 : List Loc} {objs0 : List AObj} {w0 : World} {ro : Option Nat} (S : Start B ro Fb β0 objs0 w0) (I : Inv B cx Fb β0 objs0 w0 β st a w) (n m : Nat) :
    Inv B cx Fb β0 objs0 w0 (β ++ List.replicate n .nil) { st with objs := st.objs ++ List.replicate n .dead } a { w with drawn := m } := by
  obtain ⟨G, R⟩ := I.rel.push (Grow.drew w m) (List.replicate n .dead) (List.replicate n .nil) (by simp) (S.fb' I.adv)
    (fun i b cap h => by simp [List.getElem?_replicate] at h) (fun i j b c c' h _ => by simp [List.getElem?_replicate] at h)
    (fun _ i o l ho hl => by
      rw [List.getElem?_replicate] at ho
      split at ho
      · cases ho; trivial
      · cases ho)
  have A : Adv β st.objs w (β ++ List.replicate n .nil) (st.objs ++ List.replicate n .dead) { w with drawn := m } := by
    refine ⟨⟨_, rfl⟩, (Grow.drew w m).keep _, fun b off hb hw => ?_, fun i f p ts j h => ⟨ts, j, getElem?_append_left' h⟩, fun i t sh xs hi h => ?_, by simp, fun b L hb => ⟨L, hb, rfl⟩⟩
    · obtain ⟨i, o, l, ho, hl, hw⟩ := hw
      rcases getElem?_append_some ho with h1 | ⟨h1, h2⟩
      · rcases getElem?_append_some hl with h3 | ⟨h3, h4⟩
        · exact ⟨i, o, l, h1, h3, hw⟩
        · have := I.rel.len; have := (List.getElem?_eq_some_iff.1 h1).1; omega
      · rw [List.getElem?_replicate] at h2
        split at h2
        · cases h2; cases l <;> exact hw.elim
        · cases h2
    · rw [List.getElem?_append_left hi] at h
      exact ⟨sh, xs, h, rfl⟩
  exact ⟨R, I.adv.trans A, I.marks.adv I.rel A rfl⟩

theorem yielded_of (hrel : Rel cx Fb β st a w) {j d : Nat} (hd : (ops.toList[j]?).bind (·.dst) = some d) {c : AVal} (hc : st.tmps[d]? = some c) :
    (∀ b, c = .bool b → yielded ops a.tmps j = some b) ∧ (c = .tup [] → yielded ops a.tmps j = none) := by
  have hd' : (ops[j]?).bind (·.dst) = some d := by simpa using hd
  have hlt : d < a.tmps.size := by rw [← hrel.tmps.1]; exact (List.getElem?_eq_some_iff.1 hc).1
  have hva := hrel.tmps.2 d _ a.tmps[d] hc (by simp [hlt])
  generalize hvv : a.tmps[d] = vv at hva
  refine ⟨fun b e => ?_, fun e => ?_⟩ <;> subst e <;> cases hva <;> unfold yielded <;> rw [hd'] <;> simp [hlt, hvv]

/-- One operation that comes. -/
theorem draw_step (hok : cx.ok = true) (hO : OrcOK cx O) (X : Lex cx O ops ahead slots L0 L V fp) {B : Nat} {ro : Option Nat} {β0 : List Loc} {objs0 : List AObj} {w0 : World} (S : Start B ro Fb β0 objs0 w0) (hL0 : objs0.length ≤ L0)
    {listed : Array Bool} {s : St} (D : DInv ops ahead slots L0 L V fp listed s) (I : Inv B cx Fb β0 objs0 w0 β s a w) {j : Nat} (hj : j ∈ Region.ready .any ops listed) (nf : Nat) {Q : Exit → Act → World → Prop} {K : Act → World → Prop}
    (hK : ∀ β' s' a' w', Inv B cx Fb β0 objs0 w0 β' s' a' w' → DInv ops ahead slots L0 L V fp (listed.setIfInBounds j true) s' → K a' w') : wpOpIn (FW ro) nf cx.prog ops Q j K a w := by
  obtain ⟨o, M⟩ := D.may X hj
  have hsz : j < listed.size := by rw [D.size]; exact M.lt
  obtain ⟨lo, lt⟩ := X.lens j (by have := M.lt; omega)
  have hopj : ops[j]? = some o := by simpa using M.op
  unfold wpOpIn
  simp only [hopj]
  obtain ⟨o', ho', hs⟩ := X.step j M.lt
  rw [M.op] at ho'; cases ho'
  have gtmp : ∀ {i want d}, o.guard = some (i, want) → (ops.toList[i]?).bind (·.dst) = some d → s.tmps[d]? = (V j).tmps[d]? := fun {i want d} hg hd => D.tmp X M (.inr (by
    unfold rdTmps
    refine List.mem_append_right _ ?_
    rw [hg]
    simp only [hd, Option.toList_some, List.mem_singleton]))
  rcases hs with ⟨⟨i, want, d, hg, hd, hv⟩, e, hf⟩ | ⟨hg, ⟨objs1, v, hlcl, hl1, hq, e, hfit⟩, hf, hlow⟩
  · -- it is skipped
    have hw : Region.wanted o (yielded ops a.tmps) = false := by
      have ht := gtmp hg hd
      rcases hv with hv | hv
      · rw [← ht] at hv
        have := (yielded_of (ops := ops) I.rel hd hv).1 _ rfl
        cases want <;> simp [Region.wanted, hg, this]
      · rw [← ht] at hv
        have := (yielded_of (ops := ops) I.rel hd hv).2 rfl
        simp [Region.wanted, hg, this]
    rw [hw, if_neg (by simp)]
    refine ⟨fun _ _ => trivial, hK β (s.put o.dst (.tup [])) _ w (I.after (by rw [putObjs]; exact .refl _ _ _) (I.rel.put o.dst relV_undef) (put_defers _ _ _)) ?_⟩
    refine D.next X M (putTmps_len _ _ _) (by rw [putObjs]; exact D.ol) (fun x hx => ?_) (fun x hx => by rw [putTmps_get, if_neg hx]) (fun x hx => by rw [hf] at hx; cases hx) (fun x hx => by rw [putObjs]) (fun x v hx hv => ?_) (fun x ob hx _ => by rw [hf] at hx; cases hx)
    · rw [e, putTmps_get, putTmps_get, if_pos hx, if_pos hx, D.tl, lt]
    · rw [putTmps_get, if_pos hx] at hv
      split at hv
      · cases hv; rfl
      · cases hv
  · -- it is done
    have hw : Region.wanted o (yielded ops a.tmps) = true := by
      rcases hg with hg | ⟨i, want, d, hg, hd, hv⟩
      · simp [Region.wanted, hg]
      · have ht := gtmp hg hd
        rw [← ht] at hv
        have := (yielded_of (ops := ops) I.rel hd hv).1 _ rfl
        simp [Region.wanted, hg, this]
    rw [if_pos hw]
    generalize hsl : (slots[j]?).getD [] = sl at *
    generalize hwr : wrIds cx (V j).ev (V j).objs o = wr at *
    have agree : ∀ x, x ∈ wr ++ rdIds cx (V j).ev (V j).objs o → s.objs[x]? = (V j).objs[x]? := fun x hx => D.obj X M (by
      rw [hf]
      rcases List.mem_append.1 hx with h | h
      · exact List.mem_append_left _ (List.mem_append_right _ h)
      · exact List.mem_append_right _ h)
    obtain ⟨objs3, h1, h2, h3, h4⟩ := hlcl.again s.ev s.objs (D.ev X M) (by rw [D.ol, lo]) (by rw [hwr]; exact agree)
    rw [hwr, lo] at h3
    rw [hwr, lo] at h4
    have hop : aop cx O o s some = some (({ s with objs := objs3 } : St).put o.dst v) := by
      unfold aop
      rw [h1]
    refine op_sim hok hO I.rel (S.fb' I.adv) (fun β' st' a' w' hst A R hd => ?_) hop
    cases hst
    have I1 := I.after A R hd
    obtain ⟨s1, s2, s3⟩ := X.slot (j := j) (n := objs1.length - L) (by rw [hsl]; exact hq)
    rw [hsl] at s1 s2 s3
    generalize hs : sl.headD L = q at *
    generalize hn : objs1.length - L = n at *
    obtain ⟨m1, m2, m3, m4⟩ := moveIds_get s1
    have mnd := moveIds_nodup s1
    have I2 := I1.pick S mnd (ids := moveIds L q n) (e := (List.range' objs0.length (q - objs0.length)) ++ (List.range' L n ++ List.range' (q + n) (L - (q + n)))) (by
      unfold moveIds
      rw [← List.append_assoc, ← List.append_assoc]
      congr 2
      have e1 := List.range'_append_1 (s := 0) (m := objs0.length) (n := q - objs0.length)
      rw [Nat.zero_add] at e1
      rw [List.range_eq_range', List.range_eq_range', e1]
      congr 1
      omega)
    -- numbers that stay
    have stay : ∀ i, PD ops slots L0 listed i = true → posOf (moveIds L q n) i = some i := fun i hi => by
      rcases PD_iff.1 hi with h | ⟨k, hk, hkl, hik⟩
      · exact posOf_of mnd (m2 i (by omega))
      · have hne : k ≠ j := fun e => M.un (e ▸ hkl)
        have hno : i ∉ sl := fun h => hne (X.slot_apart hik (by rw [hsl]; exact h))
        have hlt := (X.slot_low hik).2
        by_cases h5 : i < q
        · exact posOf_of mnd (m2 i h5)
        · by_cases h6 : i < q + n
          · exact absurd (s3 i (by omega) h6) hno
          · exact posOf_of mnd (m4 i (by omega) hlt)
    have eT : (({ s with objs := objs3 } : St).put o.dst v).tmps.map (renV 3 (posOf (moveIds L q n))) = (s.put o.dst (renV 3 (posOf (moveIds L q n)) v)).tmps := by
      apply List.ext_getElem?
      intro x
      rw [List.getElem?_map, putTmps_get, putTmps_get]
      by_cases hx : o.dst = some x
      · rw [if_pos hx, if_pos hx]
        split <;> rfl
      · rw [if_neg hx, if_neg hx]
        cases hh : s.tmps[x]? with
        | none => rfl
        | some u => simp [fits_id stay 3 u (D.ft x u hh)]
    have at3 : ∀ x, (L ≤ x ∨ x ∈ wr) → objAt objs3 x = objAt objs1 x := fun x hx => objAt_congr (h3 x hx)
    have eO : pickO objs3 (moveIds L q n) = moveO L q n wr s.objs objs1 := by
      apply List.ext_getElem?
      intro x
      by_cases hx : x < L
      · rw [moveO_get hx]
        have hget : (pickO objs3 (moveIds L q n))[x]? = some (renO (posOf (moveIds L q n)) (objAt objs3 (((moveIds L q n)[x]?).getD 0))) := by
          simp only [pickO, List.getElem?_map]
          rw [List.getElem?_eq_getElem (by omega)]
          simp [objAt]
        rw [hget]
        congr 1
        by_cases h5 : q ≤ x ∧ x < q + n
        · have c : (wr.contains x || (decide (q ≤ x) && decide (x < q + n))) = true := by simp [h5.1, h5.2]
          rw [c, cond_true, m3 x h5.1 h5.2, Option.getD_some, at3 _ (.inl (by omega))]
        · have hid : (moveIds L q n)[x]? = some x := by
            by_cases h6 : x < q
            · exact m2 x h6
            · exact m4 x (by omega) hx
          have c2 : (decide (q ≤ x) && decide (x < q + n)) = false := by
            cases hh : (decide (q ≤ x) && decide (x < q + n)) with
            | false => rfl
            | true => simp only [Bool.and_eq_true, decide_eq_true_eq] at hh; exact absurd hh h5
          rw [hid, Option.getD_some, c2, Bool.or_false]
          cases hc : wr.contains x with
          | true => rw [cond_true, at3 x (.inr (by simpa using hc))]
          | false =>
            rw [cond_false]
            have hnw : x ∉ wr := by simpa using hc
            have h7 : objAt objs3 x = objAt s.objs x := objAt_congr (h4 x hx hnw)
            rw [h7]
            exact fitsO_id stay (D.fo x _ (objAt_getD (by rw [D.ol]; exact hx)))
      · rw [List.getElem?_eq_none (by simp only [pickO, List.length_map]; omega), List.getElem?_eq_none (by rw [moveO_len]; omega)]
    have eS : ({ tmps := (({ s with objs := objs3 } : St).put o.dst v).tmps.map (renV 3 (posOf (moveIds L q n))), objs := pickO (({ s with objs := objs3 } : St).put o.dst v).objs (moveIds L q n) } : St) =
        ({ s with objs := moveO L q n wr s.objs objs1 } : St).put o.dst (renV 3 (posOf (moveIds L q n)) v) := by
      rw [eT, putObjs, eO]
      cases o.dst <;> rfl
    rw [eS] at I2
    refine hK _ _ _ _ I2 (D.next X M (putTmps_len _ _ _) (by rw [putObjs]; exact moveO_len) (fun x hx => ?_) (fun x hx => by rw [putTmps_get, if_neg hx]) (fun x hx => ?_) (fun x hx => ?_) (fun x u hx hu => ?_) (fun x ob hx hob => ?_))
    · rw [e, putTmps_get, putTmps_get, if_pos hx, if_pos hx, D.tl, lt]
    · rw [e, putObjs, putObjs]
      have hxl := (hlow x hx).1
      rw [moveO_get hxl, moveO_get hxl]
      congr 1
      cases hc : (wr.contains x || (decide (q ≤ x) && decide (x < q + n))) with
      | true => rfl
      | false => exact objAt_congr (D.obj X M (X.fp_sub M.lt hx))
    · rw [putObjs]
      by_cases hxl : x < L
      · rw [moveO_get hxl]
        rw [hf] at hx
        simp only [List.mem_append, not_or] at hx
        have c : (wr.contains x || (decide (q ≤ x) && decide (x < q + n))) = false := by
          cases hh : (wr.contains x || (decide (q ≤ x) && decide (x < q + n))) with
          | false => rfl
          | true =>
            simp only [Bool.or_eq_true, Bool.and_eq_true, decide_eq_true_eq, List.contains_iff_mem] at hh
            rcases hh with hh | hh
            · exact absurd hh hx.2
            · exact absurd (s3 x hh.1 hh.2) hx.1
        rw [c, cond_false]
        exact (objAt_getD (by rw [D.ol]; exact hxl)).symm
      · rw [List.getElem?_eq_none (by rw [moveO_len]; omega), List.getElem?_eq_none (by rw [D.ol]; omega)]
    · rw [putTmps_get, if_pos hx] at hu
      split at hu
      · cases hu
        exact fits_mono (fun i hi => PD_own D M i (by rw [hsl]; exact hi)) 3 _ hfit
      · cases hu
    · have h5 := (hlow x hx).2
      refine fitsO_mono (fun i hi => PD_own D M i (by rw [hsl]; exact hi)) ?_
      have h6 : s.objs.length = L := D.ol
      have hxl := (hlow x hx).1
      have hob2 : ob = objAt (V (j + 1)).objs x := by
        rw [putObjs, moveO_get hxl] at hob
        rw [e, putObjs]
        have := moveO_get (s := q) (n := n) (W := wr) (a := (V j).objs) (b := objs1) hxl
        simp only [objAt]
        rw [this]
        rw [Option.getD_some, ← Option.some.inj hob]
        cases hc : (wr.contains x || (decide (q ≤ x) && decide (x < q + n))) with
        | true => rfl
        | false => exact objAt_congr (D.obj X M (X.fp_sub M.lt hx))
      rw [hob2]
      exact h5

def left (n : Nat) (listed : Array Bool) : Nat := (List.range n).countP fun i => !(listed.getD i false)
theorem countP_less {p q : Nat → Bool} {j : Nat} (h1 : ∀ i, i ≠ j → p i = q i) (h2 : q j = true) (h3 : p j = false) : ∀ (l : List Nat), l.Nodup → l.countP p + (if j ∈ l then 1 else 0) = l.countP q
  | [], _ => rfl
  | x :: l, hn => by
    have hn2 := List.nodup_cons.1 hn
    have ih := countP_less h1 h2 h3 l hn2.2
    rw [List.countP_cons, List.countP_cons]
    by_cases e : x = j
    · subst e
      simp only [hn2.1, if_false] at ih
      simp [h2, h3, ← ih]
    · rw [h1 x e]
      by_cases hm : j ∈ l
      · rw [if_pos hm] at ih
        have hm2 : j ∈ x :: l := List.mem_cons_of_mem _ hm
        rw [if_pos hm2, ← ih]
        omega
      · rw [if_neg hm] at ih
        have hm2 : j ∉ x :: l := fun h => by
          rcases List.mem_cons.1 h with h | h
          · exact e h.symm
          · exact hm h
        rw [if_neg hm2, ← ih]
        omega
theorem DInv.all (X : Lex cx O ops ahead slots L0 L V fp) {listed : Array Bool} {s : St} (D : DInv ops ahead slots L0 L V fp listed s) (h : Region.ready .any ops listed = []) : ∀ k, listed.getD k false = true ↔ k < ops.size := by
  have key : ∀ n k, k < n → k < ops.size → listed.getD k false = true := by
    intro n
    induction n with
    | zero => intro k hk; omega
    | succ n ih =>
      intro k hk hks
      cases hl : listed.getD k false with
      | true => rfl
      | false =>
        have ho : ops[k]? = some ops[k] := by simp [hks]
        have ho' : ops.toList[k]? = some ops[k] := by simp [hks]
        have : k ∈ Region.ready .any ops listed := by
          refine mem_ready.2 ⟨?_, ops[k], ho, fun e he hb => ?_⟩
          · rw [Array.getD_eq_getD_getElem?] at hl ⊢
            rw [Array.getElem?_eq_getElem (by rw [D.size]; exact hks)] at hl ⊢
            simpa using hl
          · have := (tmpsApart_spec ops.toList ahead ops.toList 0 X.tm k _ ho').1 e (by simpa using he) hb
            exact ih e.on (by omega) (by omega)
        rw [h] at this
        cases this
  exact fun k => ⟨D.lt, key (k + 1) k (by omega)⟩

theorem any_sim (hok : cx.ok = true) (hO : OrcOK cx O) (X : Lex cx O ops ahead slots L0 L V fp) {B : Nat} {ro : Option Nat} {β0 : List Loc} {objs0 : List AObj} {w0 : World} (S : Start B ro Fb β0 objs0 w0) (hL0 : objs0.length ≤ L0) (nf : Nat) {Q : Exit → Act → World → Prop}
    (hQ : ∀ β' a' w', Inv B cx Fb β0 objs0 w0 β' (V ops.size) a' w' → Q .normal a' w') :
    ∀ (fuel : Nat) (listed : Array Bool) (s : St) (β : List Loc) (a : Act) (w : World), left ops.size listed ≤ fuel → DInv ops ahead slots L0 L V fp listed s → Inv B cx Fb β0 objs0 w0 β s a w → wpAnyIn (FW ro) nf cx.prog .any ops Q fuel listed a w := by
  have done : ∀ (listed : Array Bool) (s : St) (β : List Loc) (a : Act) (w : World), Region.ready .any ops listed = [] → DInv ops ahead slots L0 L V fp listed s → Inv B cx Fb β0 objs0 w0 β s a w → Q .normal a w := fun listed s β a w hr D I => by
    have hall := D.all X hr
    have e1 : s.tmps = (V ops.size).tmps := List.ext_getElem? fun x => D.vt.final hall x
    have e2 : s.objs = (V ops.size).objs := List.ext_getElem? fun x => D.vo.final hall x
    have : s = V ops.size := by
      cases s; cases hv : V ops.size; rw [hv] at e1 e2; simp at e1 e2; rw [e1, e2]
    rw [this] at I
    exact hQ β a w I
  intro fuel
  induction fuel with
  | zero =>
    intro listed s β a w hf D I
    have hr : Region.ready .any ops listed = [] := by
      cases hh : Region.ready .any ops listed with
      | nil => rfl
      | cons j js =>
        exfalso
        obtain ⟨o, M⟩ := D.may X (j := j) (by rw [hh]; simp)
        have : 0 < left ops.size listed := List.countP_pos_iff.2 ⟨j, by simpa using M.lt, by simpa using M.un⟩
        omega
    exact ⟨hr, done listed s β a w hr D I⟩
  | succ fuel ih =>
    intro listed s β a w hf D I
    refine ⟨fun hr => done listed s β a w hr D I, fun j hj => ?_⟩
    obtain ⟨o, M⟩ := D.may X hj
    have hsz : j < listed.size := by rw [D.size]; exact M.lt
    refine draw_step hok hO X S hL0 D I hj nf fun β' s' a' w' I' D' => ih _ s' β' a' w' ?_ D' I'
    have := countP_less (p := fun i => !((listed.setIfInBounds j true).getD i false)) (q := fun i => !(listed.getD i false)) (j := j) (fun i hi => by
      have := getD_listed (k := i) hsz
      cases h1 : (listed.setIfInBounds j true).getD i false <;> cases h2 : listed.getD i false <;> simp_all) (by simpa using M.un) (by have := (getD_listed (k := j) hsz).2 (.inr rfl); simp [this]) (List.range ops.size) List.nodup_range
    have hm : j ∈ List.range ops.size := by simpa using M.lt
    rw [if_pos hm] at this
    unfold left at hf ⊢
    omega

theorem cx_follows (h : cx.ok = true) : cx.prog.follows .mixedOrders = true := by
  unfold Cx.ok at h
  simp only [Bool.and_eq_true] at h
  exact h.1.2
theorem adraw_sim (hok : cx.ok = true) (hO : OrcOK cx O) {B : Nat} {ro : Option Nat} {β0 : List Loc} {objs0 : List AObj} {w0 : World} (S : Start B ro Fb β0 objs0 w0) (nf id : Nat) {R : Type} {κ : St → Option R} {r : R} {Q : Exit → Act → World → Prop}
    (hQ : ∀ (st' : St) (β' : List Loc) (a' : Act) (w' : World), κ st' = some r → Inv B cx Fb β0 objs0 w0 β' st' a' w' → Q .normal a' w') (I : Inv B cx Fb β0 objs0 w0 β st a w) (hr : adraw cx O ops.toList st κ = some r) :
    (Code.region id ops true).wpIn (FW ro) nf cx.prog Q a w := by
  unfold adraw at hr
  simp only [cond_eq_ite, frcS_eq] at hr
  split at hr
  · rename_i hc
    simp only [Bool.and_eq_true] at hc
    have hL : st.objs.length + (slotTab st.objs.length ops.toList).flatten.length - st.objs.length = (slotTab st.objs.length ops.toList).flatten.length := by omega
    rw [hL] at hr
    obtain ⟨V, fp, hV, _, hκ, hst⟩ := dops_trace hO.ro ops.toList _ _ st.objs.length _ ops.toList 0 [] _ rfl (by simp) rfl (by simp) hr
    have X : Lex cx O ops (aheadTab ops.toList []) (slotTab st.objs.length ops.toList) st.objs.length (st.objs.length + (slotTab st.objs.length ops.toList).flatten.length) V fp :=
      ⟨fun j hj => (hst j (by omega) (by simpa using hj)).1, fun j hj => (hst j (by omega) (by simpa using hj)).2, by rw [hV]; simp, rfl, rfl, rfl, hc.1.1⟩
    have I1 := I.pad S (slotTab st.objs.length ops.toList).flatten.length (w.drawn + 1)
    have none0 : ∀ k, ¬ (Array.replicate ops.size false).getD k false = true := fun k => by
      rw [Array.getD_eq_getD_getElem?, Array.getElem?_replicate]
      split <;> simp
    have D : DInv ops (aheadTab ops.toList []) (slotTab st.objs.length ops.toList) st.objs.length (st.objs.length + (slotTab st.objs.length ops.toList).flatten.length) V fp (Array.replicate ops.size false)
        { st with objs := st.objs ++ List.replicate (slotTab st.objs.length ops.toList).flatten.length .dead } := by
      refine ⟨by simp, fun j k h => absurd h (none0 j), by rw [hV], by simp, .init X.vt none0 fun x => by rw [hV], .init X.vo none0 fun x => by rw [hV], fun x v hv => ?_, fun x ob hv => ?_⟩
      · refine fits_mono (fun i hi => PD_iff.2 (.inl (by simpa using hi))) 3 v (List.all_eq_true.1 hc.1.2 v (List.mem_of_getElem? hv))
      · rcases getElem?_append_some hv with h1 | ⟨_, h1⟩
        · exact fitsO_mono (fun i hi => PD_iff.2 (.inl (by simpa using hi))) (List.all_eq_true.1 hc.2 ob (List.mem_of_getElem? h1))
        · rw [List.getElem?_replicate] at h1
          split at h1
          · cases h1; rfl
          · cases h1
    refine wpIn_region_any (cx_follows hok) (any_sim hok hO X S I.adv.len nf (fun β' a' w' I' => ?_) ops.size _ _ _ _ _ ?_ D I1)
    · simp only at hκ
      have hlen : objs0.length ≤ st.objs.length := I.adv.len
      have I2 := I'.pick S (ids := List.range st.objs.length ++ (List.range' st.objs.length (slotTab st.objs.length ops.toList).flatten.length).filter fun i => notDead (objAt (V ops.toList.length).objs i)) (e := List.range' objs0.length (st.objs.length - objs0.length) ++ (List.range' st.objs.length (slotTab st.objs.length ops.toList).flatten.length).filter fun i => notDead (objAt (V ops.toList.length).objs i)) (by
          rw [List.nodup_append]
          refine ⟨List.nodup_range, List.Pairwise.filter _ List.nodup_range', fun x hx y hy => ?_⟩
          have h1 := (List.mem_filter.1 hy).1
          simp at hx h1
          omega) (by
          rw [← List.append_assoc]
          congr 1
          have e1 := List.range'_append_1 (s := 0) (m := objs0.length) (n := st.objs.length - objs0.length)
          rw [Nat.zero_add] at e1
          rw [List.range_eq_range', List.range_eq_range', e1]
          congr 1
          omega)
      exact hQ _ _ a' w' hκ I2
    · unfold left
      have := List.countP_le_length (p := fun i => !((Array.replicate ops.size false).getD i false)) (l := List.range ops.size)
      simpa using this
  · cases hr
/-- Operations in any order; what holds when all have come. -/
def wpAnyF (F : Fence) (n : Nat) (P : Program) (ops : Array Oper) (Q : Exit → Act → World → Prop) (Fin : Act → World → Prop) : Nat → Array Bool → Act → World → Prop
  | 0, listed, a, w => Region.ready .any ops listed = [] ∧ Fin a w
  | fuel + 1, listed, a, w =>
    (Region.ready .any ops listed = [] → Fin a w) ∧
    ∀ i ∈ Region.ready .any ops listed, wpOpIn F n P ops Q i (wpAnyF F n P ops Q Fin fuel (listed.setIfInBounds i true)) a w
theorem any_simF (hok : cx.ok = true) (hO : OrcOK cx O) (X : Lex cx O ops ahead slots L0 L V fp) {B : Nat} {ro : Option Nat} {β0 : List Loc} {objs0 : List AObj} {w0 : World} (S : Start B ro Fb β0 objs0 w0) (hL0 : objs0.length ≤ L0) (nf : Nat) {Q : Exit → Act → World → Prop} {Fin : Act → World → Prop}
    (hQ : ∀ β' a' w', Inv B cx Fb β0 objs0 w0 β' (V ops.size) a' w' → Fin a' w') :
    ∀ (fuel : Nat) (listed : Array Bool) (s : St) (β : List Loc) (a : Act) (w : World), left ops.size listed ≤ fuel → DInv ops ahead slots L0 L V fp listed s → Inv B cx Fb β0 objs0 w0 β s a w → wpAnyF (FW ro) nf cx.prog ops Q Fin fuel listed a w := by
  have done : ∀ (listed : Array Bool) (s : St) (β : List Loc) (a : Act) (w : World), Region.ready .any ops listed = [] → DInv ops ahead slots L0 L V fp listed s → Inv B cx Fb β0 objs0 w0 β s a w → Fin a w := fun listed s β a w hr D I => by
    have hall := D.all X hr
    have e1 : s.tmps = (V ops.size).tmps := List.ext_getElem? fun x => D.vt.final hall x
    have e2 : s.objs = (V ops.size).objs := List.ext_getElem? fun x => D.vo.final hall x
    have : s = V ops.size := by
      cases s; cases hv : V ops.size; rw [hv] at e1 e2; simp at e1 e2; rw [e1, e2]
    rw [this] at I
    exact hQ β a w I
  intro fuel
  induction fuel with
  | zero =>
    intro listed s β a w hf D I
    have hr : Region.ready .any ops listed = [] := by
      cases hh : Region.ready .any ops listed with
      | nil => rfl
      | cons j js =>
        exfalso
        obtain ⟨o, M⟩ := D.may X (j := j) (by rw [hh]; simp)
        have : 0 < left ops.size listed := List.countP_pos_iff.2 ⟨j, by simpa using M.lt, by simpa using M.un⟩
        omega
    exact ⟨hr, done listed s β a w hr D I⟩
  | succ fuel ih =>
    intro listed s β a w hf D I
    refine ⟨fun hr => done listed s β a w hr D I, fun j hj => ?_⟩
    obtain ⟨o, M⟩ := D.may X hj
    have hsz : j < listed.size := by rw [D.size]; exact M.lt
    refine draw_step hok hO X S hL0 D I hj nf fun β' s' a' w' I' D' => ih _ s' β' a' w' ?_ D' I'
    have := countP_less (p := fun i => !((listed.setIfInBounds j true).getD i false)) (q := fun i => !(listed.getD i false)) (j := j) (fun i hi => by
      have := getD_listed (k := i) hsz
      cases h1 : (listed.setIfInBounds j true).getD i false <;> cases h2 : listed.getD i false <;> simp_all) (by simpa using M.un) (by have := (getD_listed (k := j) hsz).2 (.inr rfl); simp [this]) (List.range ops.size) List.nodup_range
    have hm : j ∈ List.range ops.size := by simpa using M.lt
    rw [if_pos hm] at this
    unfold left at hf ⊢
    omega

theorem adraw_simF (hok : cx.ok = true) (hO : OrcOK cx O) {B : Nat} {ro : Option Nat} {β0 : List Loc} {objs0 : List AObj} {w0 : World} (S : Start B ro Fb β0 objs0 w0) (nf id : Nat) {R : Type} {κ : St → Option R} {r : R} {Q : Exit → Act → World → Prop} {Fin : Act → World → Prop}
    (hQ : ∀ (st' : St) (β' : List Loc) (a' : Act) (w' : World), κ st' = some r → Inv B cx Fb β0 objs0 w0 β' st' a' w' → Fin a' w') (I : Inv B cx Fb β0 objs0 w0 β st a w) (hr : adraw cx O ops.toList st κ = some r) :
    wpAnyF (FW ro) nf cx.prog ops Q Fin ops.size (Array.replicate ops.size false) a { w with drawn := w.drawn + 1 } := by
  unfold adraw at hr
  simp only [cond_eq_ite, frcS_eq] at hr
  split at hr
  · rename_i hc
    simp only [Bool.and_eq_true] at hc
    have hL : st.objs.length + (slotTab st.objs.length ops.toList).flatten.length - st.objs.length = (slotTab st.objs.length ops.toList).flatten.length := by omega
    rw [hL] at hr
    obtain ⟨V, fp, hV, _, hκ, hst⟩ := dops_trace hO.ro ops.toList _ _ st.objs.length _ ops.toList 0 [] _ rfl (by simp) rfl (by simp) hr
    have X : Lex cx O ops (aheadTab ops.toList []) (slotTab st.objs.length ops.toList) st.objs.length (st.objs.length + (slotTab st.objs.length ops.toList).flatten.length) V fp :=
      ⟨fun j hj => (hst j (by omega) (by simpa using hj)).1, fun j hj => (hst j (by omega) (by simpa using hj)).2, by rw [hV]; simp, rfl, rfl, rfl, hc.1.1⟩
    have I1 := I.pad S (slotTab st.objs.length ops.toList).flatten.length (w.drawn + 1)
    have none0 : ∀ k, ¬ (Array.replicate ops.size false).getD k false = true := fun k => by
      rw [Array.getD_eq_getD_getElem?, Array.getElem?_replicate]
      split <;> simp
    have D : DInv ops (aheadTab ops.toList []) (slotTab st.objs.length ops.toList) st.objs.length (st.objs.length + (slotTab st.objs.length ops.toList).flatten.length) V fp (Array.replicate ops.size false)
        { st with objs := st.objs ++ List.replicate (slotTab st.objs.length ops.toList).flatten.length .dead } := by
      refine ⟨by simp, fun j k h => absurd h (none0 j), by rw [hV], by simp, .init X.vt none0 fun x => by rw [hV], .init X.vo none0 fun x => by rw [hV], fun x v hv => ?_, fun x ob hv => ?_⟩
      · refine fits_mono (fun i hi => PD_iff.2 (.inl (by simpa using hi))) 3 v (List.all_eq_true.1 hc.1.2 v (List.mem_of_getElem? hv))
      · rcases getElem?_append_some hv with h1 | ⟨_, h1⟩
        · exact fitsO_mono (fun i hi => PD_iff.2 (.inl (by simpa using hi))) (List.all_eq_true.1 hc.2 ob (List.mem_of_getElem? h1))
        · rw [List.getElem?_replicate] at h1
          split at h1
          · cases h1; rfl
          · cases h1
    refine any_simF hok hO X S I.adv.len nf (fun β' a' w' I' => ?_) ops.size _ _ _ _ _ ?_ D I1
    · simp only at hκ
      have hlen : objs0.length ≤ st.objs.length := I.adv.len
      have I2 := I'.pick S (ids := List.range st.objs.length ++ (List.range' st.objs.length (slotTab st.objs.length ops.toList).flatten.length).filter fun i => notDead (objAt (V ops.toList.length).objs i)) (e := List.range' objs0.length (st.objs.length - objs0.length) ++ (List.range' st.objs.length (slotTab st.objs.length ops.toList).flatten.length).filter fun i => notDead (objAt (V ops.toList.length).objs i)) (by
          rw [List.nodup_append]
          refine ⟨List.nodup_range, List.Pairwise.filter _ List.nodup_range', fun x hx y hy => ?_⟩
          have h1 := (List.mem_filter.1 hy).1
          simp at hx h1
          omega) (by
          rw [← List.append_assoc]
          congr 1
          have e1 := List.range'_append_1 (s := 0) (m := objs0.length) (n := st.objs.length - objs0.length)
          rw [Nat.zero_add] at e1
          rw [List.range_eq_range', List.range_eq_range', e1]
          congr 1
          omega)
      exact hQ _ _ a' w' hκ I2
    · unfold left
      have := List.countP_le_length (p := fun i => !((Array.replicate ops.size false).getD i false)) (l := List.range ops.size)
      simpa using this
  · cases hr
end
end Go.Ev
