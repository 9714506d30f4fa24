/-
  THE EVALUATOR, PART 26: a function's end: what it leaves.
-/
import Derived.Test.YtpkhhaolkfaoaaaHpEvY
set_option linter.unusedVariables false
set_option linter.unusedSimpArgs false
set_option linter.unusedSectionVars false
namespace Go.Ev

section
variable {cx : Cx} {Fb : Nat → Nat → Prop} {β : List Loc} {w : World}

def cutR (n : Nat) (i : Nat) : Option Nat := if i < n then some i else none

theorem encC_ren {n : Nat} {c : CSh} {a : AVal} (h1 : decC c a = true) (h2 : belowC n c = true) {P : AVal → Prop} (hP : P (renV 3 (cutR n) a)) (hu : P .undef) : P (encC c) := by
  have hc : ∀ i, i < n → cutR n i = some i := fun i h => by simp [cutR, h]
  cases c with
  | undef => exact hu
  | own i => cases a <;> simp_all [decC, belowC, renV, encC]
  | ptr i o =>
    cases a <;> first | (simp [decC] at h1; done) | skip
    simp only [decC, Bool.and_eq_true, beq_iff_eq] at h1
    obtain ⟨rfl, rfl⟩ := h1
    simp only [belowC, decide_eq_true_eq] at h2
    simp only [renV, hc _ h2] at hP
    exact hP
  | nilp => cases a <;> first | (simp [decC] at h1; done) | exact hP
  | map i => cases a <;> simp_all [decC, belowC, renV, encC]
  | nilm => cases a <;> first | (simp [decC] at h1; done) | exact hP
  | clo f ids =>
    cases a <;> first | (simp [decC] at h1; done) | skip
    rename_i g cs
    simp only [decC, Bool.and_eq_true, beq_iff_eq] at h1
    obtain ⟨rfl, h1⟩ := h1
    simp only [belowC, List.all_eq_true, decide_eq_true_eq] at h2
    have : renV 3 (cutR n) (.clo f cs) = .clo f (ids.map ofCap) := by
      simp only [renV]
      congr 1
      have one : ∀ (c : AVal) (i : Nat), capOf c = some i → i / 2 < n → renV 2 (cutR n) c = ofCap i := by
        intro c i h hlt
        unfold capOf at h
        split at h
        · cases h
          rename_i i
          have e1 : 2 * i / 2 = i := by omega
          have e2 : 2 * i % 2 = 0 := by omega
          rw [e1] at hlt
          simp [renV, hc i hlt, ofCap, e1, e2]
        · cases h
          rename_i i
          have e1 : (2 * i + 1) / 2 = i := by omega
          have e2 : (2 * i + 1) % 2 = 1 := by omega
          rw [e1] at hlt
          simp [renV, hc i hlt, ofCap, e1, e2]
        · cases h
      have key : ∀ (cs : List AVal) (ids : List Nat), cs.map capOf = ids.map some → (∀ i ∈ ids, i / 2 < n) → cs.map (renV 2 (cutR n)) = ids.map ofCap := by
        intro cs
        induction cs with
        | nil => intro ids h _; cases ids <;> simp_all
        | cons c cs ih =>
          intro ids h hlt
          cases ids with
          | nil => simp at h
          | cons i ids =>
            simp only [List.map_cons, List.cons.injEq] at h
            simp only [List.map_cons, List.cons.injEq]
            exact ⟨one c i h.1 (hlt i (by simp)), ih ids h.2 fun j hj => hlt j (by simp [hj])⟩
      exact key cs ids h1 h2
    rw [this] at hP
    exact hP
  | nilf => cases a <;> first | (simp [decC] at h1; done) | exact hP
  | nils => cases a <;> first | (simp [decC] at h1; done) | exact hP
  | yld i => cases a <;> simp_all [decC, belowC, renV, encC]

theorem encV_ren {ρ : Nat → Option Nat} (t : LTy) (y : t.T) : renV 3 ρ (encV t y) = encV t y := by
  cases t with
  | dat t =>
    simp only [encV, renV]
    congr 1
    have : ∀ c ∈ cells t y, renV 2 ρ c = c := fun c hc => by
      have := cells_data t y c hc
      cases c <;> first | rfl | (simp [AVal.isData] at this)
    calc (cells t y).map (renV 2 ρ) = (cells t y).map id := List.map_congr_left (by simpa using this)
      _ = cells t y := by simp
  | _ => rfl

theorem leaf_rel {objsS objs' : List AObj} {β' : List Loc} {ts : List AVal} {a : Act} (h : Rel cx Fb β { tmps := ts, objs := objsS } a w) {n : Nat} {mo : List AObj} (hmo : MaskOK mo objsS) {N' : Nat → Nat → Prop}
    (g : Ren (cutR n) β β' objsS objs' w w (NN Fb β objsS) N') {s : LSh} {c e : AVal} {u : Value} (hl : Leaf n mo s c e) (hc : RelV β objsS w (NN Fb β objsS) c u) : RelV β' objs' w N' e u := by
  cases s with
  | v t =>
    obtain ⟨y, hy, rfl⟩ := hl
    have := RelV.ren g 3 (decV_rel h hmo hy hc)
    rwa [encV_ren] at this
  | c c =>
    obtain ⟨h1, h2, rfl⟩ := hl
    exact encC_ren (P := fun e => RelV β' objs' w N' e u) h1 h2 (RelV.ren g 3 hc) (.undef _)

theorem buildO_frm (orig : AObj) (j : Option (Option AEx)) (l : List AVal) : buildO orig (.frm j) l = (match orig with | .frm f p ts _ => .frm f p ts j | _ => .dead) := by
  cases l with
  | nil => rfl
  | cons c l => cases c <;> cases l <;> rfl
theorem dec1_sim {β0 : List Loc} {objs0 : List AObj} {ts0 : List AVal} {a0 : Act} {w0 : World} (h0 : Rel cx Fb β0 { tmps := ts0, objs := objs0 } a0 w0) {objs : List AObj} {v : AVal} {u : Value}
    (h : Rel cx Fb β { tmps := [v], objs := objs } { tmps := #[u], defers := [] } w) (A : Adv β0 objs0 w0 β objs w) {a : FSh} {x : TL a.flat} (hd : dec1 objs0.length a objs v = some x) :
    ∃ β', Adv β0 objs0 w0 β' (buildOs objs0 a.objs 0 ((encTL a.flat x).take (a.objs.flatMap OSh.flat).length)) w ∧
      Rel cx Fb β' { tmps := [buildV a.val ((encTL a.flat x).drop (a.objs.flatMap OSh.flat).length)], objs := buildOs objs0 a.objs 0 ((encTL a.flat x).take (a.objs.flatMap OSh.flat).length) } { tmps := #[u], defers := [] } w := by
  unfold dec1 at hd
  cases hm : decide (objs0.length ≤ a.objs.length) with
  | false => rw [hm] at hd; cases hd
  | true =>
  rw [hm] at hd
  have hm : objs0.length ≤ a.objs.length := by simpa using hm
  obtain ⟨xs, hxs, hd⟩ := Option.bind_eq_some_iff.1 hd
  obtain ⟨vs, hvs, hd⟩ := Option.bind_eq_some_iff.1 hd
  obtain ⟨f1, f2, f3⟩ := flat_get _ _ _ hxs
  obtain ⟨d1, d2, d3⟩ := decTL_get _ _ _ hd
  generalize hes : encTL a.flat x = es at *
  generalize hn : a.objs.length = n at *
  -- rows that are seen are shared
  obtain ⟨objsS, AS, RS, hlS, hS1, hS2, hS3⟩ := shares_list ((List.range objs.length).filter fun i => match a.objs[i]? with | some (.arr _ false) => false | _ => true) h
  generalize hL : (List.range objs.length).filter (fun i => match a.objs[i]? with | some (.arr _ false) => false | _ => true) = L at *
  have inL : ∀ i, i < objs.length → (∀ t, a.objs[i]? ≠ some (.arr t false)) → i ∈ L := by
    intro i hi hne
    rw [← hL, List.mem_filter]
    refine ⟨by simpa using hi, ?_⟩
    split
    · rename_i t e; exact absurd e (hne t)
    · rfl
  have notL : ∀ i t, a.objs[i]? = some (.arr t false) → i ∉ L := by
    intro i t e hi
    rw [← hL, List.mem_filter, e] at hi
    simp at hi
  have hmo : MaskOK (maskS a.objs objs) objsS := by
    intro id t sh ys hid
    obtain ⟨g1, g2⟩ := mask_get _ _ _ _ hid rfl
    have hlt := (List.getElem?_eq_some_iff.1 g1).1
    obtain ⟨o', k1, _, k3⟩ := hS3 id _ g1
    have hsh := hS1 id (inL id hlt g2)
    rcases k3 with rfl | ⟨t', ys', e1, rfl⟩
    · have := hsh _ _ _ k1
      subst this; exact k1
    · cases e1; exact k1
  have AT := A.trans AS
  generalize hobjs' : buildOs objs0 a.objs 0 (es.take (a.objs.flatMap OSh.flat).length) = objs' at *
  have hl' : objs'.length = n := by rw [← hobjs', buildOs_length, hn]
  have hβl : β.length = objs.length := h.len
  -- one object
  have obj1 : ∀ (i : Nat) (o' : AObj), objs'[i]? = some o' → ∃ s o off ys, a.objs[i]? = some s ∧ objs[i]? = some o ∧ flatO s o = some ys ∧ o' = buildO (objAt objs0 i) s ((es.drop off).take s.flat.length) ∧
      ((es.drop off).take s.flat.length).length = s.flat.length ∧
      ∀ (j : Nat) (sl : LSh), s.flat[j]? = some sl → ∃ c e, ys[j]? = some c ∧ ((es.drop off).take s.flat.length)[j]? = some e ∧ Leaf n (maskS a.objs objs) sl c e := by
    intro i o' ho'
    have hi : i < a.objs.length := by rw [hn, ← hl']; exact (List.getElem?_eq_some_iff.1 ho').1
    obtain ⟨o, off, ys, g1, g2, g3, g4, g5⟩ := f3 i a.objs[i] (by simp [hi])
    have := g5 objs0 0 (es.take (a.objs.flatMap OSh.flat).length)
    rw [hobjs', ho'] at this
    have htk : ((es.take (a.objs.flatMap OSh.flat).length).drop off).take a.objs[i].flat.length = (es.drop off).take a.objs[i].flat.length := by
      rw [List.drop_take, List.take_take, Nat.min_eq_left (by omega)]
    rw [htk, Nat.zero_add] at this
    have hflat : a.flat.length = (a.objs.flatMap OSh.flat).length + a.val.flat.length := by simp [FSh.flat]
    refine ⟨a.objs[i], o, off, ys, by simp [hi], g1, g2, Option.some.inj this, by simp; omega, fun j sl hj => ?_⟩
    have hjl := (List.getElem?_eq_some_iff.1 hj).1
    obtain ⟨p1, p2⟩ := g4 j hjl
    obtain ⟨c, e, q1, q2, q3⟩ := d3 (off + j) sl (by
      rw [FSh.flat, List.getElem?_append_left (by omega), p1, hj])
    refine ⟨c, e, ?_, ?_, q3⟩
    · rw [List.getElem?_append_left (by omega), p2] at q1; exact q1
    · rw [List.getElem?_take, if_pos hjl, List.getElem?_drop]; exact q2
  -- a map is left as it was
  have mpOf : ∀ (i : Nat) (s : OSh) (kt vt : Ty) (ks : List (T kt)) (vs : List (T vt)) (off : Nat) (ys : List AVal), a.objs[i]? = some s → objs[i]? = some (.mp kt vt ks vs) → flatO s (.mp kt vt ks vs) = some ys →
      ((es.drop off).take s.flat.length).length = s.flat.length →
      (∀ (j : Nat) (sl : LSh), s.flat[j]? = some sl → ∃ c e, ys[j]? = some c ∧ ((es.drop off).take s.flat.length)[j]? = some e ∧ Leaf n (maskS a.objs objs) sl c e) →
      ∀ kt0 vt0, s = .mp kt0 vt0 → kt = kt0 ∧ vt = vt0 ∧ buildO (objAt objs0 i) s ((es.drop off).take s.flat.length) = .mp kt vt ks vs := by
    intro i s kt vt ks vs off ys g1 g2 g3 g5 g6 kt0 vt0 hs
    subst hs
    unfold flatO at g3
    simp only [cond_eq_ite, Bool.and_eq_true, beq_iff_eq] at g3
    split at g3
    · rename_i hc
      obtain ⟨rfl, rfl⟩ := hc
      cases g3
      obtain ⟨c, e, q1, q2, q3⟩ := g6 0 (.v (.sl kt)) rfl
      obtain ⟨c', e', q1', q2', q3'⟩ := g6 1 (.v (.sl vt)) rfl
      simp at q1 q1'
      subst q1; subst q1'
      obtain ⟨y, hy, rfl⟩ := q3
      obtain ⟨y', hy', rfl⟩ := q3'
      have hyz : y = ks := by
        have hy : toList (maskS a.objs objs) kt (.sl kt false ks) = some y := hy
        simp [toList, fixS] at hy
        exact (Option.some.inj hy).symm
      have hyz' : y' = vs := by
        have hy' : toList (maskS a.objs objs) vt (.sl vt false vs) = some y' := hy'
        simp [toList, fixS] at hy'
        exact (Option.some.inj hy').symm
      subst hyz; subst hyz'
      have hone : (es.drop off).take (OSh.mp kt vt).flat.length = [.sl kt false y, .sl vt false y'] := by
        have hl1 : ((es.drop off).take (OSh.mp kt vt).flat.length).length = 2 := g5
        match hL2 : (es.drop off).take (OSh.mp kt vt).flat.length with
        | [] => rw [hL2] at hl1; simp at hl1
        | [z] => rw [hL2] at hl1; simp at hl1
        | [z, z'] => rw [hL2] at q2 q2'; simp at q2 q2'; rw [q2, q2']; rfl
        | _ :: _ :: _ :: _ => rw [hL2] at hl1; simp at hl1
      rw [hone]
      exact ⟨rfl, rfl, by simp [buildO]⟩
    · cases g3
  -- of an object that is left, its former self
  have was : ∀ (i : Nat) (o' : AObj), objs'[i]? = some o' → alive o' = true → ∃ o2, objsS[i]? = some o2 ∧ alive o2 = true ∧ (∀ l b off, wrO o' l b off → wrO o2 l b off) ∧
      (∀ t sh zs, o' = .arr t sh zs → o2 = .arr t sh zs) ∧ (∀ t sh zs, o2 = .arr t sh zs → o' = .arr t sh zs) := by
    intro i o' ho' ha
    obtain ⟨s, o, off, ys, g1, g2, g3, rfl, g5, g6⟩ := obj1 i o' ho'
    obtain ⟨o2, k1, k2, k3⟩ := hS3 i o g2
    have hi := (List.getElem?_eq_some_iff.1 g2).1
    unfold flatO at g3
    split at g3
    · cases g3
    · simp [buildO, alive] at ha
    · rename_i l cs
      refine ⟨o2, k1, ?_⟩
      have : o2 = .box cs := by
        rcases k3 with h | ⟨t, zs, e, _⟩
        · exact h
        · cases e
      subst this
      exact ⟨rfl, fun l b off hw => by cases l <;> exact hw, fun t sh zs e => by simp [buildO] at e, fun t sh zs e => by cases e⟩
    · rename_i t sh t' sh' zs
      simp only [cond_eq_ite, Bool.and_eq_true, beq_iff_eq, Bool.or_eq_true, Bool.not_eq_true'] at g3
      split at g3
      · rename_i hc
        obtain ⟨rfl, hc⟩ := hc
        cases g3
        obtain ⟨c, e, q1, q2, q3⟩ := g6 0 (.v (.sl t')) rfl
        simp at q1
        subst q1
        obtain ⟨y, hy, rfl⟩ := q3
        have hyz : y = zs := by
          have hy : toList (maskS a.objs objs) t' (.sl t' false zs) = some y := hy
          simp [toList, fixS] at hy
          exact (Option.some.inj hy).symm
        subst hyz
        have hone : (es.drop off).take (OSh.arr t' sh).flat.length = [.sl t' false y] := by
          have hl1 : ((es.drop off).take (OSh.arr t' sh).flat.length).length = 1 := g5
          match hL2 : (es.drop off).take (OSh.arr t' sh).flat.length with
          | [] => rw [hL2] at hl1; simp at hl1
          | [z] => rw [hL2] at q2; simp at q2; rw [q2]; rfl
          | _ :: _ :: _ => rw [hL2] at hl1; simp at hl1
        rw [hone]
        have hb : buildO (objAt objs0 i) (.arr t' sh) [.sl t' false y] = .arr t' sh y := by simp [buildO]
        rw [hb]
        have : o2 = .arr t' sh y := by
          cases sh with
          | false =>
            have hs' : sh' = false := by simpa using hc
            subst hs'
            exact k2 (notL i t' g1)
          | true =>
            have hsh := hS1 i (inL i hi (fun t e => by rw [g1] at e; cases e))
            rcases k3 with rfl | ⟨t2, zs2, e1, rfl⟩
            · have := hsh _ _ _ k1
              subst this; rfl
            · cases e1; rfl
        subst this
        exact ⟨_, k1, rfl, fun _ _ _ h => h, fun t sh zs e => e, fun t sh zs e => e⟩
      · cases g3
    · rename_i j f p ts' j'
      refine ⟨o2, k1, ?_⟩
      have : o2 = .frm f p ts' j' := by
        rcases k3 with h | ⟨t, zs, e, _⟩
        · exact h
        · cases e
      subst this
      rw [buildO_frm] at ha ⊢
      revert ha
      split
      · intro _
        exact ⟨rfl, fun l b off hw => (by cases l <;> exact hw), fun t sh zs e => (by cases e), fun t sh zs e => (by cases e)⟩
      · intro ha; cases ha
    · rename_i kt vt kt' vt' ks vs
      obtain ⟨e1, e2, hb⟩ := mpOf i (.mp kt vt) kt' vt' ks vs off ys g1 g2 (by unfold flatO; exact g3) g5 g6 kt vt rfl
      rw [hb]
      refine ⟨o2, k1, ?_⟩
      have : o2 = .mp kt' vt' ks vs := by
        rcases k3 with h | ⟨t, zs, e, _⟩
        · exact h
        · cases e
      subst this
      exact ⟨rfl, fun l b off hw => hw, fun t sh zs e => (by cases e), fun t sh zs e => (by cases e)⟩
    · cases g3
  obtain ⟨ls, hls⟩ := A.pre
  have hβ' : ∀ i, i < n → (β.take n)[i]? = β[i]? := fun i hi => by rw [List.getElem?_take, if_pos hi]
  have wr' : ∀ b off, Wr (β.take n) objs' b off → Wr β objsS b off := by
    rintro b off ⟨i, o', l, h1, h2, h3⟩
    have hi : i < n := by rw [← hl']; exact (List.getElem?_eq_some_iff.1 h1).1
    obtain ⟨o2, k1, _, k3, _, _⟩ := was i o' h1 (wrO_at h3).1
    exact ⟨i, o2, l, k1, by rw [← hβ' i hi]; exact h2, k3 _ _ _ h3⟩
  have frmOf : ∀ (i : Nat) f p ts j, objs0[i]? = some (.frm f p ts j) → ∃ j', objs'[i]? = some (.frm f p ts j') ∧ ∃ ts', objs[i]? = some (.frm f p ts' j') := by
    intro i f p ts j hi
    have hlt := (List.getElem?_eq_some_iff.1 hi).1
    obtain ⟨ts', j', h1⟩ := A.frm i f p ts j hi
    have hi' : i < objs'.length := by rw [hl']; omega
    obtain ⟨s, o, off, ys, g1, g2, g3, g4, g5, g6⟩ := obj1 i objs'[i] (by simp [hi'])
    rw [h1] at g2; cases g2
    unfold flatO at g3
    split at g3
    · cases g3
    · rename_i e _; simp_all
    · rename_i e; cases e
    · rename_i e; cases e
    · rename_i j2 f2 p2 ts2 j3 e
      cases e
      simp only [cond_eq_ite, decide_eq_true_eq] at g3
      split at g3
      · rename_i hj
        subst hj
        refine ⟨j', ?_, ts', h1⟩
        have : objs'[i]? = some objs'[i] := by simp [hi']
        rw [this, g4]
        rw [buildO_frm]
        simp [objAt, hi]
      · cases g3
    · rename_i e; cases e
    · cases g3
  have A' : Adv β0 objs0 w0 (β.take n) objs' w := by
    refine ⟨⟨ls.take (n - β0.length), ?_⟩, A.keep, fun b off hb hw => AT.wr b off hb (wr' b off hw), fun i f p ts j hi => ?_, fun i t sh zs hi ho => ?_, by rw [hl']; exact hm, A.lp⟩
    · have := h0.len
      simp only at this
      rw [hls, List.take_append, List.take_of_length_le (by omega)]
    · obtain ⟨j', h1, _⟩ := frmOf i f p ts j hi
      exact ⟨ts, j', h1⟩
    · obtain ⟨o2, k1, _, _, k4, _⟩ := was i _ ho rfl
      have := k4 t sh zs rfl
      subst this
      exact AT.arr i t sh zs hi k1
  have ren : Ren (cutR n) β (β.take n) objsS objs' w w (NN Fb β objsS) (NN Fb (β.take n) objs') := by
    refine ⟨fun i j l hc hl => ?_, fun i j t sh zs hc hi ho => ?_, fun _ _ _ h => h, fun ad v _ hN => ?_⟩
    · unfold cutR at hc
      split at hc
      · rename_i hin; cases hc; rw [hβ' i hin]; exact hl
      · cases hc
    · unfold cutR at hc
      split at hc
      · cases hc
        obtain ⟨o2, k1, _, _, k4, _⟩ := was i _ ho rfl
        have := k4 t sh zs rfl
        subst this
        exact ⟨sh, zs, k1, rfl⟩
      · cases hc
    · rcases hN with hN | hN
      · exact .inl hN
      · exact .inr (wr' _ _ hN)
  have alv : ∀ (i : Nat) (o' : AObj) (b c : Nat), objs'[i]? = some o' → alive o' = true → (β.take n)[i]? = some (.at b c) → ∃ o2, objsS[i]? = some o2 ∧ alive o2 = true ∧ β[i]? = some (.at b c) := by
    intro i o' b c h1 h2 h3
    have hi : i < n := by rw [← hl']; exact (List.getElem?_eq_some_iff.1 h1).1
    obtain ⟨o2, k1, k2, _⟩ := was i o' h1 h2
    exact ⟨o2, k1, k2, by rw [← hβ' i hi]; exact h3⟩
  refine ⟨β.take n, A', ?_, by simp only; rw [hl', List.length_take, hβl]; omega, fun i o' l h1 h2 => ?_, fun i j o o' b c c' h1 h2 h3 h4 h5 h6 => ?_, fun i o b c h1 h2 h3 => ?_⟩
  · -- the value
    have hval : RelV β objsS w (NN Fb β objsS) v u := RS.tmps.2 0 v u rfl rfl
    have hlv : vs.length = a.val.flat.length ∧ xs.length = (a.objs.flatMap OSh.flat).length := by
      refine ⟨?_, f2⟩
      have := d1
      simp [FSh.flat, f2] at this
      simpa using this
    have leafAt : ∀ (j : Nat) (sl : LSh), a.val.flat[j]? = some sl → ∃ c e, vs[j]? = some c ∧ (es.drop (a.objs.flatMap OSh.flat).length)[j]? = some e ∧ Leaf n (maskS a.objs objs) sl c e := by
      intro j sl hj
      obtain ⟨c, e, q1, q2, q3⟩ := d3 ((a.objs.flatMap OSh.flat).length + j) sl (by rw [FSh.flat, List.getElem?_append_right (by omega), Nat.add_sub_cancel_left, hj])
      refine ⟨c, e, ?_, by rw [List.getElem?_drop]; exact q2, q3⟩
      rw [List.getElem?_append_right (by omega), f2, Nat.add_sub_cancel_left] at q1
      exact q1
    have hdl : (es.drop (a.objs.flatMap OSh.flat).length).length = a.val.flat.length := by
      rw [List.length_drop, d2]; simp [FSh.flat]
    refine ⟨rfl, fun i c v' hc hv' => ?_⟩
    have hi0 : i = 0 := by
      have := (List.getElem?_eq_some_iff.1 hc).1; simp at this; omega
    subst hi0
    simp only [List.getElem?_cons_zero, Option.some.injEq] at hc
    have hv' : u = v' := by simpa using hv'
    subst hc; subst hv'
    cases hvl : a.val with
    | one s =>
      rw [hvl] at hvs leafAt hdl
      simp only [flatV] at hvs
      cases hvs
      obtain ⟨c, e, q1, q2, q3⟩ := leafAt 0 s rfl
      simp at q1
      subst q1
      have hone : es.drop (a.objs.flatMap OSh.flat).length = [e] := by
        match hL2 : es.drop (a.objs.flatMap OSh.flat).length with
        | [] => rw [hL2] at q2; simp at q2
        | [z] => rw [hL2] at q2; simp at q2; rw [q2]
        | _ :: _ :: _ => rw [hL2] at hdl; simp [VSh.flat] at hdl
      rw [hone]
      exact leaf_rel RS hmo ren q3 hval
    | tup l =>
      rw [hvl] at hvs leafAt hdl
      cases v <;> first | (cases hvs; done) | skip
      · rename_i vs2
        simp only [flatV, cond_eq_ite, beq_iff_eq] at hvs
        split at hvs
        · rename_i hlen
          cases hvs
          simp only [buildV]
          cases hval with | tup hl hr =>
          rename_i us
          refine .tup (by rw [hdl]; simp only [VSh.flat]; rw [← hlen]; exact hl) fun i c v' hc hv' => ?_
          have hil : i < l.length := by
            have := (List.getElem?_eq_some_iff.1 hc).1
            rw [hdl] at this; exact this
          obtain ⟨c0, e, q1, q2, q3⟩ := leafAt i l[i] (by simp [VSh.flat, hil])
          rw [hc] at q2; cases q2
          exact leaf_rel RS hmo ren q3 (hr i c0 v' q1 hv')
        · cases hvs
  · -- the objects
    have hi : i < n := by rw [← hl']; exact (List.getElem?_eq_some_iff.1 h1).1
    by_cases ha : alive o' = true
    · obtain ⟨o2, k1, k2, k3, k4, k5⟩ := was i o' h1 ha
      rw [hβ' i hi] at h2
      have hob := RS.obj i o2 l k1 h2
      obtain ⟨s, o, off, ys, g1, g2, g3, g4, g5, g6⟩ := obj1 i o' h1
      obtain ⟨o3, m1, m2, m3⟩ := hS3 i o g2
      rw [k1] at m1; cases m1
      unfold flatO at g3
      split at g3
      · cases g3
      · subst g4; simp [buildO, alive] at ha
      · rename_i ll cs
        have : o2 = .box cs := by
          rcases m3 with h | ⟨t, zs, e, _⟩
          · exact h
          · cases e
        subst this
        simp only [cond_eq_ite, beq_iff_eq] at g3
        split at g3
        · rename_i hlen
          cases g3
          obtain ⟨b, cap, us, e, fr, rfl, p1, p2, p3⟩ := hob
          subst g4
          refine ⟨b, cap, us, e, fr, rfl, p1, p2, ?_, fun j c u hc hu => ?_⟩
          · rw [g5]
            have := p3.1
            simp only [OSh.flat]; omega
          · have hjl : j < ll.length := by
              have := (List.getElem?_eq_some_iff.1 hc).1
              rw [g5] at this; exact this
            obtain ⟨c0, e0, q1, q2, q3⟩ := g6 j ll[j] (by simp [OSh.flat, hjl])
            rw [hc] at q2; cases q2
            exact leaf_rel RS hmo ren q3 (p3.2 j c0 u q1 hu)
        · cases g3
      · rename_i t sh t' sh' zs
        -- a row
        have hshape : ∃ t sh zs, o2 = .arr t sh zs := by
          rcases m3 with rfl | ⟨t, zs, _, rfl⟩ <;> exact ⟨_, _, _, rfl⟩
        obtain ⟨t2, sh2, zs2, rfl⟩ := hshape
        have := k5 t2 sh2 zs2 rfl
        subst this
        cases l with
        | nil => exact hob
        | «at» b cap =>
          obtain ⟨us, e, fr, p1, p2, p3, p4, p5⟩ := hob
          exact ⟨us, e, fr, p1, p2, p3, p4, fun i x j c v hx hc hv => (p5 i x j c v hx hc hv).data ren.cell ren.data (cells_data _ x c (List.mem_of_getElem? hc))⟩
      · rename_i j f p ts' j'
        have : o2 = .frm f p ts' j' := by
          rcases m3 with h | ⟨t, zs, e, _⟩
          · exact h
          · cases e
        subst this
        -- the record was there at the start
        have hst : ∃ f0 p0 t0 j0, objs0[i]? = some (.frm f0 p0 t0 j0) := by
          subst g4
          rw [buildO_frm] at ha
          revert ha
          split
          · rename_i f0 p0 t0 j0 e
            intro _
            exact ⟨f0, p0, t0, j0, objAt_some e rfl⟩
          · intro ha; cases ha
        obtain ⟨f0, p0, t0, j0, hst⟩ := hst
        obtain ⟨j1, q1, ts1, q2⟩ := frmOf i f0 p0 t0 j0 hst
        rw [h1] at q1; cases q1
        rw [g2] at q2; cases q2
        obtain ⟨b, cap, tmps, blk, gg, ps, asg, body, fn, rfl, p1, p2, p3, p4⟩ := hob
        have hlt0 : i < β0.length := by rw [h0.len]; exact (List.getElem?_eq_some_iff.1 hst).1
        obtain ⟨b0, cap0, tmps0, blk0, gg0, ps0, asg0, body0, fn0, hloc0, r1, r2, r3, r4⟩ := h0.obj i _ β0[i] hst (by simp [hlt0])
        have hsame : β[i]? = some β0[i] := by rw [hls, List.getElem?_append_left hlt0]; simp [hlt0]
        rw [h2, hloc0] at hsame
        cases hsame
        obtain ⟨L', s1, s2⟩ := A.lp b _ r2
        rw [p2] at s1
        cases s1
        simp only at s2
        subst s2
        exact ⟨b, cap, tmps, blk, gg, ps, asg, body, fn, rfl, p1, p2, r3.goes (A'.goes (Fb := Fb) h0.len), p4⟩
      · rename_i kt vt kt' vt' ks vs
        obtain ⟨e1, e2, hb⟩ := mpOf i (.mp kt vt) kt' vt' ks vs off ys g1 g2 (by unfold flatO; exact g3) g5 g6 kt vt rfl
        have : o2 = .mp kt' vt' ks vs := by
          rcases m3 with h | ⟨t, zs, e, _⟩
          · exact h
          · cases e
        subst this
        rw [hb] at g4
        subst g4
        obtain ⟨b, cap, ens, clk, rfl, p1, p2, p3, p4⟩ := hob
        exact ⟨b, cap, ens, clk, rfl, p1, p2, p3, fun i k v e x y z => ⟨(p4 i k v e x y z).1.boxData ren.cell ren.data, (p4 i k v e x y z).2.boxData ren.cell ren.data⟩⟩
      · cases g3
    · cases o' with
      | dead => trivial
      | _ => exact absurd rfl ha
  · obtain ⟨o2, k1, k2, k3⟩ := alv i o b c h1 h2 h3
    obtain ⟨o3, l1, l2, l3⟩ := alv j o' b c' h4 h5 h6
    exact RS.inj i j o2 o3 b c c' k1 k2 k3 l1 l2 l3
  · obtain ⟨o2, k1, k2, k3⟩ := alv i o b c h1 h2 h3
    exact RS.fb i o2 b c k1 k2 k3
end
end Go.Ev
