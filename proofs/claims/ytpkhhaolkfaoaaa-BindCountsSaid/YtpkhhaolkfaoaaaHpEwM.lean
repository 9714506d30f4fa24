/-
  THE EVALUATOR, PART 39: the same, for slices of slices, appends and calls.
-/
import Derived.Test.YtpkhhaolkfaoaaaHpEwL
set_option linter.unusedVariables false
set_option linter.unusedSimpArgs false
set_option linter.unusedSectionVars false
namespace Go.Ev
section
variable {cx : Cx} {O : Orc cx} {o : Oper}

def hiOf (ev : Operand → AVal) (x : Option Operand) (n : Nat) : Option Nat := match x with | some h => bnd (ev h) n | none => some n
def loOf (ev : Operand → AVal) (x : Option Operand) (h : Nat) : Option Nat := match x with | some l => bnd (ev l) h | none => some 0
theorem hiOf_congr {ev ev2 : Operand → AVal} {x : Option Operand} {n : Nat} (h : ∀ y, x = some y → ev2 y = ev y) : hiOf ev2 x n = hiOf ev x n := by
  cases x with
  | none => rfl
  | some y => simp only [hiOf, h y rfl]
theorem loOf_congr {ev ev2 : Operand → AVal} {x : Option Operand} {n : Nat} (h : ∀ y, x = some y → ev2 y = ev y) : loOf ev2 x n = loOf ev x n := by
  cases x with
  | none => rfl
  | some y => simp only [loOf, h y rfl]
def sliceA (cx : Cx) (ev : Operand → AVal) (objs : List AObj) {R : Type} (κ : List AObj → AVal → Option R) (t : Nat) (x : Operand) (lo hi mx : Option Operand) : Option R :=
  match cx.kind t, ev x with
    | .str, .str s => (hiOf ev hi s.length).bind fun h => (loOf ev lo h).bind fun l =>
      match mx with
      | none => κ objs (.str ((s.take h).drop l))
      | some _ => none
    | .sl ty _ _ _, v => (toList (shareV objs v) ty v).bind fun xs => (hiOf ev hi xs.length).bind fun h => (loOf ev lo h).bind fun l =>
      match mx with
      | none => κ (shareV objs v) (.sl ty false ((xs.take h).drop l))
      | some m => (bnd (ev m) xs.length).bind fun m => bif m == h && hi.isSome then κ (shareV objs v) (.sl ty true ((xs.take h).drop l)) else none
    | _, _ => none
theorem aopV_slice {t : Nat} {x : Operand} {lo hi mx : Option Operand} (ho : o.op = .slice t x lo hi mx) (ev : Operand → AVal) (objs : List AObj) {R : Type} (κ : List AObj → AVal → Option R) :
    aopV cx O o ev objs κ = sliceA cx ev objs κ t x lo hi mx := by
  simp only [aopV, ho]
  rfl
theorem goes_slice {t : Nat} {x : Operand} {lo hi mx : Option Operand} (ho : o.op = .slice t x lo hi mx) : Goes1 cx O o := by
  intro ev objs R κ r h
  have hx : x ∈ o.op.operands := by simp [ho, Op.operands]
  have hlo : ∀ y, lo = some y → y ∈ o.op.operands := fun y e => by simp [ho, Op.operands, e]
  have hhi : ∀ y, hi = some y → y ∈ o.op.operands := fun y e => by simp [ho, Op.operands, e]
  have hmx : ∀ y, mx = some y → y ∈ o.op.operands := fun y e => by simp [ho, Op.operands, e]
  rw [aopV_slice ho] at h
  unfold sliceA at h
  split at h
  · rename_i s h1 h2
    obtain ⟨n, hn, h⟩ := Option.bind_eq_some_iff.1 h
    obtain ⟨l, hl, h⟩ := Option.bind_eq_some_iff.1 h
    split at h
    · refine goes_read h fun ev2 objs2 he hl2 hr R κ => ?_
      rw [aopV_slice ho]; unfold sliceA; rw [he x hx, h1, h2]
      simp only [hiOf_congr fun y e => he y (hhi y e), hn, Option.bind_some, loOf_congr fun y e => he y (hlo y e), hl]
    · cases h
  · rename_i ty e sz bytes h1
    obtain ⟨xs, hxs, h⟩ := Option.bind_eq_some_iff.1 h
    obtain ⟨n, hn, h⟩ := Option.bind_eq_some_iff.1 h
    obtain ⟨l, hl, h⟩ := Option.bind_eq_some_iff.1 h
    have hS : ∀ y ∈ ownersV (ev x), y ∈ rdIds cx ev objs o ∧ (isArr objs y = true → y ∈ wrIds cx ev objs o) := fun y hy =>
      ⟨rd_of (by simp [ho]) hx (owners_refs hy), fun hi => by simp only [wrIds, ho]; exact List.mem_filter.2 ⟨owners_refs hy, hi⟩⟩
    have e1 : ∀ objs2 : List AObj, (∀ x, x ∈ wrIds cx ev objs o ++ rdIds cx ev objs o → objs2[x]? = objs[x]?) → toList (shareV objs2 (ev x)) ty (ev x) = some xs := fun objs2 hr => by
      rw [← hxs]
      exact toList_congr fun i hi => (shBy_v (ev x) objs).congr (shBy_v (ev x) objs2) (hr i (List.mem_append_right _ (rd_of (by simp [ho]) hx hi)))
    rcases mx with _ | m
    · refine ⟨_, _, h, by simp [(shBy_v (ev x) objs).1], ?_⟩
      have L := Lcl.share (O := O) (os := []) (v := .sl ty false ((xs.take n).drop l)) hS (shBy_v (ev x) objs) fun ev2 objs2 he hl2 hr => ⟨_, shBy_v (ev x) objs2, fun R κ => by
        rw [aopV_slice ho]; unfold sliceA; rw [he x hx, h1]
        simp only [e1 objs2 hr, hiOf_congr fun y e => he y (hhi y e), hn, Option.bind_some, loOf_congr fun y e => he y (hlo y e), hl, List.append_nil]⟩
      rw [List.append_nil] at L
      exact L
    · obtain ⟨k, hk, h⟩ := Option.bind_eq_some_iff.1 h
      simp only [cond_eq_ite] at h
      split at h
      · rename_i hc
        refine ⟨_, _, h, by simp [(shBy_v (ev x) objs).1], ?_⟩
        have L := Lcl.share (O := O) (os := []) (v := .sl ty true ((xs.take n).drop l)) hS (shBy_v (ev x) objs) fun ev2 objs2 he hl2 hr => ⟨_, shBy_v (ev x) objs2, fun R κ => by
          rw [aopV_slice ho]; unfold sliceA; rw [he x hx, h1]
          simp only [e1 objs2 hr, hiOf_congr fun y e => he y (hhi y e), hn, Option.bind_some, loOf_congr fun y e => he y (hlo y e), hl, List.append_nil, he m (hmx m rfl), hk, hc, cond_true]⟩
        rw [List.append_nil] at L
        exact L
      · cases h
  · cases h

theorem aopV_append {c : Go.Call} {x y : Operand} {t t2 : Nat} (ho : o.op = .call c) (hc : c.callee = .builtin .append) (ha : c.args.toList = [x, y]) (ht : c.argTypes.toList = [t, t2]) (ev : Operand → AVal) (objs : List AObj) {R : Type} (κ : List AObj → AVal → Option R) :
    aopV cx O o ev objs κ = match cx.kind t with
        | .sl ty _ _ bytes =>
          (match cx.kind t2, ev y with
            | .str, .str s => ofU8 ty s
            | .sl _ _ _ _, v => toList objs ty v
            | _, _ => none).bind fun ys =>
          match ev x with
          | .nils => bif decide (ys.length * bytes ≤ 140737488355328) then κ (objs ++ [AObj.arr ty false ys]) (.own objs.length) else none
          | .sl ty' true xs => if h : ty' = ty then
              (bif decide ((xs.length + ys.length) * bytes ≤ 140737488355328) && decide (0 < ys.length) then κ (objs ++ [AObj.arr ty false ((h ▸ xs) ++ ys)]) (.own objs.length) else none) else none
          | .own id => match objAt objs id with
            | .arr ty' sh xs => if h : ty' = ty then
                (bif decide ((xs.length + ys.length) * bytes ≤ 140737488355328) then κ (objs.set id .dead ++ [AObj.arr ty sh ((h ▸ xs) ++ ys)]) (.own objs.length) else none) else none
            | _ => none
          | _ => none
        | _ => none := by
  simp only [aopV, ho, hc, ha, ht]
  rfl
theorem goes_append {c : Go.Call} (ho : o.op = .call c) (hc : c.callee = .builtin .append) : Goes1 cx O o := by
  intro ev objs R κ r h
  have hh : ∃ x y t t2, c.args.toList = [x, y] ∧ c.argTypes.toList = [t, t2] := by
    simp only [aopV, ho, hc] at h
    split at h
    · rename_i x y t t2 h1 h2
      exact ⟨x, y, t, t2, h1, h2⟩
    · cases h
  obtain ⟨x, y, t, t2, ha, ht⟩ := hh
  have hop : ∀ z ∈ [x, y], z ∈ o.op.operands := fun z hz => by
    simp only [ho, Op.operands, Call.operands, hc]
    exact Array.mem_append.2 (.inr (by rw [← Array.mem_toList_iff, ha]; exact hz))
  have hx := hop x (by simp)
  have hy := hop y (by simp)
  have rd : ∀ {z} (hz : z ∈ o.op.operands) {i}, i ∈ refs 3 (ev z) → i ∈ rdIds cx ev objs o := fun hz i hi => by
    simp only [rdIds, ho, hc]
    exact List.mem_flatMap.2 ⟨_, by simpa using hz, hi⟩
  rw [aopV_append ho hc ha ht] at h
  split at h
  · rename_i ty e sz bytes hk
    obtain ⟨ys, hys, h⟩ := Option.bind_eq_some_iff.1 h
    have hys2 : ∀ objs2 : List AObj, (∀ x, x ∈ rdIds cx ev objs o → objs2[x]? = objs[x]?) → (match cx.kind t2, ev y with
            | .str, .str s => ofU8 ty s
            | .sl _ _ _ _, v => toList objs2 ty v
            | _, _ => none) = some ys := fun objs2 hr => by
      rw [← hys]
      split
      · rfl
      · exact toList_congr fun i hi => hr i (rd hy hi)
      · rfl
    split at h
    · rename_i hev
      simp only [cond_eq_ite] at h
      split at h
      · rename_i hcond
        refine goes_push h fun ev2 objs2 he hl hr R κ => ?_
        rw [aopV_append ho hc ha ht, hk, he x hx, he y hy]
        simp only [hys2 objs2 hr, Option.bind_some, hev, hcond, cond_true, hl]
      · cases h
    · rename_i ty' xs hev
      split at h
      · rename_i hty
        subst hty
        simp only [cond_eq_ite] at h
        split at h
        · rename_i hcond
          refine goes_push h fun ev2 objs2 he hl hr R κ => ?_
          rw [aopV_append ho hc ha ht, hk, he x hx, he y hy]
          simp only [hys2 objs2 hr, Option.bind_some, hev, hcond, cond_true, hl, dif_pos]
        · cases h
      · cases h
    · rename_i id hev
      split at h
      · rename_i ty' sh xs hob
        split at h
        · rename_i hty
          subst hty
          simp only [cond_eq_ite] at h
          split at h
          · rename_i hcond
            have hid : id ∈ wrIds cx ev objs o := by simp [wrIds, ho, hc, ha, hev]
            refine ⟨_, _, h, by simp, Lcl.set hid fun ev2 objs2 he hl hr R κ => ?_⟩
            rw [aopV_append ho hc ha ht, hk, he x hx, he y hy]
            simp only [hys2 objs2 (fun x hx => hr x (List.mem_append_right _ hx)), Option.bind_some, hev, hcond, cond_true, hl, dif_pos, objAt_congr (hr id (List.mem_append_left _ hid)), hob]
          · cases h
        · cases h
      · cases h
    · cases h
  · cases h

theorem goes_copy {c : Go.Call} (ho : o.op = .call c) (hc : c.callee = .builtin .copy) : Goes1 cx O o := by
  intro ev objs R κ r h
  simp only [aopV, ho, hc] at h
  split at h
  · rename_i x y t t2 ha ht
    have hop : ∀ z ∈ [x, y], z ∈ o.op.operands := fun z hz => by
      simp only [ho, Op.operands, Call.operands, hc]
      exact Array.mem_append.2 (.inr (by rw [← Array.mem_toList_iff, ha]; exact hz))
    have hx := hop x (by simp)
    have hy := hop y (by simp)
    have rd : ∀ {z} (hz : z ∈ o.op.operands) {i}, i ∈ refs 3 (ev z) → i ∈ rdIds cx ev objs o := fun hz i hi => by
      simp only [rdIds, ho, hc]
      exact List.mem_flatMap.2 ⟨_, by simpa using hz, hi⟩
    split at h
    · rename_i ty e sz bytes id hk hev
      split at h
      · rename_i ty' xs hob
        split at h
        · rename_i hty
          obtain ⟨ys, hys, h⟩ := Option.bind_eq_some_iff.1 h
          simp only [cond_eq_ite] at h
          split at h
          · rename_i hcond
            have hid : id ∈ wrIds cx ev objs o := by simp [wrIds, ho, hc, ha, hev]
            have L := Lcl.set (O := O) (o := o) (ev := ev) (objs := objs) (v := .int .i64 ys.length) (os := []) (id := id) (ob := .arr ty false ys) hid (fun ev2 objs2 he hl hr R κ => by
              have e1 : toList objs2 ty (ev y) = some ys := by
                rw [← hys]; exact toList_congr fun i hi => hr i (List.mem_append_right _ (rd hy hi))
              simp only [aopV, ho, hc, ha, ht, he x hx, he y hy, hk, hev, objAt_congr (hr id (List.mem_append_left _ hid)), hob, if_pos hty, e1, Option.bind_some, hcond, cond_true, List.append_nil])
            rw [List.append_nil] at L
            exact ⟨_, _, h, by simp, L⟩
          · cases h
        · cases h
      · cases h
    · cases h
  · cases h
theorem reach_congr {objs objs2 : List AObj} (hl : objs2.length = objs.length) : ∀ (n : Nat) (q acc : List Nat), (∀ x ∈ reach n objs q acc, objs2[x]? = objs[x]?) → reach n objs2 q acc = reach n objs q acc
  | 0, _, _, _ => rfl
  | n + 1, [], acc, _ => by simp [reach]
  | n + 1, i :: q, acc, h => by
    unfold reach at h ⊢
    rw [hl]
    cases hc : (acc.contains i || decide (objs.length ≤ i)) with
    | true =>
      rw [hc] at h
      exact reach_congr hl n q acc h
    | false =>
      rw [hc] at h
      simp only [cond_false] at h ⊢
      have hi : objs2[i]? = objs[i]? := by
        refine h i ?_
        obtain ⟨e, he⟩ := reach_pre n objs (q ++ objRefs ((objs[i]?).getD .dead)) (acc ++ [i])
        rw [he]
        simp
      rw [hi]
      exact reach_congr hl n _ _ h
where
  reach_pre : ∀ (n : Nat) (objs : List AObj) (q acc : List Nat), ∃ e, reach n objs q acc = acc ++ e
    | 0, _, _, acc => ⟨[], by simp [reach]⟩
    | n + 1, _, [], acc => ⟨[], by simp [reach]⟩
    | n + 1, objs, i :: q, acc => by
      unfold reach
      cases (acc.contains i || decide (objs.length ≤ i)) with
      | true => exact reach_pre n objs q acc
      | false =>
        obtain ⟨e, he⟩ := reach_pre n objs (q ++ objRefs ((objs[i]?).getD .dead)) (acc ++ [i])
        exact ⟨i :: e, by rw [cond_false, he]; simp⟩
theorem pickO_congr {objs objs2 : List AObj} {ids : List Nat} (h : ∀ x ∈ ids, objs2[x]? = objs[x]?) : pickO objs2 ids = pickO objs ids := by
  unfold pickO
  exact List.map_congr_left fun x hx => by rw [h x hx]
theorem argAs_congr {objs objs2 : List AObj} {keep : Bool} {k : Kind} {v : AVal} (h : ∀ i ∈ refs 3 v, objs2[i]? = objs[i]?) : argAs objs2 keep k v = argAs objs keep k v := by
  unfold argAs
  cases keep with
  | true => rfl
  | false =>
    simp only [cond_false]
    split
    · exact fixS_congr (n := 2) h
    · rw [fixL_congr (n := 1) _ _ fun c hc i hi => h i (List.mem_flatMap.2 ⟨c, hc, hi⟩)]
    · rfl
theorem argsAs_congr {objs objs2 : List AObj} {f : Nat} : ∀ (vs : List AVal) (ts : List Nat) (i : Nat), (∀ v ∈ vs, ∀ i ∈ refs 3 v, objs2[i]? = objs[i]?) → argsAs cx objs2 f i ts vs = argsAs cx objs f i ts vs
  | [], ts, i, _ => by cases ts <;> rfl
  | v :: vs, [], i, h => by
    simp only [argsAs]
    rw [argsAs_congr vs [] (i + 1) fun u hu => h u (by simp [hu])]
  | v :: vs, t :: ts, i, h => by
    simp only [argsAs]
    rw [argsAs_congr vs ts (i + 1) fun u hu => h u (by simp [hu]), argAs_congr (h v (by simp))]
def putAll (ps : List (Nat × AObj)) (back : Nat → Option Nat) (objs : List AObj) : List AObj := ps.foldl (fun o x => o.set x.1 (renO back x.2)) objs
theorem putAll_len (back : Nat → Option Nat) : ∀ (ps : List (Nat × AObj)) (objs : List AObj), (putAll ps back objs).length = objs.length
  | [], _ => rfl
  | p :: ps, objs => by
    have := putAll_len back ps (objs.set p.1 (renO back p.2))
    simpa [putAll] using this
theorem putAll_two (back : Nat → Option Nat) : ∀ (ps : List (Nat × AObj)) (objs objs2 : List AObj), objs2.length = objs.length → ∀ x : Nat, objs2[x]? = objs[x]? → (putAll ps back objs2)[x]? = (putAll ps back objs)[x]?
  | [], _, _, _, _, h => h
  | p :: ps, objs, objs2, hl, x, h => by
    refine putAll_two back ps (objs.set p.1 (renO back p.2)) (objs2.set p.1 (renO back p.2)) (by simp [hl]) x ?_
    by_cases e : p.1 = x
    · subst e; simp [List.getElem?_set, hl]
    · rw [List.getElem?_set_ne e, List.getElem?_set_ne e, h]
theorem putAll_other (back : Nat → Option Nat) : ∀ (ps : List (Nat × AObj)) (objs : List AObj) (x : Nat), (∀ p ∈ ps, p.1 ≠ x) → (putAll ps back objs)[x]? = objs[x]?
  | [], _, _, _ => rfl
  | p :: ps, objs, x, h => by
    have := putAll_other back ps (objs.set p.1 (renO back p.2)) x fun q hq => h q (by simp [hq])
    rw [List.getElem?_set_ne (h p (by simp))] at this
    exact this
theorem putAll_same (back : Nat → Option Nat) : ∀ (ps : List (Nat × AObj)) (objs : List AObj), (∀ p ∈ ps, objs[p.1]? = some (renO back p.2)) → putAll ps back objs = objs
  | [], _, _ => rfl
  | p :: ps, objs, h => by
    have e : objs.set p.1 (renO back p.2) = objs := by
      apply List.ext_getElem?
      intro x
      by_cases e : p.1 = x
      · subst e
        have h1 := h p (by simp)
        rw [List.getElem?_set_self (List.getElem?_eq_some_iff.1 h1).1, h1]
      · rw [List.getElem?_set_ne e]
    show putAll ps back (objs.set p.1 (renO back p.2)) = objs
    rw [e]
    exact putAll_same back ps objs fun q hq => h q (by simp [hq])
/-- There and back. -/
theorem fits_back {P : Nat → Bool} {ρ ρ' : Nat → Option Nat} (hρ : ∀ i, P i = true → ∃ j, ρ i = some j ∧ ρ' j = some i) : ∀ (n : Nat) (v : AVal), fits P n v = true → renV n ρ' (renV n ρ v) = v
  | 0, _, h => by cases h
  | n + 1, v, h => by
    have key : ∀ cs : List AVal, cs.all (fits P n) = true → (cs.map (renV n ρ)).map (renV n ρ') = cs := fun cs hc => by
      rw [List.map_map]
      conv => rhs; rw [← List.map_id cs]
      exact List.map_congr_left fun c hcc => fits_back hρ n c (List.all_eq_true.1 hc c hcc)
    cases v <;> simp only [fits] at h <;> simp only [renV]
    all_goals first
      | rw [key _ h]
      | (obtain ⟨j, h1, h2⟩ := hρ _ h; simp [h1, h2, renV])
theorem fitsO_back {P : Nat → Bool} {ρ ρ' : Nat → Option Nat} (hρ : ∀ i, P i = true → ∃ j, ρ i = some j ∧ ρ' j = some i) {o : AObj} (h : fitsO P o = true) : renO ρ' (renO ρ o) = o := by
  have key : ∀ cs : List AVal, cs.all (fits P 3) = true → (cs.map (renV 3 ρ)).map (renV 3 ρ') = cs := fun cs hc => by
    rw [List.map_map]
    conv => rhs; rw [← List.map_id cs]
    exact List.map_congr_left fun c hcc => fits_back hρ 3 c (List.all_eq_true.1 hc c hcc)
  cases o <;> simp only [fitsO] at h <;> simp only [renO]
  all_goals rw [key _ h]
theorem posOf_mem : ∀ {l : List Nat} {i : Nat}, i ∈ l → ∃ j, posOf l i = some j
  | k :: l, i, h => by
    unfold posOf
    cases hb : i == k with
    | true => exact ⟨0, rfl⟩
    | false =>
      have : i ∈ l := by
        rcases List.mem_cons.1 h with rfl | h
        · simp at hb
        · exact h
      obtain ⟨j, hj⟩ := posOf_mem this
      exact ⟨j + 1, by simp [hj]⟩

def callKP {R : Type} (O : Orc cx) (f : Nat) (args : List AVal) (ids : List Nat) (objsP objs : List AObj) (κ : List AObj → AVal → Option R) : Option R :=
  (O.call f (args.map (renV 3 (posOf ids))) objsP).bind fun r =>
    κ (putAll (ids.zip (encP objsP _ r).1) (fun j => some (bif decide (j < ids.length) then (ids[j]?).getD 0 else objs.length + (j - ids.length))) objs ++
        ((encP objsP _ r).1.drop ids.length).map (renO fun j => some (bif decide (j < ids.length) then (ids[j]?).getD 0 else objs.length + (j - ids.length))))
      (renV 3 (fun j => some (bif decide (j < ids.length) then (ids[j]?).getD 0 else objs.length + (j - ids.length))) (encP objsP _ r).2)
theorem callK_putAll {O : Orc cx} (f : Nat) (args : List AVal) (objs : List AObj) {R : Type} (κ : List AObj → AVal → Option R) :
    callK O f args objs κ = callKP O f args (reach 200 objs (args.flatMap (refs 3)) []) (pickO objs (reach 200 objs (args.flatMap (refs 3)) [])) objs κ := by
  unfold callK callKP
  simp only [encK_eq, frcOs_eq, frcVs_eq, frcNs_eq]
  rfl

theorem goes_call (hro : RoOK cx O) {c : Go.Call} {f : Operand} (ho : o.op = .call c) (hc : c.callee = .value f) {ev : Operand → AVal} {objs : List AObj} {g : Nat} {caps : List AVal} (hf : ev f = .clo g caps) {R : Type} {κ : List AObj → AVal → Option R} {r : R}
    (h : aopV cx O o ev objs κ = some r) : ∃ objs1 v, κ objs1 v = some r ∧ objs.length ≤ objs1.length ∧ Lcl O o ev objs objs1 v := by
  have hopf : f ∈ o.op.operands := by simp [ho, Op.operands, Call.operands, hc]
  have hopa : ∀ x ∈ c.args.toList, x ∈ o.op.operands := fun x hx => by
    simp only [ho, Op.operands, Call.operands, hc]
    exact Array.mem_append.2 (.inr (by simpa using hx))
  have eqn : ∀ {ev : Operand → AVal} {objs : List AObj} (hf : ev f = .clo g caps) (R : Type) (κ : List AObj → AVal → Option R), aopV cx O o ev objs κ =
      callK O g (argsAs cx (shares cx g 0 objs (c.args.toList.map ev)) g 0 c.argTypes.toList (c.args.toList.map ev) ++ caps) (shares cx g 0 objs (c.args.toList.map ev)) κ := fun hf R κ => by
    simp only [aopV, ho, hc, hf, callVal]
  rw [eqn hf] at h
  generalize hargs : c.args.toList.map ev = args at *
  have hSh := shBy_as (cx := cx) g args 0 objs
  generalize hobjsA : shares cx g 0 objs args = objsA at *
  generalize has : argsAs cx objsA g 0 c.argTypes.toList args ++ caps = as at *
  rw [callK_putAll] at h
  unfold callKP at h
  obtain ⟨x, hx, h⟩ := Option.bind_eq_some_iff.1 h
  have hnd : (reach 200 objsA (as.flatMap (refs 3)) []).Nodup := (reach_spec 200 objsA _ [] List.nodup_nil).2
  have hlt : ∀ i ∈ reach 200 objsA (as.flatMap (refs 3)) [], i < objsA.length := by
    obtain ⟨⟨e, he, h3⟩, _⟩ := reach_spec 200 objsA (as.flatMap (refs 3)) [] List.nodup_nil
    rw [he]
    simpa using h3
  have hrd : rdIds cx ev objs o = opIds ev o ++ reach 200 objsA (as.flatMap (refs 3)) [] := by
    simp only [rdIds, ho, hc, hf, hargs, hobjsA, has]
  have hwr : wrIds cx ev objs o = (opIds ev o).filter (isArr objs) ++ bif cx.ro g (as.map (renV 3 (posOf (reach 200 objsA (as.flatMap (refs 3)) [])))) (pickO objsA (reach 200 objsA (as.flatMap (refs 3)) [])) && (reach 200 objsA (as.flatMap (refs 3)) []).all (fun i => fitsO (fun j => (reach 200 objsA (as.flatMap (refs 3)) []).contains j) (objAt objsA i)) then [] else reach 200 objsA (as.flatMap (refs 3)) [] := by
    simp only [wrIds, ho, hc, hf, hargs, hobjsA, has]
  generalize hids : reach 200 objsA (as.flatMap (refs 3)) [] = ids at *
  have hown : ∀ y ∈ ownersAs cx g 0 args, y ∈ opIds ev o := fun y hy => by
    obtain ⟨v, hv, hy⟩ := ownersAs_refs hy
    rw [← hargs] at hv
    obtain ⟨z, hz, rfl⟩ := List.mem_map.1 hv
    exact List.mem_flatMap.2 ⟨z, by simpa using hopa z hz, hy⟩
  refine ⟨_, _, h, by simp [putAll_len, hSh.1], ⟨fun ev2 objs2 he hl hr => ?_⟩⟩
  have hargs2 : c.args.toList.map ev2 = args := by rw [← hargs]; exact List.map_congr_left fun z hz => he z (hopa z hz)
  have hf2 : ev2 f = .clo g caps := (he f hopf).trans hf
  have hShB := shBy_as (cx := cx) g args 0 objs2
  generalize hobjsB : shares cx g 0 objs2 args = objsB at *
  have lB : objsB.length = objsA.length := by rw [hShB.1, hSh.1, hl]
  have agree : ∀ y, y ∈ wrIds cx ev objs o ++ rdIds cx ev objs o → objsB[y]? = objsA[y]? := fun y hy => hSh.congr hShB (hr y hy)
  have agId : ∀ y ∈ ids, objsB[y]? = objsA[y]? := fun y hy => agree y (by rw [hrd]; simp [hy])
  have agOp : ∀ v ∈ args, ∀ i ∈ refs 3 v, objsB[i]? = objsA[i]? := fun v hv i hi => by
    refine agree i ?_
    rw [← hargs] at hv
    obtain ⟨z, hz, rfl⟩ := List.mem_map.1 hv
    rw [hrd]
    have : i ∈ opIds ev o := List.mem_flatMap.2 ⟨z, by simpa using hopa z hz, hi⟩
    simp [this]
  have e1 : argsAs cx objsB g 0 c.argTypes.toList args ++ caps = as := by rw [argsAs_congr args _ 0 agOp, has]
  have e2 : reach 200 objsB (as.flatMap (refs 3)) [] = ids := by rw [reach_congr lB _ _ _ (by rw [hids]; exact agId), hids]
  have e3 : pickO objsB ids = pickO objsA ids := pickO_congr agId
  refine ⟨putAll (ids.zip (encP (pickO objsA ids) _ x).1) (fun j => some (bif decide (j < ids.length) then (ids[j]?).getD 0 else objsA.length + (j - ids.length))) objsB ++ (((encP (pickO objsA ids) _ x).1).drop ids.length).map (renO fun j => some (bif decide (j < ids.length) then (ids[j]?).getD 0 else objsA.length + (j - ids.length))), fun R κ => ?_, ?_, fun y hy => ?_, fun y hy hn => ?_⟩
  · rw [eqn hf2, hargs2, hobjsB, e1, callK_putAll, e2, e3]
    unfold callKP
    simp only [hx, Option.bind_some, lB]
  · simp [putAll_len, lB]
  · by_cases h2 : y < objs.length
    · rcases hy with hy | hy
      · omega
      · rw [List.getElem?_append_left (by rw [putAll_len, lB, hSh.1]; exact h2), List.getElem?_append_left (by rw [putAll_len, hSh.1]; exact h2)]
        exact putAll_two _ _ _ _ lB y (agree y (List.mem_append_left _ hy))
    · rw [List.getElem?_append_right (by rw [putAll_len, lB, hSh.1]; omega), List.getElem?_append_right (by rw [putAll_len, hSh.1]; omega)]
      simp [putAll_len, lB]
  · rw [List.getElem?_append_left (by rw [putAll_len, lB, hSh.1]; exact hy)]
    have k1 : objsB[y]? = objs2[y]? := hShB.keep fun hys => by
      have ho1 := hown y hys
      have : isArr objs2 y = isArr objs y := by unfold isArr; rw [objAt_congr (hr y (by rw [hrd]; simp [ho1]))]
      rw [this]
      cases hh : isArr objs y with
      | false => rfl
      | true => exact absurd (by rw [hwr]; exact List.mem_append_left _ (List.mem_filter.2 ⟨ho1, hh⟩)) hn
    rw [← k1]
    cases hb : cx.ro g (as.map (renV 3 (posOf ids))) (pickO objsA ids) && ids.all (fun i => fitsO (fun j => ids.contains j) (objAt objsA i)) with
    | false =>
      rw [hb] at hwr
      refine putAll_other _ _ _ _ fun p hp e => hn ?_
      rw [hwr, ← e]
      have hp' : (p.1, p.2) ∈ ids.zip (encP (pickO objsA ids) _ x).1 := hp
      exact List.mem_append_right _ (List.of_mem_zip hp').1
    | true =>
      obtain ⟨h3, h4⟩ := Bool.and_eq_true_iff.1 hb
      have h5 := hro _ _ _ _ h3 hx
      rw [putAll_same]
      intro p hp
      rw [h5] at hp
      obtain ⟨j, hj⟩ := List.mem_iff_getElem?.1 hp
      rw [List.getElem?_zip_eq_some] at hj
      obtain ⟨hj1, hj2⟩ := hj
      obtain ⟨i', hi', hp2⟩ := pickO_get hj2
      rw [hj1] at hi'; cases hi'
      have hm : p.1 ∈ ids := List.mem_of_getElem? hj1
      have h6 := List.all_eq_true.1 h4 _ hm
      rw [hp2, fitsO_back (fun i hi => ?_) h6, agId _ hm]
      · have := hlt _ hm
        simp [objAt, this]
      · obtain ⟨k, hk⟩ := posOf_mem (l := ids) (i := i) (by simpa using hi)
        have hk2 := posOf_some hk
        refine ⟨k, hk, ?_⟩
        have := (List.getElem?_eq_some_iff.1 hk2).1
        simp only [hk2, decide_eq_true this, cond_true, Option.getD_some]

/-- Each operation does the same in surroundings that look alike to it. -/
theorem goes_one (hro : RoOK cx O) {ev : Operand → AVal} {objs : List AObj} (hy : noYield ev o = true) {R : Type} {κ : List AObj → AVal → Option R} {r : R} (h : aopV cx O o ev objs κ = some r) :
    ∃ objs1 v, κ objs1 v = some r ∧ objs.length ≤ objs1.length ∧ Lcl O o ev objs objs1 v := by
  cases ho : o.op with
  | move x => exact goes_move ho ev objs R κ r h
  | assign x => exact goes_assign ho ev objs R κ r h
  | pick c a b => exact goes_pick ho ev objs R κ r h
  | alloc e => exact goes_alloc ho ev objs R κ r h
  | box t x => exact goes_box ho ev objs R κ r h
  | load t a => exact goes_load ho ev objs R κ r h
  | nilCheck x => exact goes_nilCheck ho ev objs R κ r h
  | binOp op t x y b => exact goes_binOp ho ev objs R κ r h
  | unOp op t x => exact goes_unOp ho ev objs R κ r h
  | field s x f => exact goes_field ho ev objs R κ r h
  | fieldAddr s x f => exact goes_fieldAddr ho ev objs R κ r h
  | indexAddr t x y => exact goes_indexAddr ho ev objs R κ r h
  | index t x y => exact goes_index ho ev objs R κ r h
  | extract x i => exact goes_extract ho ev objs R κ r h
  | makeFunc g first caps => exact goes_makeFunc ho ev objs R κ r h
  | store t a x => exact goes_store ho ev objs R κ r h
  | convert s d x => exact goes_convert ho ev objs R κ r h
  | build t ps => exact goes_build ho ev objs R κ r h
  | buildSlice t n ps => exact goes_buildSlice ho ev objs R κ r h
  | slice t x lo hi mx => exact goes_slice ho ev objs R κ r h
  | makeSlice t l c => exact goes_makeSlice ho ev objs R κ r h
  | call c =>
    cases hc : c.callee with
    | value f =>
      cases hf : ev f with
      | clo g caps => exact goes_call hro ho hc hf h
      | _ => simp [noYield, ho, hc, hf] at hy
    | builtin b =>
      cases b with
      | append => exact goes_append ho hc ev objs R κ r h
      | copy => exact goes_copy ho hc ev objs R κ r h
      | max => exact goes_max ho hc ev objs R κ r h
      | min => exact goes_min ho hc ev objs R κ r h
      | len =>
        have hh : ∃ x t, c.args.toList = [x] ∧ c.argTypes.toList = [t] := by
          simp only [aopV, ho, hc] at h
          split at h
          · rename_i x t h1 h2
            exact ⟨x, t, h1, h2⟩
          · cases h
        obtain ⟨x, t, h1, h2⟩ := hh
        exact goes_len ho hc h1 h2 ev objs R κ r h
      | _ => simp only [aopV, ho, hc] at h; cases h
    | _ => simp only [aopV, ho, hc] at h; cases h
  | makeMap t x => simp [noYield, ho] at hy
  | lookup t x i ok => simp [noYield, ho] at hy
  | mapUpdate t m k x => simp [noYield, ho] at hy
  | range t x => simp [noYield, ho] at hy
  | next x str => simp [noYield, ho] at hy
  | _ => simp only [aopV, ho] at h; cases h
end
end Go.Ev
