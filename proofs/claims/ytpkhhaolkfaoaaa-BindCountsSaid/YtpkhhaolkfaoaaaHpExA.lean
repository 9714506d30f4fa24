/-
  THE EVALUATOR, PART 44: maps, and texts gone over rune by rune.
-/
import Derived.Test.YtpkhhaolkfaoaaaHpEvU
import Derived.RangeFuncRecord
set_option linter.unusedVariables false
set_option linter.unusedSimpArgs false
set_option linter.unusedSectionVars false
namespace Go.Ev

/-! ### Where a key stands -/
def posK : List Bytes → Bytes → Option Nat
  | [], _ => none
  | k :: ks, s => bif k == s then some 0 else (posK ks s).map (· + 1)
theorem posK_lt : ∀ {ks : List Bytes} {s : Bytes} {j : Nat}, posK ks s = some j → ks[j]? = some s
  | k :: ks, s, j, h => by
    unfold posK at h
    cases e : k == s with
    | true =>
      rw [e] at h
      simp at h; subst h
      have : k = s := by simpa using e
      simp [this]
    | false =>
      rw [e] at h
      simp only [cond_false, Option.map_eq_some_iff] at h
      obtain ⟨i, hi, rfl⟩ := h
      simpa using posK_lt hi
theorem hasK_pos : ∀ (ks : List Bytes) (s : Bytes), hasK ks s = (posK ks s).isSome
  | [], _ => rfl
  | k :: ks, s => by
    unfold hasK posK
    cases e : k == s with
    | true => rfl
    | false => simp only [cond_false, hasK_pos ks s]; cases posK ks s <;> rfl
theorem lookM_pos {α : Type} : ∀ (ks : List Bytes) (vs : List α) (s : Bytes) (d : α), ks.length = vs.length → lookM ks vs s d = ((posK ks s).bind (vs[·]?)).getD d
  | [], [], _, _, _ => rfl
  | [], _ :: _, _, _, h => by simp at h
  | _ :: _, [], _, _, h => by simp at h
  | k :: ks, v :: vs, s, d, h => by
    unfold lookM posK
    cases e : k == s with
    | true => rfl
    | false =>
      simp only [cond_false, lookM_pos ks vs s d (by simpa using h)]
      cases posK ks s <;> simp
theorem putK_pos : ∀ (ks : List Bytes) (s : Bytes), putK ks s = match posK ks s with | none => ks ++ [s] | some _ => ks
  | [], _ => rfl
  | k :: ks, s => by
    unfold putK posK
    cases e : k == s with
    | true => rfl
    | false =>
      simp only [cond_false, putK_pos ks s]
      cases posK ks s <;> rfl
theorem putV_pos {α : Type} : ∀ (ks : List Bytes) (vs : List α) (s : Bytes) (v : α), ks.length = vs.length → putV ks vs s v = match posK ks s with | none => vs ++ [v] | some j => vs.set j v
  | [], [], _, _, _ => rfl
  | [], _ :: _, _, _, h => by simp at h
  | _ :: _, [], _, _, h => by simp at h
  | k :: ks, x :: vs, s, v, h => by
    unfold putV posK
    cases e : k == s with
    | true => rfl
    | false =>
      simp only [cond_false, putV_pos ks vs s v (by simpa using h)]
      cases posK ks s <;> rfl
theorem findNow_pos (s : Bytes) : ∀ (ks : List Bytes) (es : List MapEntry) (i : Nat), ks.length = es.length → (∀ (j : Nat) k e, ks[j]? = some k → es[j]? = some e → e.key = .string ⟨k.toArray⟩) →
    Instr.findNow .string (.string ⟨s.toArray⟩) es i = some ((posK ks s).bind fun j => (es[j]?).map fun e => (i + j, e.val))
  | [], [], _, _, _ => rfl
  | [], _ :: _, _, h, _ => by simp at h
  | _ :: _, [], _, h, _ => by simp at h
  | k :: ks, e :: es, i, h, hk => by
    have h0 := hk 0 k e rfl rfl
    unfold Instr.findNow posK
    rw [h0]
    simp only [Instr.sameNow]
    have hcomm : (s == k) = (k == s) := by rw [Bool.eq_iff_iff, beq_iff_eq, beq_iff_eq]; exact eq_comm
    rw [ba_beq', hcomm]
    cases hc : k == s with
    | true => simp
    | false =>
      simp only [cond_false]
      rw [findNow_pos s ks es (i + 1) (by simpa using h) fun j k' e' h1 h2 => hk (j + 1) k' e' (by simpa using h1) (by simpa using h2)]
      cases posK ks s with
      | none => rfl
      | some j => simp; cases es[j]? <;> simp; omega

section
variable {cx : Cx} {Fb : Nat → Nat → Prop} {β : List Loc} {st : St} {a : Act} {w : World}

theorem k_isStr (hok : cx.ok = true) {k : Nat} (h : (cx.kind k).isStr = true) : cx.prog.underlying k = some .string := by
  cases hk : cx.kind k <;> rw [hk] at h <;> first | (cases h; done) | skip
  exact (k_str hok hk).1
/-- A datum as one value. -/
theorem boxOf_rel {objs : List AObj} {N : Nat → Nat → Prop} {t : Ty} {d : T t} {c : AVal} {v : Value} (hc : RelV β objs w N c v) (hd : RelL β objs w N (cells t d) v.cells) (hok : okCells c = true) (hm : aggV c = t.many) :
    RelV β objs w N (boxOf t d) v := by
  unfold boxOf
  cases hmt : t.many with
  | true =>
    rw [hmt] at hm
    simp only [cond_true]
    cases c <;> first | (simp [aggV] at hm; done) | skip
    cases hc with | agg hl hr => exact .agg hd.1 hd.2
  | false =>
    rw [hmt] at hm
    simp only [cond_false]
    have hs : c.scalar = true := by cases c <;> first | (simp [aggV] at hm; done) | exact hok
    have e1 : v.cells = #[v] := by
      have := (valCells_rel hc hok).1.1
      have hvc : valCells c = [c] := by cases c <;> first | rfl | (simp [aggV] at hm; done)
      cases v <;> first | rfl | skip
      cases hc <;> first | (simp [aggV] at hm; done) | (simp [AVal.scalar] at hs; done) | (rename_i one _; simp [Value.oneCell'] at one; done) | (rename_i one; simp [Value.oneCell'] at one; done)
    obtain ⟨x, hx⟩ : ∃ x, cells t d = [x] := by
      have : (cells t d).length = 1 := by rw [hd.1, e1]; rfl
      match cells t d, this with
      | [x], _ => exact ⟨x, rfl⟩
    rw [hx] at hd ⊢
    exact hd.2 0 x v rfl (by rw [e1]; rfl)
theorem zeroA_run (hok : cx.ok = true) {e : Nat} {z : AVal} (h : zeroA (cx.kind e) = some z) : ∃ v, (∀ w, (zeroValue e).run cx.prog w = .ok v w) ∧ ∀ (objs : List AObj) (w : World) (N : Nat → Nat → Prop), RelV β objs w N z v := by
  have one : oneB cx.prog e z = true → ∃ v, (∀ w, (zeroValue e).run cx.prog w = .ok v w) ∧ ∀ (objs : List AObj) (w : World) (N : Nat → Nat → Prop), RelV β objs w N z v := fun h => by
    obtain ⟨i, v, hi, hs, hz, h1, h2⟩ := k_one h
    exact ⟨v, fun w => run_zeroValue' hi hz w, fun objs w N => zeroB_rel h1⟩
  cases hk : cx.kind e <;> rw [hk] at h <;> first | (cases h; done) | skip
  · cases h; exact one (k_int hok hk).2
  · cases h; exact one (k_bool hok hk).2
  · cases h; exact one (k_str hok hk).2
  · cases h
    obtain ⟨_, ⟨i, zz, hi, hs, hz, hzz, hzs, hss⟩, _⟩ := k_st hok hk
    refine ⟨.agg zz, fun w => run_zeroValue' hi hz w, fun objs w N => ?_⟩
    have hl := (zerosB_len hzz).1
    exact .agg (by simpa using hl) fun i c v hc hv => zeroB_rel ((zerosB_len hzz).2 i c v hc (by simpa using hv))

theorem Rel.newOne (h : Rel cx Fb β st a w) (hFb : ∀ b off, Fb b off → b < w.heap.size) (o : AObj) (ob : Go.Obj)
    (hrel : ∀ (β' : List Loc) (objs' : List AObj) (w' : World) (N' : Nat → Nat → Prop), w'.heap[w.heap.size]? = some ob → ObjRel cx β' objs' w' N' o (.at w.heap.size 0)) :
    Adv β st.objs w (β ++ [.at w.heap.size 0]) (st.objs ++ [o]) { w with heap := w.heap.push ob } ∧ Rel cx Fb (β ++ [.at w.heap.size 0]) (st.push [o]) a { w with heap := w.heap.push ob } := by
  have hb : ∀ (i b cap : Nat), [Loc.at w.heap.size 0][i]? = some (.at b cap) → i = 0 ∧ b = w.heap.size := by
    intro i b cap hi
    cases i with
    | zero => simp at hi; exact ⟨rfl, hi.1.symm⟩
    | succ i => simp at hi
  refine ⟨h.push_adv (Grow.push _ _) _ _ rfl (fun i b cap hi => by have := (hb i b cap hi).2; omega), (h.push (Grow.push _ _) _ _ rfl hFb (fun i b cap hi => by have := (hb i b cap hi).2; omega) (fun i j b c c' hi hj => by rw [(hb _ _ _ hi).1, (hb _ _ _ hj).1]) fun G i o' l ho hl => ?_).2⟩
  cases i with
  | zero =>
    simp only [List.getElem?_cons_zero, Option.some.injEq] at ho hl
    subst ho; subst hl
    exact hrel _ _ _ _ (by simp)
  | succ i => simp at ho
theorem makeMap_op (h : Rel cx Fb β st a w) (hFb : ∀ b off, Fb b off → b < w.heap.size) {R : Type} {κ : St → Option R} {r : R} {K : Act → World → Prop} {Q : Exit → Act → World → Prop} {ro : Option Nat} {n : Nat} {o : Oper}
    (hK : After cx Fb β st a w κ r K) {t : Nat} {x : Option Operand} (hop : o.op = .makeMap t x) (O : Orc cx) (hr : aop cx O o st κ = some r) : o.wpIn (FW ro) n cx.prog a w K Q := by
  cases x with
  | some x => simp only [aop, aopV, hop] at hr; cases hr
  | none =>
    simp only [aop, aopV, hop] at hr
    split at hr
    · rename_i kt vt _ _ hk
      obtain ⟨A, R⟩ := h.newOne hFb (.mp kt vt [] []) (.map #[] 0) fun β' objs' w' N' hb => ⟨_, _, #[], 0, rfl, hb, rfl, rfl, by simp⟩
      exact wp_value (by simp [hop]) (v := .map (some w.heap.size)) (by simp [execOp, hop, Instr.makeMap, newObj, Sem.run]) (hK.moved A R hr (.map (cap := 0) (by simp [← h.len])))
    · cases hr
theorem range_op (hok : cx.ok = true) (h : Rel cx Fb β st a w) (hFb : ∀ b off, Fb b off → b < w.heap.size) {R : Type} {κ : St → Option R} {r : R} {K : Act → World → Prop} {Q : Exit → Act → World → Prop} {ro : Option Nat} {n : Nat} {o : Oper}
    (hK : After cx Fb β st a w κ r K) {t : Nat} {x : Operand} (hop : o.op = .range t x) (O : Orc cx) (hr : aop cx O o st κ = some r) : o.wpIn (FW ro) n cx.prog a w K Q := by
  have hx := h.ev x
  simp only [aop, aopV, hop] at hr
  split at hr
  · rename_i s hk e
    rw [e] at hx
    generalize hv : a.eval x = v at hx
    cases hx
    obtain ⟨A, R⟩ := h.newOne hFb (.sit s 0) (.stringIter ⟨s.toArray⟩ 0) fun β' objs' w' N' hb => ⟨_, _, rfl, hb⟩
    exact wp_value (by simp [hop]) (v := .pointer (some ⟨w.heap.size, 0, none⟩)) (by simp [execOp, hop, hv, Instr.range, run_underlying' (k_str hok hk).1, newObj, Sem.run]) (hK.moved A R hr (.it (cap := 0) (by simp [← h.len])))
  · cases hr
/-- An object that is no row of cells is changed. -/
theorem putAt_keep {b : Nat} (o : Obj) (hlt : b < w.heap.size) (hn : ∀ vs e fr, w.heap[b]? ≠ some (.cells vs e fr)) {W : Nat → Nat → Prop} (hW : ∀ off, W b off) : Keep W w (w.putObj b o) := by
  refine ⟨rfl, rfl, rfl, by simp [World.putObj], fun b' hb' hw => World.putObj_heap_other fun e => ?_, fun b' vs e fr hb' => ⟨vs, ?_, rfl, fun _ _ => rfl⟩⟩
  · subst e; exact hw 0 (hW 0)
  · rw [World.putObj_heap_other]
    · exact hb'
    · intro e; subst e; exact hn _ _ _ hb'
theorem putAt_recs {b : Nat} (o : Obj) (hn : ∀ L, w.heap[b]? ≠ some (.loop L)) : Recs w (w.putObj b o) := fun b' L hb => by
  refine ⟨L, ?_, rfl⟩
  rw [World.putObj_heap_other]
  · exact hb
  · intro e; subst e; exact hn _ hb
theorem next_op (h : Rel cx Fb β st a w) {R : Type} {κ : St → Option R} {r : R} {K : Act → World → Prop} {Q : Exit → Act → World → Prop} {ro : Option Nat} {n : Nat} {o : Oper}
    (hK : After cx Fb β st a w κ r K) {x : Operand} {str : Bool} (hop : o.op = .next x str) (O : Orc cx) (hr : aop cx O o st κ = some r) : o.wpIn (FW ro) n cx.prog a w K Q := by
  cases str with
  | false => simp only [aop, aopV, hop] at hr; cases hr
  | true =>
    have hx := h.ev x
    simp only [aop, aopV, hop] at hr
    split at hr
    · rename_i id e
      rw [e] at hx
      generalize hv : a.eval x = v at hx
      cases hx with | it hβ =>
      rename_i b cap
      split at hr
      · rename_i s pos ho
        have ho' := objAt_some ho rfl
        obtain ⟨b', cap', hl, hb⟩ := h.obj id _ _ ho' hβ
        cases hl
        have hsz : (⟨s.toArray⟩ : ByteArray).size = s.length := by simp [ByteArray.size]
        rw [cond_eq_ite] at hr
        split at hr
        · rename_i hlt
          have hlt : pos < s.length := by simpa using hlt
          obtain ⟨A, R⟩ := h.setObj (o' := .sit s (pos + runeW s pos)) (w' := w.putObj b (.stringIter ⟨s.toArray⟩ (pos + runeW s pos))) ho' hβ rfl (fun _ _ h => h) (putAt_keep _ (lt_of_get hb) (by rw [hb]; simp) fun _ => rfl)
            (fun b' hne _ => World.putObj_heap_other hne) (putAt_recs _ (by rw [hb]; simp)) (by simp) (by simp) fun G => ⟨b, cap, rfl, World.putObj_heap_same (lt_of_get hb)⟩
          refine wp_value (by simp [hop]) (v := .tuple #[.bool true, goInt pos, .int .i32 (runeC s pos)]) ?_ (hK.moved A R hr (.tup rfl fun i c v hc hv => ?_))
          · simp [execOp, hop, hv, Instr.next, getObj, setObj, Sem.run, hb, hsz, hlt, World.putObj, runeC, runeW]
          · match i with
            | 0 => cases hc; cases hv; exact .bool _
            | 1 => cases hc; cases hv; exact .int (by simp)
            | 2 => cases hc; cases hv; exact .int (by simp)
            | i + 3 => simp at hc
        · rename_i hlt
          have hlt : ¬ pos < s.length := by simpa using hlt
          refine wp_value (by simp [hop]) (v := .tuple #[.bool false]) ?_ (hK.same h hr (.tup rfl fun i c v hc hv => ?_))
          · simp [execOp, hop, hv, Instr.next, getObj, Sem.run, hb, hsz, hlt]
          · match i with
            | 0 => cases hc; cases hv; exact .bool _
            | i + 1 => simp at hc
      · cases hr
    · cases hr
theorem checkKey_str {P : Program} {k : Nat} (hk : P.underlying k = some .string) (e : Bool) (n : Nat) (s : ByteArray) (w : World) : (Instr.checkKey e (n + 1) k (.string s)).run P w = .ok () w := by
  unfold Instr.checkKey
  simp [run_underlying' hk]
theorem findKey_str {P : Program} {k : Nat} (hk : P.underlying k = some .string) {s : ByteArray} {es : List MapEntry} {r : Option (Nat × Value)} (hf : Instr.findNow .string (.string s) es 0 = some r) (w : World) : (Instr.findKey k (.string s) es).run P w = .ok r w := by
  simp [Instr.findKey, run_underlying' hk, hf]
theorem run_lookup {P : Program} {t k e b clk : Nat} {es : Array MapEntry} {s : ByteArray} {r : Option (Nat × Value)} {z : Value} (hu : P.underlying t = some (.map k e)) (hk : P.underlying k = some .string) (hb : w.heap[b]? = some (.map es clk))
    (hf : Instr.findNow .string (.string s) es.toList 0 = some r) (hz : (zeroValue e).run P w = .ok z w) (ok : Bool) :
    (Instr.lookup t (.map (some b)) (.string s) ok).run P w = .ok (if ok then .tuple #[(r.map (·.2)).getD z, .bool r.isSome] else (r.map (·.2)).getD z) w := by
  have h1 : ∀ e', (Instr.checkKey e' 10000 k (.string s)).run P w = .ok () w := fun e' => checkKey_str hk e' 9999 s w
  unfold Instr.lookup
  cases r with
  | none => simp [run_underlying' hu, getObj, Sem.run, hb, h1, findKey_str hk hf, hz]
  | some r => obtain ⟨i, v⟩ := r; simp [run_underlying' hu, getObj, Sem.run, hb, h1, findKey_str hk hf]
theorem run_lookup_nil {P : Program} {t k e : Nat} {s : ByteArray} {z : Value} (hu : P.underlying t = some (.map k e)) (hk : P.underlying k = some .string) (hz : (zeroValue e).run P w = .ok z w) (ok : Bool) :
    (Instr.lookup t (.map none) (.string s) ok).run P w = .ok (if ok then .tuple #[z, .bool false] else z) w := by
  have h1 : ∀ e', (Instr.checkKey e' 10000 k (.string s)).run P w = .ok () w := fun e' => checkKey_str hk e' 9999 s w
  have hf : Instr.findNow .string (.string s) [] 0 = some none := rfl
  unfold Instr.lookup
  simp [run_underlying' hu, h1, findKey_str hk hf, hz]
theorem run_update_new {P : Program} {t k e b clk : Nat} {es : Array MapEntry} {s : ByteArray} {v : Value} (hu : P.underlying t = some (.map k e)) (hk : P.underlying k = some .string) (hb : w.heap[b]? = some (.map es clk))
    (hf : Instr.findNow .string (.string s) es.toList 0 = some none) :
    (Instr.mapUpdate t (.map (some b)) (.string s) v).run P w = .ok () (w.putObj b (.map (es.push { key := .string s, val := v, born := clk }) (clk + 1))) := by
  have h1 : ∀ e', (Instr.checkKey e' 10000 k (.string s)).run P w = .ok () w := fun e' => checkKey_str hk e' 9999 s w
  unfold Instr.mapUpdate
  simp [run_underlying' hu, getObj, setObj, Sem.run, hb, h1, findKey_str hk hf, World.putObj]
theorem run_update_old {P : Program} {t k e b clk j : Nat} {es : Array MapEntry} {s : ByteArray} {v u : Value} {en : MapEntry} (hu : P.underlying t = some (.map k e)) (hk : P.underlying k = some .string) (hb : w.heap[b]? = some (.map es clk))
    (hf : Instr.findNow .string (.string s) es.toList 0 = some (some (j, u))) (he : es[j]? = some en) (hkey : en.key = .string s) :
    (Instr.mapUpdate t (.map (some b)) (.string s) v).run P w = .ok () (w.putObj b (.map (es.modify j fun e => { e with key := .string s, val := v }) clk)) := by
  have h1 : ∀ e', (Instr.checkKey e' 10000 k (.string s)).run P w = .ok () w := fun e' => checkKey_str hk e' 9999 s w
  have h2 : (Instr.keyThatStays (.string s) (.string s)).run P w = .ok (.string s) w := by
    have hss : (s == s) = true := by
      have := ba_beq' s.data.toList s.data.toList
      simpa using this
    simp [Instr.keyThatStays, Instr.sameBits, hss]
  unfold Instr.mapUpdate
  simp [run_underlying' hu, getObj, setObj, Sem.run, hb, h1, findKey_str hk hf, World.putObj, he, hkey, h2]
theorem keys_of {objs : List AObj} {N : Nat → Nat → Prop} {ks : List Bytes} {es : Array MapEntry} {vt : Ty} {vs : List (T vt)} (h1 : ks.length = es.size) (h2 : vs.length = es.size)
    (h3 : ∀ (i : Nat) (k : T .str) (v : T vt) (e : MapEntry), ks[i]? = some k → vs[i]? = some v → es[i]? = some e → RelV β objs w N (boxOf .str k) e.key ∧ RelV β objs w N (boxOf vt v) e.val) :
    ∀ (j : Nat) (k : Bytes) (e : MapEntry), ks[j]? = some k → es.toList[j]? = some e → e.key = .string ⟨k.toArray⟩ := by
  intro j k e hk he
  have hj : j < vs.length := by rw [h2, ← h1]; exact (List.getElem?_eq_some_iff.1 hk).1
  have := (h3 j k vs[j] e hk (by simp [hj]) (by simpa using he)).1
  have this : RelV β objs w N (.str k) e.key := this
  generalize e.key = v at this
  cases this
  rfl
theorem lookup_op (hok : cx.ok = true) (h : Rel cx Fb β st a w) {R : Type} {κ : St → Option R} {r : R} {K : Act → World → Prop} {Q : Exit → Act → World → Prop} {ro : Option Nat} {n : Nat} {o : Oper}
    (hK : After cx Fb β st a w κ r K) {t : Nat} {x y : Operand} {ok : Bool} (hop : o.op = .lookup t x y ok) (O : Orc cx) (hr : aop cx O o st κ = some r) : o.wpIn (FW ro) n cx.prog a w K Q := by
  have hx := h.ev x
  have hy := h.ev y
  simp only [aop, aopV, hop] at hr
  split at hr
  · rename_i vt kk e s hk hi
    obtain ⟨d, hd, hr⟩ := Option.bind_eq_some_iff.1 hr
    obtain ⟨z, hz, hd⟩ := Option.bind_eq_some_iff.1 hd
    rw [cond_eq_ite] at hd
    split at hd
    · rename_i hc
      simp only [Bool.and_eq_true, beq_iff_eq] at hc
      obtain ⟨hm, hks⟩ := hc
      have hks := k_isStr hok hks
      have hu := (k_mp hok hk).1
      obtain ⟨zv, hzr, hzrel⟩ := zeroA_run (β := []) hok hz
      have hE : Rel cx (NN Fb β st.objs) [] { tmps := [], objs := [] } { tmps := #[], defers := [] } w := ⟨⟨rfl, by simp⟩, rfl, by simp, by simp, by simp⟩
      have hdr : RelV β st.objs w (NN Fb β st.objs) (boxOf vt d) zv :=
        (boxOf_rel (hzrel _ _ _) (toDatum_rel hE (hzrel _ _ _) hd (fun id _ => fun t sh xs hh => by simp at hh) (toDatum_ok hd)) (toDatum_ok hd) hm).boxData (fun _ _ _ h => h) fun _ _ _ h => .inl h
      rw [hi] at hy
      generalize hyv : a.eval y = yv at hy
      cases hy
      have fin : ∀ (q : AVal) (b : Bool) (v : Value), (Instr.lookup t (a.eval x) (.string ⟨s.toArray⟩) ok).run cx.prog w = .ok (if ok then .tuple #[v, .bool b] else v) w → RelV β st.objs w (NN Fb β st.objs) q v →
          κ (st.put o.dst (bif ok then .tup [q, .bool b] else q)) = some r → o.wpIn (FW ro) n cx.prog a w K Q := by
        intro q b v hrun hq hr
        refine wp_value (by simp [hop]) (by simp only [execOp, hop, hyv, hrun, Sem.run_bind, Result.andThen_ok]; rfl) (hK.same h hr ?_)
        cases ok with
        | false => exact hq
        | true =>
          refine .tup rfl fun i c v' hc hv => ?_
          match i with
          | 0 => cases hc; cases hv; exact hq
          | 1 => cases hc; cases hv; exact .bool _
          | i + 2 => simp at hc
      split at hr
      · rename_i id ex
        rw [ex] at hx
        generalize hxv : a.eval x = xv at hx
        cases hx with | map hβ =>
        split at hr
        · rename_i vt' ks0 vs ho
          obtain ⟨ks, hk0⟩ : ∃ ks : List Bytes, ks = ks0 := ⟨ks0, rfl⟩
          subst hk0
          split at hr
          · rename_i e1
            subst e1
            obtain ⟨b', cap', es, clk, hl, hb, h1, h2, h3⟩ := h.obj id _ _ (objAt_some ho rfl) hβ
            cases hl
            have h1 : List.length (α := Bytes) ks = es.size := h1
            have hf := findNow_pos s ks es.toList 0 (by simpa using h1) (keys_of h1 h2 h3)
            have hrun := run_lookup (P := cx.prog) hu hks hb hf (hzr w) ok
            rw [← hxv] at hrun
            have hlen : List.length (α := Bytes) ks = vs.length := h1.trans h2.symm
            have key : RelV β st.objs w (NN Fb β st.objs) (boxOf vt' (lookM ks vs s d)) ((((posK ks s).bind fun j => (es.toList[j]?).map fun e => (0 + j, e.val)).map (·.2)).getD zv) ∧ hasK ks s = ((posK ks s).bind fun j => (es.toList[j]?).map fun e => (0 + j, e.val)).isSome := by
              have q1 := lookM_pos ks vs s d hlen
              have q2 := hasK_pos ks s
              rw [q1, q2]
              cases hp : posK ks s with
              | none => exact ⟨hdr, rfl⟩
              | some j =>
                have hj := (List.getElem?_eq_some_iff.1 (posK_lt hp)).1
                have hjv : j < vs.length := by rw [← hlen]; exact hj
                have hje : j < es.size := by rw [← h2]; exact hjv
                have := (h3 j s vs[j] es[j] (posK_lt hp) (by simp [hjv]) (by simp [hje])).2
                refine ⟨?_, by simp [hje]⟩
                have e1 : vs[j]? = some vs[j] := by simp [hjv]
                have e2 : es.toList[j]? = some es[j] := by simp [hje]
                simp only [Option.bind_some, e1, e2, Option.map_some, Option.getD_some]
                exact this
            exact fin _ _ _ hrun key.1 (by rw [← key.2]; exact hr)
          · cases hr
        · cases hr
      · rename_i ex
        rw [ex] at hx
        generalize hxv : a.eval x = xv at hx
        cases hx
        have hrun := run_lookup_nil (P := cx.prog) (w := w) (s := ⟨s.toArray⟩) hu hks (hzr w) ok
        rw [← hxv] at hrun
        exact fin _ _ _ hrun hdr hr
      · cases hr
    · cases hd
  · cases hr
theorem mapUpdate_op (hok : cx.ok = true) (h : Rel cx Fb β st a w) {R : Type} {κ : St → Option R} {r : R} {K : Act → World → Prop} {Q : Exit → Act → World → Prop} {ro : Option Nat} {n : Nat} {o : Oper}
    (hK : After cx Fb β st a w κ r K) {t : Nat} {m y x : Operand} (hop : o.op = .mapUpdate t m y x) (O : Orc cx) (hr : aop cx O o st κ = some r) : o.wpIn (FW ro) n cx.prog a w K Q := by
  have hm := h.ev m
  have hy := h.ev y
  simp only [aop, aopV, hop] at hr
  split at hr
  · rename_i vt kk e id s hk hi hj
    rw [cond_eq_ite] at hr
    split at hr
    · rename_i hc
      simp only [Bool.and_eq_true, beq_iff_eq] at hc
      obtain ⟨hmany, hks⟩ := hc
      have hks := k_isStr hok hks
      have hu := (k_mp hok hk).1
      obtain ⟨v, hd, hr⟩ := Option.bind_eq_some_iff.1 hr
      rw [hj] at hy
      generalize hyv : a.eval y = yv at hy
      cases hy
      rw [hi] at hm
      generalize hmv : a.eval m = mv at hm
      cases hm with | map hβ =>
      rename_i b cap
      obtain ⟨A1, R1⟩ := h.shareV (st.ev x)
      obtain ⟨s1, s2, s3⟩ := shareV_shared st.objs (st.ev x)
      have hev : RelV β (shareV st.objs (st.ev x)) w (NN Fb β (shareV st.objs (st.ev x))) (st.ev x) (a.eval x) := by
        have := R1.ev x
        cases x <;> exact this
      have hbox := boxOf_rel hev (toDatum_rel R1 hev hd (fun id hid => s2 id hid) (toDatum_ok hd)) (toDatum_ok hd) hmany
      generalize hobjs : shareV st.objs (st.ev x) = objs1 at *
      split at hr
      · rename_i vt' ks0 vs ho
        obtain ⟨ks, hk0⟩ : ∃ ks : List Bytes, ks = ks0 := ⟨ks0, rfl⟩
        subst hk0
        split at hr
        · rename_i e1
          subst e1
          have ho' := objAt_some ho rfl
          obtain ⟨b', cap', es, clk, hl, hb, h1, h2, h3⟩ := R1.obj id _ _ ho' hβ
          cases hl
          have h1 : List.length (α := Bytes) ks = es.size := h1
          have hf := findNow_pos s ks es.toList 0 (by simpa using h1) (keys_of h1 h2 h3)
          have hlen : List.length (α := Bytes) ks = vs.length := h1.trans h2.symm
          have fin : ∀ (es' : Array MapEntry) (clk' : Nat), (Instr.mapUpdate t (.map (some b)) (.string ⟨s.toArray⟩) (a.eval x)).run cx.prog w = .ok () (w.putObj b (.map es' clk')) →
              List.length (α := Bytes) (putK ks s) = es'.size → (putV ks vs s v).length = es'.size →
              (∀ (i : Nat) (k : Bytes) (u : T vt') (e : MapEntry), (putK ks s)[i]? = some k → (putV ks vs s v)[i]? = some u → es'[i]? = some e → e.key = .string ⟨k.toArray⟩ ∧ RelV β objs1 w (NN Fb β objs1) (boxOf vt' u) e.val) → o.wpIn (FW ro) n cx.prog a w K Q := by
            intro es' clk' hrun g1 g2 g3
            obtain ⟨A, R⟩ := R1.setObj (o' := .mp .str vt' (putK ks s) (putV ks vs s v)) (w' := w.putObj b (.map es' clk')) ho' hβ rfl (fun _ _ h => h) (putAt_keep _ (lt_of_get hb) (by rw [hb]; simp) fun _ => rfl)
              (fun b' hne _ => World.putObj_heap_other hne) (putAt_recs _ (by rw [hb]; simp)) (by simp) (by simp) fun G => ⟨b, cap, es', clk', rfl, World.putObj_heap_same (lt_of_get hb), g1, g2, fun i k u e x1 x2 x3 => by
                obtain ⟨y1, y2⟩ := g3 i k u e x1 x2 x3
                rw [y1]
                exact ⟨.str _, y2.goes G⟩⟩
            exact wp_skip (hd := by simp [hop]) (by simp [execOp, hop, hmv, hyv, hrun]) (hK.moved (A1.trans A) R hr relV_undef)
          cases hp : posK ks s with
          | none =>
            rw [hp] at hf
            have e1 : putK ks s = ks ++ [s] := by rw [putK_pos, hp]
            have e2 : putV ks vs s v = vs ++ [v] := by rw [putV_pos ks vs s v hlen, hp]
            refine fin _ _ (run_update_new (P := cx.prog) hu hks hb hf) (by rw [e1, List.length_append, h1]; simp) (by rw [e2]; simp [h2]) fun i k u e x1 x2 x3 => ?_
            rw [e1] at x1
            rw [e2] at x2
            rw [Array.getElem?_push] at x3
            by_cases hi' : i = es.size
            · rw [if_pos hi'] at x3
              cases x3
              rw [List.getElem?_append_right (by rw [h1]; omega)] at x1
              rw [List.getElem?_append_right (by rw [h2]; omega)] at x2
              have z1 : i - ks.length = 0 := by rw [h1]; omega
              have z2 : i - vs.length = 0 := by rw [h2]; omega
              rw [z1] at x1; rw [z2] at x2
              cases x1; cases x2
              exact ⟨rfl, hbox⟩
            · rw [if_neg hi'] at x3
              have hlt := lt_of_get x3
              rw [List.getElem?_append_left (by rw [h1]; omega)] at x1
              rw [List.getElem?_append_left (by rw [h2]; omega)] at x2
              exact ⟨keys_of h1 h2 h3 i k e x1 (by simpa using x3), (h3 i k u e x1 x2 x3).2⟩
          | some j =>
            have hj0 := (List.getElem?_eq_some_iff.1 (posK_lt hp)).1
            have hjv : j < vs.length := by rw [← hlen]; exact hj0
            have hje : j < es.size := by rw [← h2]; exact hjv
            have hen : es[j]? = some es[j] := by simp [hje]
            have hkey := keys_of h1 h2 h3 j s es[j] (posK_lt hp) (by simp [hje])
            rw [hp] at hf
            have e1 : putK ks s = ks := by rw [putK_pos, hp]
            have e2 : putV ks vs s v = vs.set j v := by rw [putV_pos ks vs s v hlen, hp]
            have hf' : Instr.findNow .string (.string ⟨s.toArray⟩) es.toList 0 = some (some (j, es[j].val)) := by
              rw [hf]
              have e2 : es.toList[j]? = some es[j] := by simp [hje]
              simp only [Option.bind_some, e2, Option.map_some, Nat.zero_add]
            refine fin _ _ (run_update_old (P := cx.prog) hu hks hb hf' hen hkey) (by rw [e1, h1]; simp) (by rw [e2]; simp [h2]) fun i k u e x1 x2 x3 => ?_
            rw [e1] at x1
            rw [e2] at x2
            rw [Array.getElem?_modify] at x3
            rcases getElem?_set_some x2 with ⟨rfl, rfl, _⟩ | ⟨hne, x2⟩
            · rw [if_pos rfl, hen] at x3
              cases x3
              have : k = s := by
                have := posK_lt hp
                rw [x1] at this; exact Option.some.inj this
              subst this
              exact ⟨rfl, hbox⟩
            · rw [if_neg hne] at x3
              exact ⟨keys_of h1 h2 h3 i k e x1 (by simpa using x3), (h3 i k u e x1 x2 x3).2⟩
        · cases hr
      · cases hr
    · cases hr
  · cases hr
end
end Go.Ev
