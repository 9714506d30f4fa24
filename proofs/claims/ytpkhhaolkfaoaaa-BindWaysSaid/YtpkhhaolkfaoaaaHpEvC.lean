/-
  THE EVALUATOR, PART 3: how abstract values, objects and states stand for those of the model; what a step of the model must keep.
-/
import Derived.Test.YtpkhhaolkfaoaaaHpEvB
import Derived.Below
namespace Go.Ev

/-- Where an object lies: nowhere (a nil slice), or in a block (of a row: its capacity). -/
inductive Loc
  | nil | at (b cap : Nat)

def ownVal : Loc → Nat → Value
  | .nil, _ => .slice none 0 0
  | .at b cap, n => .slice (some ⟨b, 0, none⟩) n cap

/-- May the cell be written by whoever has the object? -/
def wrO : AObj → Loc → Nat → Nat → Prop
  | .dead, _, _, _ => False
  | .arr t sh xs, .at b' _, b, off => b = b' ∧ (sh = true → xs.length * t.size ≤ off)
  | _, .at b' _, b, _ => b = b'
  | _, .nil, _, _ => False
def Wr (β : List Loc) (objs : List AObj) (b off : Nat) : Prop := ∃ (i : Nat) (o : AObj) (l : Loc), objs[i]? = some o ∧ β[i]? = some l ∧ wrO o l b off
def NN (Fb : Nat → Nat → Prop) (β : List Loc) (objs : List AObj) (b off : Nat) : Prop := Fb b off ∨ Wr β objs b off

section
variable (β : List Loc) (objs : List AObj) (w : World) (N : Nat → Nat → Prop)
/-- An abstract value stands for a value. -/
inductive RelV : AVal → Value → Prop
  | undef (v : Value) : RelV .undef v
  | int {k : IntKind} {n : Int} (h : k = .u8 → 0 ≤ n ∧ n < 256) : RelV (.int k n) (.int k n)
  | bool (b : Bool) : RelV (.bool b) (.bool b)
  | str (s : Bytes) : RelV (.str s) (.string ⟨s.toArray⟩)
  | nils : RelV .nils (.slice none 0 0)
  | sl0 (t : Ty) (full : Bool) : RelV (.sl t full []) (.slice none 0 0)
  | sl {t : Ty} {full : Bool} {xs : List (T t)} {ad : Addr} {cap : Nat} (val : Nat → Value) (hcap : xs.length ≤ cap) (hfull : full = true → cap = xs.length)
      (hc : ∀ j : Nat, j < xs.length * t.size → w.cell? (ad.add j) = some (val j) ∧ ¬ N ad.block (ad.off + j))
      (hr : ∀ (i : Nat) (x : T t) (j : Nat) (c : AVal), xs[i]? = some x → (cells t x)[j]? = some c → RelV c (val (i * t.size + j))) : RelV (.sl t full xs) (.slice (some ad) xs.length cap)
  | own {id : Nat} {v : Value} (hid : id < β.length) (one : v.oneCell' = true) (h : ∀ t sh xs l, objs[id]? = some (.arr t sh xs) → β[id]? = some l → v = ownVal l xs.length) : RelV (.own id) v
  | ptr {id off b cap : Nat} (h : β[id]? = some (.at b cap)) : RelV (.ptr id off) (.pointer (some ⟨b, off, none⟩))
  | nilp : RelV .nilp (.pointer none)
  | ref {cs : List AVal} {ad : Addr} (val : Nat → Value) (hc : ∀ j : Nat, j < cs.length → w.cell? (ad.add j) = some (val j) ∧ ¬ N ad.block (ad.off + j))
      (hr : ∀ (j : Nat) (c : AVal), cs[j]? = some c → RelV c (val j)) : RelV (.ref cs) (.pointer (some ad))
  | aref {id i off : Nat} {v : Value} (hid : id < β.length) (one : v.oneCell' = true)
      (h : ∀ t sh xs l, objs[id]? = some (.arr t sh xs) → β[id]? = some l → ∃ b cap, l = .at b cap ∧ v = .pointer (some ⟨b, i * t.size + off, none⟩)) : RelV (.aref id i off) v
  | agg {cs : List AVal} {vs : Array Value} (hl : cs.length = vs.size) (hr : ∀ (i : Nat) (c : AVal) (v : Value), cs[i]? = some c → vs[i]? = some v → RelV c v) : RelV (.agg cs) (.agg vs)
  | tup {cs : List AVal} {vs : Array Value} (hl : cs.length = vs.size) (hr : ∀ (i : Nat) (c : AVal) (v : Value), cs[i]? = some c → vs[i]? = some v → RelV c v) : RelV (.tup cs) (.tuple vs)
  | clo {f : Nat} {cs : List AVal} {vs : Array Value} (hl : cs.length = vs.size) (hr : ∀ (i : Nat) (c : AVal) (v : Value), cs[i]? = some c → vs[i]? = some v → RelV c v) : RelV (.clo f cs) (.func (.func f) #[] vs)
  | nilf : RelV .nilf .nilFunc
  | map {id b cap : Nat} (h : β[id]? = some (.at b cap)) : RelV (.map id) (.map (some b))
  | nilm : RelV .nilm (.map none)
  | yld {id l cap : Nat} (h : β[id]? = some (.at l cap)) : RelV (.yld id) (.func (.yield l) #[] #[])
  | it {id b cap : Nat} (h : β[id]? = some (.at b cap)) : RelV (.it id) (.pointer (some ⟨b, 0, none⟩))
end

/-- What is kept: cells outside W, of blocks that lay. -/
structure Keep (W : Nat → Nat → Prop) (w w' : World) : Prop where
  os : w'.os = w.os
  tape : w'.tape = w.tape
  output : w'.output = w.output
  size : w.heap.size ≤ w'.heap.size
  blk : ∀ b : Nat, b < w.heap.size → (∀ off, ¬ W b off) → w'.heap[b]? = w.heap[b]?
  cell : ∀ (b : Nat) vs e fr, w.heap[b]? = some (.cells vs e fr) → ∃ vs', w'.heap[b]? = some (.cells vs' e fr) ∧ vs'.size = vs.size ∧ ∀ off, ¬ W b off → vs'[off]? = vs[off]?

theorem Keep.refl (W : Nat → Nat → Prop) (w : World) : Keep W w w := ⟨rfl, rfl, rfl, Nat.le_refl _, fun _ _ _ => rfl, fun _ vs _ _ h => ⟨vs, h, rfl, fun _ _ => rfl⟩⟩
theorem lt_of_get {α : Type} {a : Array α} {i : Nat} {x : α} (h : a[i]? = some x) : i < a.size := (Array.getElem?_eq_some_iff.1 h).1
theorem Keep.trans {W W' W0 : Nat → Nat → Prop} {w w1 w2 : World} (h : Keep W w w1) (h' : Keep W' w1 w2) (hW : ∀ b off, W b off → W0 b off) (hW' : ∀ b off, b < w.heap.size → W' b off → W0 b off) : Keep W0 w w2 := by
  refine ⟨h'.os.trans h.os, h'.tape.trans h.tape, h'.output.trans h.output, Nat.le_trans h.size h'.size, fun b hb hn => ?_, fun b vs e fr hb => ?_⟩
  · rw [h'.blk b (Nat.lt_of_lt_of_le hb h.size) (fun off ho => hn off (hW' b off hb ho)), h.blk b hb (fun off ho => hn off (hW b off ho))]
  · obtain ⟨vs1, h1, s1, c1⟩ := h.cell b vs e fr hb
    obtain ⟨vs2, h2, s2, c2⟩ := h'.cell b vs1 e fr h1
    exact ⟨vs2, h2, s2.trans s1, fun off hn => (c2 off fun ho => hn (hW' b off (lt_of_get hb) ho)).trans (c1 off fun ho => hn (hW b off ho))⟩
theorem Keep.mono {W W0 : Nat → Nat → Prop} {w w1 : World} (h : Keep W w w1) (hW : ∀ b off, b < w.heap.size → W b off → W0 b off) : Keep W0 w w1 :=
  (Keep.refl (fun _ _ => False) w).trans h (fun _ _ h => h.elim) hW
theorem Keep.below {W : Nat → Nat → Prop} {w w1 : World} (h : Keep W w w1) (hW : ∀ b off, b < w.heap.size → ¬ W b off) : Go.RowKit.Below w.heap.size w w1 :=
  ⟨h.os, h.tape, h.output, h.size, fun b hb => h.blk b hb fun off => hW b off hb⟩
theorem cell?_some {w : World} {ad : Addr} {v : Value} : w.cell? ad = some v ↔ ∃ vs e fr, w.heap[ad.block]? = some (.cells vs e fr) ∧ ad.spot = none ∧ vs[ad.off]? = some v := by
  unfold World.cell?
  constructor
  · intro h
    split at h
    · rename_i c e fr hb
      split at h
      · cases h
      · rename_i hs
        exact ⟨c, e, fr, hb, by simpa using hs, h⟩
    · cases h
  · rintro ⟨vs, e, fr, hb, hs, hv⟩
    simp [hb, hs, hv]
theorem Keep.cell? {W : Nat → Nat → Prop} {w w1 : World} (h : Keep W w w1) {ad : Addr} {v : Value} (hn : ¬ W ad.block ad.off) (hv : w.cell? ad = some v) : w1.cell? ad = some v := by
  obtain ⟨vs, e, fr, hb, hs, hv⟩ := cell?_some.1 hv
  obtain ⟨vs', h1, _, h3⟩ := h.cell _ _ _ _ hb
  exact cell?_some.2 ⟨vs', e, fr, h1, hs, (h3 _ hn).trans hv⟩
theorem add_block (ad : Addr) (j : Nat) : (ad.add j).block = ad.block := by unfold Addr.add; split <;> rfl
theorem add_off (ad : Addr) (j : Nat) : (ad.add j).off = ad.off + j := by unfold Addr.add; split <;> simp_all

/-- What a change of the surroundings must keep, for what is said of values to go on. -/
structure Goes (β β' : List Loc) (objs objs' : List AObj) (w w' : World) (N N' : Nat → Nat → Prop) : Prop where
  loc : ∀ (i : Nat) (l : Loc), β[i]? = some l → β'[i]? = some l
  arr : ∀ (i : Nat) t sh xs, i < β.length → objs'[i]? = some (.arr t sh xs) → ∃ sh0 xs0, objs[i]? = some (.arr t sh0 xs0) ∧ xs0.length = xs.length
  cell : ∀ ad v, ¬ N ad.block ad.off → w.cell? ad = some v → w'.cell? ad = some v
  data : ∀ ad v, w.cell? ad = some v → N' ad.block ad.off → N ad.block ad.off

theorem lt_of_loc {β : List Loc} {i : Nat} {l : Loc} (h : β[i]? = some l) : i < β.length := (List.getElem?_eq_some_iff.1 h).1
theorem Goes.cell' {β β' : List Loc} {objs objs' : List AObj} {w w' : World} {N N' : Nat → Nat → Prop} (g : Goes β β' objs objs' w w' N N') {ad : Addr} {j : Nat} {v : Value}
    (h : w.cell? (ad.add j) = some v ∧ ¬ N ad.block (ad.off + j)) : w'.cell? (ad.add j) = some v ∧ ¬ N' ad.block (ad.off + j) := by
  have e : ¬ N (ad.add j).block (ad.add j).off := by rw [add_block, add_off]; exact h.2
  refine ⟨g.cell _ _ e h.1, fun hn => h.2 ?_⟩
  have := g.data (ad.add j) v h.1 (by rw [add_block, add_off]; exact hn)
  rwa [add_block, add_off] at this
theorem RelV.goes {β β' : List Loc} {objs objs' : List AObj} {w w' : World} {N N' : Nat → Nat → Prop} (g : Goes β β' objs objs' w w' N N') {a : AVal} {v : Value}
    (h : RelV β objs w N a v) : RelV β' objs' w' N' a v := by
  have loc' : ∀ (i : Nat) (l : Loc), i < β.length → β'[i]? = some l → β[i]? = some l := fun i l hi hl => by
    have := g.loc i β[i] (by simp [hi])
    rw [hl] at this
    simp at this
    simp [hi, this]
  induction h with
  | undef v => exact .undef v
  | int h => exact .int h
  | bool b => exact .bool b
  | str s => exact .str s
  | nils => exact .nils
  | sl0 t full => exact .sl0 t full
  | sl val hcap hfull hc _ ih => exact .sl val hcap hfull (fun j hj => g.cell' (hc j hj)) ih
  | own hid one h =>
    refine .own (Nat.lt_of_lt_of_le hid ?_) one fun t sh xs l ho hl => ?_
    · exact Nat.le_of_not_lt fun hlt => by
        have := lt_of_loc (g.loc (β.length - 1) β[β.length - 1] (by simp)); omega
    · obtain ⟨sh0, xs0, h1, h2⟩ := g.arr _ t sh xs hid ho
      rw [← h2]; exact h t sh0 xs0 l h1 (loc' _ _ hid hl)
  | ptr h => exact .ptr (g.loc _ _ h)
  | nilp => exact .nilp
  | ref val hc _ ih => exact .ref val (fun j hj => g.cell' (hc j hj)) ih
  | aref hid one h =>
    refine .aref (Nat.lt_of_lt_of_le hid ?_) one fun t sh xs l ho hl => ?_
    · exact Nat.le_of_not_lt fun hlt => by
        have := lt_of_loc (g.loc (β.length - 1) β[β.length - 1] (by simp)); omega
    · obtain ⟨sh0, xs0, h1, h2⟩ := g.arr _ t sh xs hid ho
      exact h t sh0 xs0 l h1 (loc' _ _ hid hl)
  | agg hl _ ih => exact .agg hl ih
  | tup hl _ ih => exact .tup hl ih
  | clo hl _ ih => exact .clo hl ih
  | nilf => exact .nilf
  | map h => exact .map (g.loc _ _ h)
  | nilm => exact .nilm
  | yld h => exact .yld (g.loc _ _ h)
  | it h => exact .it (g.loc _ _ h)

/-- Renumbered. -/
structure Ren (ρ : Nat → Option Nat) (β β' : List Loc) (objs objs' : List AObj) (w w' : World) (N N' : Nat → Nat → Prop) : Prop where
  loc : ∀ (i j : Nat) (l : Loc), ρ i = some j → β[i]? = some l → β'[j]? = some l
  arr : ∀ (i j : Nat) t sh xs, ρ i = some j → i < β.length → objs'[j]? = some (.arr t sh xs) → ∃ sh0 xs0, objs[i]? = some (.arr t sh0 xs0) ∧ xs0.length = xs.length
  cell : ∀ ad v, ¬ N ad.block ad.off → w.cell? ad = some v → w'.cell? ad = some v
  data : ∀ ad v, w.cell? ad = some v → N' ad.block ad.off → N ad.block ad.off
theorem Ren.cell' {ρ : Nat → Option Nat} {β β' : List Loc} {objs objs' : List AObj} {w w' : World} {N N' : Nat → Nat → Prop} (g : Ren ρ β β' objs objs' w w' N N') {ad : Addr} {j : Nat} {v : Value}
    (h : w.cell? (ad.add j) = some v ∧ ¬ N ad.block (ad.off + j)) : w'.cell? (ad.add j) = some v ∧ ¬ N' ad.block (ad.off + j) := by
  have e : ¬ N (ad.add j).block (ad.add j).off := by rw [add_block, add_off]; exact h.2
  refine ⟨g.cell _ _ e h.1, fun hn => h.2 ?_⟩
  have := g.data (ad.add j) v h.1 (by rw [add_block, add_off]; exact hn)
  rwa [add_block, add_off] at this
theorem getElem?_map_some {α γ : Type} {f : α → γ} {l : List α} {i : Nat} {y : γ} (h : (l.map f)[i]? = some y) : ∃ x, l[i]? = some x ∧ f x = y := by
  rw [List.getElem?_map] at h
  cases hx : l[i]? with
  | none => rw [hx] at h; cases h
  | some x => rw [hx] at h; exact ⟨x, rfl, by simpa using h⟩
/-- A datum's cells are renumbered to themselves. -/
def AVal.isData : AVal → Bool
  | .int _ _ | .bool _ | .str _ | .sl _ _ _ => true
  | _ => false
theorem cells_data (t : Ty) (x : T t) : ∀ c ∈ cells t x, c.isData = true := by
  cases t <;> simp [cells, AVal.isData]
theorem cells_length (t : Ty) (x : T t) : (cells t x).length = t.size := by cases t <;> rfl
theorem RelV.data {β β' : List Loc} {objs objs' : List AObj} {w w' : World} {N N' : Nat → Nat → Prop}
    (cell : ∀ ad v, ¬ N ad.block ad.off → w.cell? ad = some v → w'.cell? ad = some v) (data : ∀ ad v, w.cell? ad = some v → N' ad.block ad.off → N ad.block ad.off)
    {a : AVal} {v : Value} (h : RelV β objs w N a v) (hd : a.isData = true) : RelV β' objs' w' N' a v := by
  have g : Ren (fun _ => none) β β' objs objs' w w' N N' := ⟨fun _ _ _ h => (by cases h), fun _ _ _ _ _ h => (by cases h), cell, data⟩
  induction h with
  | int h => exact .int h
  | bool b => exact .bool b
  | str s => exact .str s
  | sl0 t full => exact .sl0 t full
  | sl val hcap hfull hc _ ih => exact .sl val hcap hfull (fun j hj => g.cell' (hc j hj)) fun i x j c hx hj => ih i x j c hx hj (cells_data _ x c (List.mem_of_getElem? hj))
  | _ => simp [AVal.isData] at hd

theorem RelV.boxData {β β' : List Loc} {objs objs' : List AObj} {w w' : World} {N N' : Nat → Nat → Prop}
    (cell : ∀ ad v, ¬ N ad.block ad.off → w.cell? ad = some v → w'.cell? ad = some v) (data : ∀ ad v, w.cell? ad = some v → N' ad.block ad.off → N ad.block ad.off)
    {t : Ty} {x : T t} {v : Value} (h : RelV β objs w N (boxOf t x) v) : RelV β' objs' w' N' (boxOf t x) v := by
  unfold boxOf at h ⊢
  cases hm : t.many with
  | true =>
    rw [hm] at h
    simp only [cond_true] at h ⊢
    generalize hcs : cells t x = cs at h
    cases h with | agg hl hr => exact .agg hl fun i c v hc hv => (hr i c v hc hv).data cell data (cells_data t x c (by rw [hcs]; exact List.mem_of_getElem? hc))
  | false =>
    rw [hm] at h
    simp only [cond_false] at h ⊢
    refine h.data cell data ?_
    cases t <;> first | rfl | (simp [Ty.many] at hm; done)

theorem RelV.ren {ρ : Nat → Option Nat} {β β' : List Loc} {objs objs' : List AObj} {w w' : World} {N N' : Nat → Nat → Prop} (g : Ren ρ β β' objs objs' w w' N N') :
    ∀ (n : Nat) {a : AVal} {v : Value}, RelV β objs w N a v → RelV β' objs' w' N' (renV n ρ a) v := by
  have lt : ∀ {i j : Nat}, ρ i = some j → i < β.length → j < β'.length := fun {i j} h hi => lt_of_loc (g.loc i j β[i] h (by simp [hi]))
  have loc' : ∀ (i j : Nat) (l : Loc), ρ i = some j → i < β.length → β'[j]? = some l → β[i]? = some l := fun i j l h hi hl => by
    have := g.loc i j β[i] h (by simp [hi])
    rw [hl] at this
    simp at this
    simp [hi, this]
  intro n
  induction n with
  | zero => exact fun _ => .undef _
  | succ n ih =>
    intro a v h
    have hd := @RelV.data β β' objs objs' w w' N N' g.cell g.data
    cases h with
    | undef v => exact .undef v
    | int h => exact .int h
    | bool b => exact .bool b
    | str s => exact .str s
    | nils => exact .nils
    | sl0 t full => exact .sl0 t full
    | sl val hcap hfull hc hr => exact hd (.sl val hcap hfull hc hr) rfl
    | own hid one h =>
      simp only [renV]
      rename_i id
      cases hρ : ρ id with
      | none => exact .undef _
      | some j =>
        refine .own (lt hρ hid) one fun t sh xs l ho hl => ?_
        obtain ⟨sh0, xs0, h1, h2⟩ := g.arr _ _ t sh xs hρ hid ho
        rw [← h2]; exact h t sh0 xs0 l h1 (loc' _ _ _ hρ hid hl)
    | ptr h =>
      simp only [renV]
      rename_i id off b cap
      cases hρ : ρ id with
      | none => exact .undef _
      | some j => exact .ptr (g.loc _ _ _ hρ h)
    | nilp => exact .nilp
    | ref val hc hr =>
      refine .ref val (fun j hj => g.cell' (hc j (by simpa using hj))) fun j c hj => ?_
      obtain ⟨x, hx, rfl⟩ := getElem?_map_some hj
      exact ih (hr j x hx)
    | aref hid one h =>
      simp only [renV]
      rename_i id i off
      cases hρ : ρ id with
      | none => exact .undef _
      | some j =>
        refine .aref (lt hρ hid) one fun t sh xs l ho hl => ?_
        obtain ⟨sh0, xs0, h1, h2⟩ := g.arr _ _ t sh xs hρ hid ho
        exact h t sh0 xs0 l h1 (loc' _ _ _ hρ hid hl)
    | agg hl hr =>
      refine .agg (by simpa using hl) fun i c v hc hv => ?_
      obtain ⟨x, hx, rfl⟩ := getElem?_map_some hc
      exact ih (hr i x v hx hv)
    | tup hl hr =>
      refine .tup (by simpa using hl) fun i c v hc hv => ?_
      obtain ⟨x, hx, rfl⟩ := getElem?_map_some hc
      exact ih (hr i x v hx hv)
    | clo hl hr =>
      refine .clo (by simpa using hl) fun i c v hc hv => ?_
      obtain ⟨x, hx, rfl⟩ := getElem?_map_some hc
      exact ih (hr i x v hx hv)
    | nilf => exact .nilf
    | map h =>
      simp only [renV]
      rename_i id b cap
      cases hρ : ρ id with
      | none => exact .undef _
      | some j => exact .map (g.loc _ _ _ hρ h)
    | nilm => exact .nilm
    | yld h =>
      simp only [renV]
      rename_i id b cap
      cases hρ : ρ id with
      | none => exact .undef _
      | some j => exact .yld (g.loc _ _ _ hρ h)
    | it h =>
      simp only [renV]
      rename_i id b cap
      cases hρ : ρ id with
      | none => exact .undef _
      | some j => exact .it (g.loc _ _ _ hρ h)
end Go.Ev
