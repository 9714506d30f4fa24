/-
  THE EVALUATOR, PART 34: the arguments, as the statements read them.
-/
import Derived.Test.YtpkhhaolkfaoaaaHpEwF
import GoSem.ClaimChange
set_option linter.unusedVariables false
set_option linter.unusedSimpArgs false
set_option linter.unusedSectionVars false
namespace Go.Ev

inductive CT
  | int (k : IntKind) | bool | str | sl (t : Ty)
  deriving DecidableEq
def ctOf : Ty → List CT
  | .u8 => [.int .u8]
  | .int k => [.int k]
  | .bool => [.bool]
  | .str => [.str]
  | .list t => [.sl t]
  | .val => [.int .i64, .int .i64, .str]
  | .fld => [.str, .int .i64]
  | .sch => [.str, .sl .fld]
  | .evt => [.str, .int .i64, .sl .val]
  | .pat => [.int .i64, .str, .str, .int .i64, .int .i64, .sl .pat]
  | .itm => [.str, .int .i64, .str, .str]
  | .bnd => [.int .i64, .str]
  | .mat => [.sl .bnd]
  | .tok => [.int .i64, .str, .int .i64]
  | .nte => [.sl (.int .i64), .int .i64]
  | .use => [.str, .str, .int .i64]
  | .exp => [.int .i64, .int .i64, .int .i64, .str, .str, .str, .sl .exp]
  | .qry => [.int .i64, .str, .str, .int .i64, .int .i64, .sl .pat, .sl .exp, .str, .int .i64, .int .i64, .sl .itm]
  | .mov => [.str, .str, .int .i64, .str, .str, .int .i64, .int .i64, .sl .pat]
def CT.T : CT → Type
  | .int _ => Int
  | .bool => Bool
  | .str => Bytes
  | .sl t => List (Ev.T t)
def CT.av : (c : CT) → c.T → AVal
  | .int k, n => .int k n
  | .bool, b => .bool b
  | .str, s => .str s
  | .sl t, xs => .sl t false xs
def Has (ct : CT) (c : AVal) : Prop := ∃ x : ct.T, c = ct.av x
theorem has_ex {ct : CT} {c : AVal} (h : Has ct c) : ∃ x : ct.T, c = ct.av x := h
def tyBytes : Ty → Nat
  | .u8 => 1
  | .int k => k.bits / 8
  | .bool => 1
  | .str => 16
  | .list _ => 24
  | .val => 32 | .fld => 24 | .sch => 40 | .evt => 48 | .exp => 96 | .pat => 80 | .itm => 56 | .qry => 160
  | .bnd => 24 | .mat => 24 | .tok => 32 | .mov => 112 | .nte => 32 | .use => 40
inductive Good : AVal → Prop
  | int {k : IntKind} {n : Int} (h : (Lit.int k n).wf = true) : Good (.int k n)
  | bool (b : Bool) : Good (.bool b)
  | str {s : Bytes} (h : s.length ≤ reachBytes) : Good (.str s)
  | sl {t : Ty} {xs : List (T t)} (h : xs.length ≤ maxLen) (hb : xs.length * tyBytes t ≤ reachBytes) (he : ∀ x ∈ xs, ∀ c ∈ cells t x, Good c) : Good (.sl t false xs)

theorem mkT (t : Ty) (cs : List AVal) (hl : cs.length = (ctOf t).length) (h : ∀ (i : Nat) ct c, (ctOf t)[i]? = some ct → cs[i]? = some c → Has ct c) (hg : ∀ c ∈ cs, Good c) : ∃ x : T t, cells t x = cs := by
  cases t with
  | u8 =>
    rcases cs with _ | ⟨c0, _ | ⟨c1, _⟩⟩ <;> simp [ctOf] at hl
    obtain ⟨n, rfl⟩ : ∃ n : Int, c0 = .int .u8 n := has_ex (h 0 _ _ rfl rfl)
    have hw := hg _ (List.mem_cons_self ..)
    have hw : 0 ≤ n ∧ n < 256 := by
      cases hw with | int hw =>
      simp [Lit.wf, IntKind.signed, IntKind.min, IntKind.max, IntKind.bits] at hw
      omega
    refine ⟨(UInt8.ofNat (Int.toNat n) : UInt8), ?_⟩
    have : ((UInt8.ofNat (Int.toNat n)).toNat : Int) = n := by simp; omega
    simp only [cells]
    rw [this]
  | int k =>
    rcases cs with _ | ⟨c0, _ | ⟨c1, _⟩⟩ <;> simp [ctOf] at hl
    obtain ⟨x0, rfl⟩ := has_ex (h 0 _ _ rfl rfl)
    exact ⟨x0, rfl⟩
  | bool =>
    rcases cs with _ | ⟨c0, _ | ⟨c1, _⟩⟩ <;> simp [ctOf] at hl
    obtain ⟨x0, rfl⟩ := has_ex (h 0 _ _ rfl rfl)
    exact ⟨x0, rfl⟩
  | str =>
    rcases cs with _ | ⟨c0, _ | ⟨c1, _⟩⟩ <;> simp [ctOf] at hl
    obtain ⟨x0, rfl⟩ := has_ex (h 0 _ _ rfl rfl)
    exact ⟨x0, rfl⟩
  | list t =>
    rcases cs with _ | ⟨c0, _ | ⟨c1, _⟩⟩ <;> simp [ctOf] at hl
    obtain ⟨x0, rfl⟩ := has_ex (h 0 _ _ rfl rfl)
    exact ⟨x0, rfl⟩
  | val =>
    rcases cs with _ | ⟨c0, _ | ⟨c1, _ | ⟨c2, _ | ⟨c3, _⟩⟩⟩⟩ <;> simp [ctOf] at hl
    obtain ⟨x0, rfl⟩ := has_ex (h 0 _ _ rfl rfl)
    obtain ⟨x1, rfl⟩ := has_ex (h 1 _ _ rfl rfl)
    obtain ⟨x2, rfl⟩ := has_ex (h 2 _ _ rfl rfl)
    exact ⟨(⟨x0, x1, x2⟩ : Val), rfl⟩
  | fld =>
    rcases cs with _ | ⟨c0, _ | ⟨c1, _ | ⟨c2, _⟩⟩⟩ <;> simp [ctOf] at hl
    obtain ⟨x0, rfl⟩ := has_ex (h 0 _ _ rfl rfl)
    obtain ⟨x1, rfl⟩ := has_ex (h 1 _ _ rfl rfl)
    exact ⟨(⟨x0, x1⟩ : Fld), rfl⟩
  | sch =>
    rcases cs with _ | ⟨c0, _ | ⟨c1, _ | ⟨c2, _⟩⟩⟩ <;> simp [ctOf] at hl
    obtain ⟨x0, rfl⟩ := has_ex (h 0 _ _ rfl rfl)
    obtain ⟨x1, rfl⟩ := has_ex (h 1 _ _ rfl rfl)
    exact ⟨(⟨x0, x1⟩ : Sch), rfl⟩
  | evt =>
    rcases cs with _ | ⟨c0, _ | ⟨c1, _ | ⟨c2, _ | ⟨c3, _⟩⟩⟩⟩ <;> simp [ctOf] at hl
    obtain ⟨x0, rfl⟩ := has_ex (h 0 _ _ rfl rfl)
    obtain ⟨x1, rfl⟩ := has_ex (h 1 _ _ rfl rfl)
    obtain ⟨x2, rfl⟩ := has_ex (h 2 _ _ rfl rfl)
    exact ⟨(⟨x0, x1, x2⟩ : Evt), rfl⟩
  | pat =>
    rcases cs with _ | ⟨c0, _ | ⟨c1, _ | ⟨c2, _ | ⟨c3, _ | ⟨c4, _ | ⟨c5, _ | ⟨c6, _⟩⟩⟩⟩⟩⟩⟩ <;> simp [ctOf] at hl
    obtain ⟨x0, rfl⟩ := has_ex (h 0 _ _ rfl rfl)
    obtain ⟨x1, rfl⟩ := has_ex (h 1 _ _ rfl rfl)
    obtain ⟨x2, rfl⟩ := has_ex (h 2 _ _ rfl rfl)
    obtain ⟨x3, rfl⟩ := has_ex (h 3 _ _ rfl rfl)
    obtain ⟨x4, rfl⟩ := has_ex (h 4 _ _ rfl rfl)
    obtain ⟨x5, rfl⟩ := has_ex (h 5 _ _ rfl rfl)
    exact ⟨(⟨x0, x1, x2, x3, x4, x5⟩ : Pat), rfl⟩
  | itm =>
    rcases cs with _ | ⟨c0, _ | ⟨c1, _ | ⟨c2, _ | ⟨c3, _ | ⟨c4, _⟩⟩⟩⟩⟩ <;> simp [ctOf] at hl
    obtain ⟨x0, rfl⟩ := has_ex (h 0 _ _ rfl rfl)
    obtain ⟨x1, rfl⟩ := has_ex (h 1 _ _ rfl rfl)
    obtain ⟨x2, rfl⟩ := has_ex (h 2 _ _ rfl rfl)
    obtain ⟨x3, rfl⟩ := has_ex (h 3 _ _ rfl rfl)
    exact ⟨(⟨x0, x1, x2, x3⟩ : Itm), rfl⟩
  | bnd =>
    rcases cs with _ | ⟨c0, _ | ⟨c1, _ | ⟨c2, _⟩⟩⟩ <;> simp [ctOf] at hl
    obtain ⟨x0, rfl⟩ := has_ex (h 0 _ _ rfl rfl)
    obtain ⟨x1, rfl⟩ := has_ex (h 1 _ _ rfl rfl)
    exact ⟨(⟨x0, x1⟩ : Bnd), rfl⟩
  | mat =>
    rcases cs with _ | ⟨c0, _ | ⟨c1, _⟩⟩ <;> simp [ctOf] at hl
    obtain ⟨x0, rfl⟩ := has_ex (h 0 _ _ rfl rfl)
    exact ⟨(⟨x0⟩ : Mat), rfl⟩
  | tok =>
    rcases cs with _ | ⟨c0, _ | ⟨c1, _ | ⟨c2, _ | ⟨c3, _⟩⟩⟩⟩ <;> simp [ctOf] at hl
    obtain ⟨x0, rfl⟩ := has_ex (h 0 _ _ rfl rfl)
    obtain ⟨x1, rfl⟩ := has_ex (h 1 _ _ rfl rfl)
    obtain ⟨x2, rfl⟩ := has_ex (h 2 _ _ rfl rfl)
    exact ⟨(⟨x0, x1, x2⟩ : Tok), rfl⟩
  | nte =>
    rcases cs with _ | ⟨c0, _ | ⟨c1, _ | ⟨c2, _⟩⟩⟩ <;> simp [ctOf] at hl
    obtain ⟨x0, rfl⟩ := has_ex (h 0 _ _ rfl rfl)
    obtain ⟨x1, rfl⟩ := has_ex (h 1 _ _ rfl rfl)
    exact ⟨(⟨x0, x1⟩ : Nte), rfl⟩
  | use =>
    rcases cs with _ | ⟨c0, _ | ⟨c1, _ | ⟨c2, _ | ⟨c3, _⟩⟩⟩⟩ <;> simp [ctOf] at hl
    obtain ⟨x0, rfl⟩ := has_ex (h 0 _ _ rfl rfl)
    obtain ⟨x1, rfl⟩ := has_ex (h 1 _ _ rfl rfl)
    obtain ⟨x2, rfl⟩ := has_ex (h 2 _ _ rfl rfl)
    exact ⟨(⟨x0, x1, x2⟩ : Use), rfl⟩
  | exp =>
    rcases cs with _ | ⟨c0, _ | ⟨c1, _ | ⟨c2, _ | ⟨c3, _ | ⟨c4, _ | ⟨c5, _ | ⟨c6, _ | ⟨c7, _⟩⟩⟩⟩⟩⟩⟩⟩ <;> simp [ctOf] at hl
    obtain ⟨x0, rfl⟩ := has_ex (h 0 _ _ rfl rfl)
    obtain ⟨x1, rfl⟩ := has_ex (h 1 _ _ rfl rfl)
    obtain ⟨x2, rfl⟩ := has_ex (h 2 _ _ rfl rfl)
    obtain ⟨x3, rfl⟩ := has_ex (h 3 _ _ rfl rfl)
    obtain ⟨x4, rfl⟩ := has_ex (h 4 _ _ rfl rfl)
    obtain ⟨x5, rfl⟩ := has_ex (h 5 _ _ rfl rfl)
    obtain ⟨x6, rfl⟩ := has_ex (h 6 _ _ rfl rfl)
    exact ⟨(⟨x0, ⟨x1, x2, x3⟩, x4, x5, x6⟩ : Exp), rfl⟩
  | qry =>
    rcases cs with _ | ⟨c0, _ | ⟨c1, _ | ⟨c2, _ | ⟨c3, _ | ⟨c4, _ | ⟨c5, _ | ⟨c6, _ | ⟨c7, _ | ⟨c8, _ | ⟨c9, _ | ⟨c10, _ | ⟨c11, _⟩⟩⟩⟩⟩⟩⟩⟩⟩⟩⟩⟩ <;> simp [ctOf] at hl
    obtain ⟨x0, rfl⟩ := has_ex (h 0 _ _ rfl rfl)
    obtain ⟨x1, rfl⟩ := has_ex (h 1 _ _ rfl rfl)
    obtain ⟨x2, rfl⟩ := has_ex (h 2 _ _ rfl rfl)
    obtain ⟨x3, rfl⟩ := has_ex (h 3 _ _ rfl rfl)
    obtain ⟨x4, rfl⟩ := has_ex (h 4 _ _ rfl rfl)
    obtain ⟨x5, rfl⟩ := has_ex (h 5 _ _ rfl rfl)
    obtain ⟨x6, rfl⟩ := has_ex (h 6 _ _ rfl rfl)
    obtain ⟨x7, rfl⟩ := has_ex (h 7 _ _ rfl rfl)
    obtain ⟨x8, rfl⟩ := has_ex (h 8 _ _ rfl rfl)
    obtain ⟨x9, rfl⟩ := has_ex (h 9 _ _ rfl rfl)
    obtain ⟨x10, rfl⟩ := has_ex (h 10 _ _ rfl rfl)
    exact ⟨(⟨⟨x0, x1, x2, x3, x4, x5⟩, x6, x7, x8, x9, x10⟩ : Qry), rfl⟩
  | mov =>
    rcases cs with _ | ⟨c0, _ | ⟨c1, _ | ⟨c2, _ | ⟨c3, _ | ⟨c4, _ | ⟨c5, _ | ⟨c6, _ | ⟨c7, _ | ⟨c8, _⟩⟩⟩⟩⟩⟩⟩⟩⟩ <;> simp [ctOf] at hl
    obtain ⟨x0, rfl⟩ := has_ex (h 0 _ _ rfl rfl)
    obtain ⟨x1, rfl⟩ := has_ex (h 1 _ _ rfl rfl)
    obtain ⟨x2, rfl⟩ := has_ex (h 2 _ _ rfl rfl)
    obtain ⟨x3, rfl⟩ := has_ex (h 3 _ _ rfl rfl)
    obtain ⟨x4, rfl⟩ := has_ex (h 4 _ _ rfl rfl)
    obtain ⟨x5, rfl⟩ := has_ex (h 5 _ _ rfl rfl)
    obtain ⟨x6, rfl⟩ := has_ex (h 6 _ _ rfl rfl)
    obtain ⟨x7, rfl⟩ := has_ex (h 7 _ _ rfl rfl)
    exact ⟨(⟨x0, x1, ⟨x2, x3, x4, x5, x6, x7⟩⟩ : Mov), rfl⟩

/-! ### The table of types, once more -/
def flatF (g : Nat → Option (List CT)) (sz : Nat) : Nat → List (Nat × Nat) → Option (List CT)
  | off, [] => if off = sz then some [] else none
  | off, (o, t) :: fs => if o = off then (g t).bind fun a => (flatF g sz (off + a.length) fs).bind fun b => some (a ++ b) else none
def flatK (cx : Cx) : Nat → Nat → Option (List CT)
  | 0, _ => none
  | n + 1, t => match cx.kind t with
    | .int k => some [.int k]
    | .bool => some [.bool]
    | .str => some [.str]
    | .sl ty _ _ _ => some [.sl ty]
    | .st fs sz _ _ _ => flatF (flatK cx n) sz 0 fs
    | _ => none
def dataB (cx : Cx) : Bool := (List.range cx.kinds.length).all fun t => match cx.kind t with
  | .sl ty e _ bytes => decide (flatK cx 20 e = some (ctOf ty)) && bytes == tyBytes ty
  | _ => true
theorem dataB_get {cx : Cx} (h : dataB cx = true) {t e sz bytes : Nat} {ty : Ty} (hk : cx.kind t = .sl ty e sz bytes) : flatK cx 20 e = some (ctOf ty) ∧ bytes = tyBytes ty := by
  unfold dataB at h
  rw [List.all_eq_true] at h
  by_cases ht : t < cx.kinds.length
  · have := h t (by simpa using ht)
    rw [hk] at this
    simp only [Bool.and_eq_true, decide_eq_true_eq, beq_iff_eq] at this
    exact this
  · have : cx.kind t = .other := by unfold Cx.kind; rw [List.getElem?_eq_none (by omega)]; rfl
    rw [this] at hk; cases hk

theorem ctOf_length (t : Ty) : (ctOf t).length = t.size := by cases t <;> rfl

theorem mapM_some {α γ : Type} {f : α → Option γ} : ∀ {l : List α} {r : List γ}, l.mapM f = some r → r.length = l.length ∧ ∀ (i : Nat) x, l[i]? = some x → ∃ y, f x = some y ∧ r[i]? = some y
  | [], r, h => by simp at h; subst h; exact ⟨rfl, by simp⟩
  | x :: l, r, h => by
    simp only [List.mapM_cons, Option.bind_eq_bind, Option.pure_def] at h
    obtain ⟨y, hy, h⟩ := Option.bind_eq_some_iff.1 h
    obtain ⟨r', hr, h⟩ := Option.bind_eq_some_iff.1 h
    cases h
    obtain ⟨h1, h2⟩ := mapM_some hr
    refine ⟨by simp [h1], fun i z hz => ?_⟩
    cases i with
    | zero => simp at hz; subst hz; exact ⟨y, hy, rfl⟩
    | succ i => simpa using h2 i z (by simpa using hz)
theorem choose_list {α : Type} {p : Nat → α → Prop} : ∀ (n : Nat), (∀ i, i < n → ∃ x, p i x) → ∃ xs : List α, xs.length = n ∧ ∀ (i : Nat) x, xs[i]? = some x → p i x
  | 0, _ => ⟨[], rfl, by simp⟩
  | n + 1, h => by
    obtain ⟨xs, h1, h2⟩ := choose_list n fun i hi => h i (by omega)
    obtain ⟨x, hx⟩ := h n (by omega)
    refine ⟨xs ++ [x], by simp [h1], fun i y hy => ?_⟩
    rcases getElem?_append_some hy with h3 | ⟨h3, h4⟩
    · exact h2 i y h3
    · have : i = n := by
        have := (List.getElem?_eq_some_iff.1 h4).1; simp at this; omega
      subst this
      rw [h1] at h4; simp at h4; subst h4; exact hx

def N0 : Nat → Nat → Prop := NN (fun _ _ => False) [] []
theorem not_N0 (b off : Nat) : ¬ N0 b off := by
  rintro (h | ⟨i, o, l, h, _⟩)
  · exact h
  · simp at h
/-- How much there is: every value and every letter, down to a depth. -/
def bulkN : Nat → AVal → Nat
  | 0, _ => 0
  | n + 1, v => match v with
    | .str s => s.length + 1
    | .sl t _ xs => 1 + (xs.map fun x => ((cells t x).map (bulkN n)).sum).sum
    | _ => 1
/-- What a count of a reading's values and letters keeps. -/
structure BulkLaws {H : Type} (β : DataW H → Nat) (βs : List (DataW H) → Nat) : Prop where
  nil : βs [] = 0
  cons : ∀ d r, βs (d :: r) = β d + βs r
  one : ∀ d, 1 ≤ β d
  str : ∀ b, β (.lit (.string b)) = b.length + 1
  slice : ∀ a b, β (.slice a b) = βs a + βs b + 1
  agg : ∀ a, β (.agg a) = βs a + 1
theorem BulkLaws.single {H : Type} {β : DataW H → Nat} {βs : List (DataW H) → Nat} (h : BulkLaws β βs) (d : DataW H) : βs [d] = β d := by rw [h.cons, h.nil]; rfl
/-- Cells as the reading of an argument shows them. -/
structure Shown {H : Type} (w : World) (ds : List (DataW H)) (cts : List CT) (cs : List AVal) (vs : List Value) : Prop where
  len : cs.length = cts.length
  has : ∀ (i : Nat) ct c, cts[i]? = some ct → cs[i]? = some c → Has ct c
  rel : RelL [] [] w N0 cs vs.toArray
  good : ∀ c ∈ cs, Good c
  bulk : ∀ (β : DataW H → Nat) (βs : List (DataW H) → Nat), BulkLaws β βs → ∀ m, (cs.map (bulkN m)).sum ≤ βs ds
theorem Shown.one {H : Type} {w : World} {d : DataW H} {ct : CT} {c : AVal} {v : Value} (h : Has ct c) (hr : RelV [] [] w N0 c v) (hg : Good c) (hb : ∀ (β : DataW H → Nat) (βs : List (DataW H) → Nat), BulkLaws β βs → ∀ m, bulkN m c ≤ β d) : Shown w [d] [ct] [c] [v] := by
  refine ⟨rfl, fun i ct' c' h1 h2 => ?_, ⟨rfl, fun i c' v' h1 h2 => ?_⟩, by simp; exact hg, fun β βs hl m => by rw [hl.single]; simpa using hb β βs hl m⟩
  · cases i with
    | zero => simp at h1 h2; subst h1; subst h2; exact h
    | succ i => simp at h1
  · cases i with
    | zero => simp at h1 h2; subst h1; subst h2; exact hr
    | succ i => simp at h1
theorem Shown.append {H : Type} {w : World} {d : DataW H} {es : List (DataW H)} {a b : List CT} {cs ds : List AVal} {vs us : List Value} (h : Shown w [d] a cs vs) (h' : Shown w es b ds us) : Shown w (d :: es) (a ++ b) (cs ++ ds) (vs ++ us) := by
  refine ⟨by simp [h.len, h'.len], fun i ct c h1 h2 => ?_, by simpa using h.rel.append h'.rel, fun c hc => ?_, fun β βs hl m => ?_⟩
  · rcases getElem?_append_some h1 with h3 | ⟨h3, h4⟩
    · have := (List.getElem?_eq_some_iff.1 h3).1
      rw [List.getElem?_append_left (by rw [h.len]; exact this)] at h2
      exact h.has i ct c h3 h2
    · rw [List.getElem?_append_right (by rw [h.len]; exact h3), h.len] at h2
      exact h'.has _ ct c h4 h2
  · rcases List.mem_append.1 hc with hc | hc
    · exact h.good c hc
    · exact h'.good c hc
  · have h1 := h.bulk β βs hl m
    have h2 := h'.bulk β βs hl m
    rw [hl.single] at h1
    rw [hl.cons, List.map_append, List.sum_append]
    omega
theorem bulk_one {m : Nat} {c : AVal} (h : ∀ s, c ≠ .str s) (h' : ∀ t f xs, c ≠ .sl t f xs) : bulkN m c ≤ 1 := by
  cases m with
  | zero => simp [bulkN]
  | succ m =>
    cases c with
    | str s => exact absurd rfl (h s)
    | sl t f xs => exact absurd rfl (h' t f xs)
    | _ => simp [bulkN]

section
variable {cx : Cx} {H : Type} {enc : TypeId × Value → H} {w : World} {sp : Nat → Bool} {held : Bool}

theorem weightsAll_mem {P : Program} {e : TypeId} : ∀ {ds : List (DataW H)} {d : DataW H}, d ∈ ds → ∀ n ∈ d.weights P e, n ∈ DataW.weightsAll P e ds
  | d0 :: ds, d, h, n, hn => by
    rw [DataW.weightsAll]
    rcases List.mem_cons.1 h with rfl | h
    · exact List.mem_append_left _ hn
    · exact List.mem_append_right _ (weightsAll_mem h n hn)
theorem bulk_sum {α π : Type} {β : DataW H → Nat} {βs : List (DataW H) → Nat} (hl : BulkLaws β βs) (g : α → Nat) : ∀ (xs : List α) (ys : List (DataW H × π)), xs.length = ys.length → (∀ (i : Nat) x, xs[i]? = some x → ∃ y, ys[i]? = some y ∧ g x ≤ β y.1) → (xs.map g).sum ≤ βs (ys.map (·.1))
  | [], [], _, _ => by simp [hl.nil]
  | x :: xs, y :: ys, h, h' => by
    have h1 := bulk_sum hl g xs ys (by simpa using h) fun i z hz => by simpa using h' (i + 1) z (by simpa using hz)
    obtain ⟨y', h2, h3⟩ := h' 0 x rfl
    simp at h2; subst h2
    rw [List.map_cons, List.map_cons, List.sum_cons, hl.cons]
    omega
  | [], _ :: _, h, _ => by simp at h
  | _ :: _, [], h, _ => by simp at h
theorem trod_slice (hok : cx.ok = true) {fuel t e sz bytes : Nat} {ty : Ty} (hk : cx.kind t = .sl ty e sz bytes) (hby : bytes = tyBytes ty) {vs : List Value} {d : DataW H} {ps : List MemPlace} (hwt : ∀ n ∈ d.weights cx.prog t, n ≤ reachBytes)
    (ih : ∀ (vs : List Value) (d : DataW H) (ps : List MemPlace), (∀ n ∈ d.weights cx.prog e, n ≤ reachBytes) → DataW.trod enc cx.prog w 0 sp held fuel e vs = some (d, ps) → ∃ cs, Shown w [d] (ctOf ty) cs vs)
    (h : DataW.trod enc cx.prog w 0 sp held (fuel + 1) t vs = some (d, ps)) : ∃ cs, Shown w [d] [.sl ty] cs vs := by
  obtain ⟨hu, _, i, z, hi, hsz, hsz2, hib, _⟩ := k_sl hok hk
  have hbytes : cx.prog.bytesOf e = tyBytes ty := by simp [Program.bytesOf, hi, hib, hby]
  have hcell : cx.prog.cellsOf e = ty.size := by simp [Program.cellsOf, hi, hsz, hsz2]
  have cells?_get : ∀ {a : Addr} {n : Nat} {us : List Value}, w.cells? 0 a n = some us → us.length = n ∧ ∀ j, j < n → w.cell? (a.add j) = us[j]? := by
    intro a n us hc
    unfold World.cells? at hc
    rw [if_pos (Nat.zero_le _)] at hc
    obtain ⟨h1, h2⟩ := mapM_some hc
    refine ⟨by simpa using h1, fun j hj => ?_⟩
    obtain ⟨y, hy, hy2⟩ := h2 j j (by simp [hj])
    rw [hy, hy2]
  unfold DataW.trod at h
  rw [hu] at h
  split at h <;> first | (rename_i heq _; cases heq; done) | (rename_i heq; cases heq; done) | skip
  all_goals first | (cases h; done) | skip
  · exact ⟨[.sl ty false []], .one ⟨[], rfl⟩ (.sl0 _ _) (.sl (by simp) (by simp) (by simp)) fun β βs hl m => Nat.le_trans (by cases m <;> simp [bulkN]) (hl.one _)⟩
  · rename_i e' a len cap heq
    cases heq
    simp only at h
    split at h
    · rename_i hc
      obtain ⟨elems, hel, h⟩ := Option.bind_eq_some_iff.1 h
      obtain ⟨h1, h2⟩ := mapM_some hel
      obtain ⟨rest, _, hd⟩ := Option.map_eq_some_iff.1 h
      simp only [Prod.mk.injEq] at hd
      obtain ⟨hd, _⟩ := hd
      subst hd
      rw [DataW.weights, hu] at hwt
      simp only at hwt
      have hlen : len * tyBytes ty ≤ reachBytes := by
        have := hwt _ (List.mem_cons_self ..)
        rw [hbytes] at this
        simp only [List.length_map, h1, List.length_range] at this
        exact Nat.le_trans (Nat.mul_le_mul_right _ (Nat.le_add_right _ _)) this
      have elem : ∀ i, i < len → ∃ x : T ty, ((∀ c ∈ cells ty x, Good c) ∧ ∃ y, elems[i]? = some y ∧ ∀ (β : DataW H → Nat) (βs : List (DataW H) → Nat), BulkLaws β βs → ∀ m, ((cells ty x).map (bulkN m)).sum ≤ β y.1) ∧ ∀ (j : Nat) c, (cells ty x)[j]? = some c → ∃ v, w.cell? (a.add (i * ty.size + j)) = some v ∧ RelV [] [] w N0 c v := by
        intro i hi
        obtain ⟨y, hy, hy2⟩ := h2 i i (by simp [hi])
        obtain ⟨us, hus, hy⟩ := Option.bind_eq_some_iff.1 hy
        obtain ⟨cs, S⟩ := ih us y.1 y.2 (fun n hn => hwt n (List.mem_cons_of_mem _ (List.mem_append_left _ (weightsAll_mem (List.mem_map.2 ⟨y, List.mem_of_getElem? hy2, rfl⟩) n hn)))) hy
        obtain ⟨x, hx⟩ := mkT ty cs S.len S.has S.good
        obtain ⟨l1, l2⟩ := cells?_get hus
        rw [hcell] at l1 l2
        refine ⟨x, ⟨by rw [hx]; exact S.good, y, hy2, fun β βs hl m => by rw [hx, ← hl.single]; exact S.bulk β βs hl m⟩, fun j c hc => ?_⟩
        rw [hx] at hc
        have hj : j < us.length := by have := S.rel.1; simp at this; rw [← this]; exact (List.getElem?_eq_some_iff.1 hc).1
        have := l2 j (by omega)
        rw [add_add] at this
        exact ⟨us[j], by rw [this]; simp [hj], S.rel.2 j c _ hc (by simp [hj])⟩
      obtain ⟨xs, x1, x2⟩ := choose_list len elem
      refine ⟨[.sl ty false xs], .one (ct := .sl ty) ⟨xs, rfl⟩ ?_ (.sl (by omega) (by rw [x1]; exact hlen) fun x hx c hc => ?_) ?_⟩
      · rw [← x1]
        refine .sl (fun j => (w.cell? (a.add j)).getD undef) (by omega) (by simp) (fun j hj => ⟨?_, not_N0 _ _⟩) fun i x j c hx hc => ?_
        · have hs := ty.size_pos
          have hi : j / ty.size < xs.length := Nat.div_lt_of_lt_mul (by rw [Nat.mul_comm]; exact hj)
          have hm : j % ty.size < (cells ty xs[j / ty.size]).length := by rw [cells_length]; exact Nat.mod_lt _ hs
          obtain ⟨v, hv, _⟩ := (x2 (j / ty.size) xs[j / ty.size] (by simp [hi])).2 (j % ty.size) _ (by simp [hm]; rfl)
          have e1 : j / ty.size * ty.size + j % ty.size = j := by rw [Nat.mul_comm]; exact Nat.div_add_mod j ty.size
          rw [e1] at hv
          rw [hv]; rfl
        · obtain ⟨v, hv, hr⟩ := (x2 i x hx).2 j c hc
          rw [hv]; exact hr
      · obtain ⟨i, hi, rfl⟩ := List.getElem_of_mem hx
        exact (x2 i _ (by simp [hi])).1.1 c hc
      · intro β βs hl m
        rw [hl.slice]
        cases m with
        | zero => simp [bulkN]
        | succ m =>
          have := bulk_sum hl (fun x => ((cells ty x).map (bulkN m)).sum) xs elems (by rw [x1, h1]; simp) fun i x hx => by
            obtain ⟨y, hy, hy'⟩ := (x2 i x hx).1.2
            exact ⟨y, hy, hy' β βs hl m⟩
          simp only [bulkN]
          omega
    · cases h
end
end Go.Ev
