/-
  THE EVALUATOR, PART 2: shapes of results, kinds of types, and the evaluator itself. No statement is proved here.
-/
import Derived.Test.YtpkhhaolkfaoaaaHpEvA
namespace Go.Ev

/-! ### What a function answers: shapes -/
/-- Leaves that vary. -/
inductive LTy
  | int (k : IntKind) | bool | str | sl (t : Ty) | dat (t : Ty)
/-- Leaves that don't. -/
inductive CSh
  | undef | own (id : Nat) | ptr (id off : Nat) | nilp | map (id : Nat) | nilm | clo (f : Nat) (ids : List Nat) | nilf | yld (id : Nat) | nils
inductive LSh
  | v (t : LTy) | c (s : CSh)
inductive OSh
  | dead | box (l : List LSh) | arr (t : Ty) (shared : Bool) | frm (jump : Option (Option AEx)) | mp (kt vt : Ty)
inductive VSh
  | one (s : LSh) | tup (l : List LSh)
structure FSh where
  objs : List OSh
  val : VSh

def LTy.T : LTy → Type
  | .int _ => Int
  | .bool => Bool
  | .str => Bytes
  | .sl t => List (Ev.T t)
  | .dat t => Ev.T t
def TL : List LSh → Type
  | [] => Unit
  | .v t :: l => t.T × TL l
  | .c _ :: l => TL l
def OSh.flat : OSh → List LSh
  | .box l => l
  | .arr t _ => [.v (.sl t)]
  | .mp kt vt => [.v (.sl kt), .v (.sl vt)]
  | _ => []
def VSh.flat : VSh → List LSh
  | .one s => [s]
  | .tup l => l
def FSh.flat (s : FSh) : List LSh := s.objs.flatMap OSh.flat ++ s.val.flat
def TA : List FSh → Type
  | [] => Empty
  | [a] => TL a.flat
  | a :: b :: r => TL a.flat ⊕ TA (b :: r)

/-! ### Kinds of types -/
inductive Kind
  | int (k : IntKind) | bool | str
  | sl (t : Ty) (e sz bytes : Nat)
  | st (fs : List (Nat × Nat)) (sz : Nat) (slots : List (Option Ty)) (zero : List AVal) (eq : Bool)
  | ptr (e : Nat) | fn | mp (kt vt : Ty) (k e : Nat) | other

structure Cx where
  prog : Program
  kinds : List Kind
  rty : Nat → List AVal → List AObj → List FSh
  mutp : Nat → Nat → Bool
  mask : Nat → List Nat → Option (List Nat)
  ro : Nat → List AVal → List AObj → Bool := fun _ _ _ => false
  ext : Nat → List AVal → List AObj → Option AVal := fun _ _ _ => none

def Cx.kind (cx : Cx) (t : Nat) : Kind := (cx.kinds[t]?).getD .other

/-! ### References -/
def refs : Nat → AVal → List Nat
  | 0, _ => []
  | n + 1, v => match v with
    | .own i | .ptr i _ | .aref i _ _ | .map i | .yld i | .it i => [i]
    | .ref cs | .agg cs | .tup cs | .clo _ cs => cs.flatMap (refs n)
    | _ => []
def objRefs : AObj → List Nat
  | .box cs => cs.flatMap (refs 3)
  | .frm _ _ ts _ => ts.flatMap (refs 3)
  | _ => []
def reach : Nat → List AObj → List Nat → List Nat → List Nat
  | 0, _, _, acc => acc
  | _ + 1, _, [], acc => acc
  | n + 1, objs, i :: q, acc => bif acc.contains i || decide (objs.length ≤ i) then reach n objs q acc else reach n objs (q ++ objRefs ((objs[i]?).getD .dead)) (acc ++ [i])
def posOf : List Nat → Nat → Option Nat
  | [], _ => none
  | j :: l, i => bif i == j then some 0 else (posOf l i).map (· + 1)
def renV : Nat → (Nat → Option Nat) → AVal → AVal
  | 0, _, _ => .undef
  | n + 1, ρ, v => match v with
    | .own i => ((ρ i).map AVal.own).getD .undef
    | .ptr i o => ((ρ i).map (AVal.ptr · o)).getD .undef
    | .aref i j o => ((ρ i).map (AVal.aref · j o)).getD .undef
    | .map i => ((ρ i).map AVal.map).getD .undef
    | .yld i => ((ρ i).map AVal.yld).getD .undef
    | .it i => ((ρ i).map AVal.it).getD .undef
    | .ref cs => .ref (cs.map (renV n ρ))
    | .agg cs => .agg (cs.map (renV n ρ))
    | .tup cs => .tup (cs.map (renV n ρ))
    | .clo f cs => .clo f (cs.map (renV n ρ))
    | v => v
def renO (ρ : Nat → Option Nat) : AObj → AObj
  | .box cs => .box (cs.map (renV 3 ρ))
  | .frm f p ts j => .frm f p (ts.map (renV 3 ρ)) j
  | o => o

/-- The objects of some numbers, renumbered. -/
def pickO (objs : List AObj) (ids : List Nat) : List AObj := ids.map fun i => renO (posOf ids) ((objs[i]?).getD .dead)

/-- Only what lives: the first m objects stay as they are. -/
def keepOnly (live : List Nat) (i : Nat) : List AVal → List AVal
  | [] => []
  | v :: l => (bif live.contains i then v else .undef) :: keepOnly live (i + 1) l
def canon (m : Nat) (live : List Nat) (st : St) : St :=
  let ts := keepOnly live 0 st.tmps
  let ids := reach 200 st.objs ((st.objs.take m).flatMap objRefs ++ ts.flatMap (refs 3)) (List.range m)
  { tmps := ts.map (renV 3 (posOf ids)), objs := pickO st.objs ids }

/-! ### Data -/
def objAt (objs : List AObj) (i : Nat) : AObj := (objs[i]?).getD .dead
/-- A cell as data. -/
def fixS (objs : List AObj) : Option Ty → AVal → AVal
  | some t, .nils => .sl t false []
  | some t, .own id => match objAt objs id with
    | .arr t' _ xs => bif t' == t then .sl t' false xs else .undef
    | _ => .undef
  | some _, .sl t _ xs => .sl t false xs
  | _, v => v
def slots : Ty → List (Option Ty)
  | .u8 | .int _ | .bool | .str => [none]
  | .list t => [some t]
  | .val => [none, none, none]
  | .fld => [none, none]
  | .sch => [none, some .fld]
  | .evt => [none, none, some .val]
  | .exp => [none, none, none, none, none, none, some .exp]
  | .pat => [none, none, none, none, none, some .pat]
  | .itm => [none, none, none, none]
  | .qry => [none, none, none, none, none, some .pat, some .exp, none, none, none, some .itm]
  | .bnd => [none, none]
  | .mat => [some .bnd]
  | .tok => [none, none, none]
  | .mov => [none, none, none, none, none, none, none, some .pat]
  | .nte => [some (.int .i64), none]
  | .use => [none, none, none]
def fixL (objs : List AObj) : List (Option Ty) → List AVal → List AVal
  | s :: ss, v :: vs => fixS objs s v :: fixL objs ss vs
  | _, vs => vs
def valCells : AVal → List AVal
  | .agg cs => cs
  | v => [v]
/-- A datum of a value. -/
def toDatum (objs : List AObj) (t : Ty) (v : AVal) : Option (T t) := uncells t (fixL objs (slots t) (valCells v))
/-- A slice as a list. -/
def toList (objs : List AObj) (t : Ty) (v : AVal) : Option (List (T t)) :=
  match fixS objs (some t) v with
  | .sl t' _ xs => if h : t' = t then some (h ▸ xs) else none
  | _ => none
/-- Own rows that are seen as data may not be stored into any more. -/
def shareId (i : Nat) (objs : List AObj) : List AObj :=
  match objAt objs i with
  | .arr t false xs => objs.set i (.arr t true xs)
  | _ => objs
def shareV (objs : List AObj) : AVal → List AObj
  | .own i => shareId i objs
  | .agg cs => cs.foldl (fun o c => match c with | .own i => shareId i o | _ => o) objs
  | _ => objs

/-! ### Results -/
/-- What a closure captures, as a number: a variable, or a yield. -/
def capOf : AVal → Option Nat
  | .ptr i 0 => some (2 * i)
  | .yld i => some (2 * i + 1)
  | _ => none
def ofCap (c : Nat) : AVal := bif c % 2 == 0 then .ptr (c / 2) 0 else .yld (c / 2)
def decC : CSh → AVal → Bool
  | .undef, _ => true
  | .own i, .own j => i == j
  | .ptr i o, .ptr j p => i == j && o == p
  | .nilp, .nilp => true
  | .map i, .map j => i == j
  | .nilm, .nilm => true
  | .nilf, .nilf => true
  | .nils, .nils => true
  | .yld i, .yld j => i == j
  | .clo f ids, .clo g cs => f == g && cs.map capOf == ids.map some
  | _, _ => false
def encC : CSh → AVal
  | .undef => .undef
  | .own i => .own i
  | .ptr i o => .ptr i o
  | .nilp => .nilp
  | .map i => .map i
  | .nilm => .nilm
  | .nilf => .nilf
  | .nils => .nils
  | .yld i => .yld i
  | .clo f ids => .clo f (ids.map ofCap)
def decV (objs : List AObj) : (t : LTy) → AVal → Option t.T
  | .int k, .int k' n => if k' = k then some n else none
  | .bool, .bool b => some b
  | .str, .str s => some s
  | .sl t, v => toList objs t v
  | .dat t, .agg cs => uncells t (fixL objs (slots t) cs)
  | _, _ => none
def encV : (t : LTy) → t.T → AVal
  | .int k, n => .int k n
  | .bool, b => .bool b
  | .str, s => .str s
  | .sl t, xs => .sl t false xs
  | .dat t, x => .agg (cells t x)
def belowC (n : Nat) : CSh → Bool
  | .own i | .ptr i _ | .map i | .yld i => decide (i < n)
  | .clo _ ids => ids.all fun i => decide (i / 2 < n)
  | _ => true
def decTL (n : Nat) (objs : List AObj) : (l : List LSh) → List AVal → Option (TL l)
  | [], [] => some ()
  | .v t :: l, a :: as => (decV objs t a).bind fun x => (decTL n objs l as).bind fun r => some (x, r)
  | .c s :: l, a :: as => bif decC s a && belowC n s then decTL n objs l as else none
  | _, _ => none
/-- What may be seen as data at the end: rows that stay mutable may not. -/
def maskS : List OSh → List AObj → List AObj
  | .arr _ false :: ss, _ :: os => .dead :: maskS ss os
  | _ :: ss, o :: os => o :: maskS ss os
  | _, os => os
def encTL : (l : List LSh) → TL l → List AVal
  | [], _ => []
  | .v t :: l, x => encV t x.1 :: encTL l x.2
  | .c s :: l, x => encC s :: encTL l x
def flatO : OSh → AObj → Option (List AVal)
  | .dead, .frm _ _ _ _ => none
  | .dead, _ => some []
  | .box l, .box cs => bif cs.length == l.length then some cs else none
  | .arr t sh, .arr t' sh' xs => bif t' == t && (!sh' || sh) then some [.sl t' false xs] else none
  | .frm j, .frm _ _ _ j' => bif decide (j' = j) then some [] else none
  | .mp kt vt, .mp kt' vt' ks vs => bif kt' == kt && vt' == vt then some [.sl kt' false ks, .sl vt' false vs] else none
  | _, _ => none
def flatOs : List OSh → List AObj → Option (List AVal)
  | [], _ => some []
  | s :: ss, o :: os => (flatO s o).bind fun a => (flatOs ss os).bind fun b => some (a ++ b)
  | _, _ => none
def flatV : VSh → AVal → Option (List AVal)
  | .one _, v => some [v]
  | .tup l, .tup vs => bif vs.length == l.length then some vs else none
  | _, _ => none
def dec1 (m : Nat) (a : FSh) (objs : List AObj) (v : AVal) : Option (TL a.flat) :=
  bif decide (m ≤ a.objs.length) then (flatOs a.objs objs).bind fun x => (flatV a.val v).bind fun y => decTL a.objs.length (maskS a.objs objs) a.flat (x ++ y) else none
def decA (m : Nat) : (alts : List FSh) → List AObj → AVal → Option (TA alts)
  | [], _, _ => none
  | [a], objs, v => dec1 m a objs v
  | a :: b :: r, objs, v =>
    match dec1 m a objs v with
    | some x => some (.inl x)
    | none => (decA m (b :: r) objs v).map .inr
def buildO (orig : AObj) : OSh → List AVal → AObj
  | .box _, l => .box l
  | .arr t sh, [.sl t' _ xs] => if h : t' = t then .arr t sh (h ▸ xs) else .dead
  | .mp kt vt, [.sl k' _ ks, .sl v' _ vs] => if h : k' = kt then (if h2 : v' = vt then .mp kt vt (h ▸ ks) (h2 ▸ vs) else .dead) else .dead
  | .frm j, _ => match orig with
    | .frm f p ts _ => .frm f p ts j
    | _ => .dead
  | _, _ => .dead
def buildOs (orig : List AObj) : List OSh → Nat → List AVal → List AObj
  | [], _, _ => []
  | s :: ss, i, l => buildO (objAt orig i) s (l.take s.flat.length) :: buildOs orig ss (i + 1) (l.drop s.flat.length)
def buildV : VSh → List AVal → AVal
  | .one _, [v] => v
  | .tup _, vs => .tup vs
  | _, _ => .undef
def encK {R : Type} (orig : List AObj) : (alts : List FSh) → TA alts → (List AObj → AVal → Option R) → Option R
  | [], x, _ => x.elim
  | [a], x, κ =>
    let l := encTL a.flat x
    let n := (a.objs.flatMap OSh.flat).length
    κ (buildOs orig a.objs 0 (l.take n)) (buildV a.val (l.drop n))
  | a :: b :: r, x, κ => match x with
    | .inl x =>
      let l := encTL a.flat x
      let n := (a.objs.flatMap OSh.flat).length
      κ (buildOs orig a.objs 0 (l.take n)) (buildV a.val (l.drop n))
    | .inr y => encK orig (b :: r) y κ

/-! ### Operands -/
def ofVal0 : Value → AVal
  | .bool b => .bool b
  | .int k n => bif decide (k = .u8) && !(decide (0 ≤ n) && decide (n < 256)) then .undef else .int k n
  | .string s => .str s.data.toList
  | .pointer none => .nilp
  | .slice none 0 0 => .nils
  | .map none => .nilm
  | .nilFunc => .nilf
  | .func (.func f) ⟨[]⟩ ⟨[]⟩ => .clo f []
  | .tuple ⟨[]⟩ => .tup []
  | _ => .undef
def ofVal : Value → AVal
  | .agg ⟨cs⟩ => .agg (cs.map ofVal0)
  | v => ofVal0 v
def St.ev (st : St) : Operand → AVal
  | .tmp t => (st.tmps[t]?).getD .undef
  | .const v => ofVal v
  | .global _ => .undef
  | .func f => .clo f []
def St.put (st : St) (d : Option Nat) (v : AVal) : St :=
  match d with
  | some d => { st with tmps := st.tmps.set d v }
  | none => st
/-- New objects. -/
def St.push (st : St) (os : List AObj) : St := { st with objs := st.objs ++ os }
def St.know (st : St) (x : Operand) (b : Bool) : St :=
  match x with
  | .tmp t => { st with tmps := st.tmps.set t (.bool b) }
  | _ => st

/-! ### Values worked out: they are what they are; it is for the kernel's sake alone -/
def frcN {R : Type} (n : Nat) (κ : Nat → R) : R := match n with
  | 0 => κ 0
  | m + 1 => κ (m + 1)
def frcL {α R : Type} (f : α → (α → R) → R) : List α → (List α → R) → R
  | [], κ => κ []
  | a :: l, κ => f a fun a => frcL f l fun l => κ (a :: l)
def frcV {R : Type} : Nat → AVal → (AVal → R) → R
  | 0, v, κ => κ v
  | n + 1, v, κ => match v with
    | .own i => frcN i fun i => κ (.own i)
    | .ptr i o => frcN i fun i => frcN o fun o => κ (.ptr i o)
    | .aref i j o => frcN i fun i => frcN o fun o => κ (.aref i j o)
    | .map i => frcN i fun i => κ (.map i)
    | .yld i => frcN i fun i => κ (.yld i)
    | .it i => frcN i fun i => κ (.it i)
    | .ref cs => frcL (frcV n) cs fun cs => κ (.ref cs)
    | .agg cs => frcL (frcV n) cs fun cs => κ (.agg cs)
    | .tup cs => frcL (frcV n) cs fun cs => κ (.tup cs)
    | .clo f cs => frcL (frcV n) cs fun cs => κ (.clo f cs)
    | .int k n => κ (.int k n)
    | .bool b => κ (.bool b)
    | .str s => κ (.str s)
    | .sl t f xs => κ (.sl t f xs)
    | .undef => κ .undef
    | .nils => κ .nils
    | .nilp => κ .nilp
    | .nilf => κ .nilf
    | .nilm => κ .nilm
def frcO {R : Type} (o : AObj) (κ : AObj → R) : R := match o with
  | .dead => κ .dead
  | .box cs => frcL (frcV 3) cs fun cs => κ (.box cs)
  | .arr t sh xs => κ (.arr t sh xs)
  | .frm f p ts j => frcL (frcV 3) ts fun ts => κ (.frm f p ts j)
  | .mp k t ks vs => κ (.mp k t ks vs)
  | .sit s p => κ (.sit s p)
def frcS {R : Type} (st : St) (κ : St → R) : R := match st with
  | ⟨ts, os⟩ => frcL (frcV 4) ts fun ts => frcL frcO os fun os => κ ⟨ts, os⟩
theorem frcN_eq {R : Type} (n : Nat) (κ : Nat → R) : frcN n κ = κ n := by cases n <;> rfl
theorem frcL_eq {α R : Type} {f : α → (α → R) → R} (h : ∀ a κ, f a κ = κ a) : ∀ (l : List α) (κ : List α → R), frcL f l κ = κ l
  | [], _ => rfl
  | a :: l, κ => by rw [frcL, h, frcL_eq h l]
theorem frcV_eq {R : Type} : ∀ (n : Nat) (v : AVal) (κ : AVal → R), frcV n v κ = κ v
  | 0, _, _ => rfl
  | n + 1, v, κ => by
    cases v <;> simp only [frcV, frcN_eq]
    all_goals first
      | rfl
      | exact frcL_eq (frcV_eq n) _ _
theorem frcO_eq {R : Type} (o : AObj) (κ : AObj → R) : frcO o κ = κ o := by
  cases o <;> simp only [frcO]
  all_goals exact frcL_eq (frcV_eq 3) _ _
theorem frcS_eq {R : Type} (st : St) (κ : St → R) : frcS st κ = κ st := by
  cases st
  simp only [frcS, frcL_eq (frcV_eq 4), frcL_eq frcO_eq]
theorem frcVs_eq {R : Type} (l : List AVal) (κ : List AVal → R) : frcL (frcV 4) l κ = κ l := frcL_eq (frcV_eq 4) l κ
theorem frcOs_eq {R : Type} (l : List AObj) (κ : List AObj → R) : frcL frcO l κ = κ l := frcL_eq frcO_eq l κ
theorem frcNs_eq {R : Type} (l : List Nat) (κ : List Nat → R) : frcL frcN l κ = κ l := frcL_eq frcN_eq l κ

/-! ### Operations without memory -/
def eqCell : AVal → AVal → Option Bool
  | .int _ a, .int _ b => some (a == b)
  | .bool a, .bool b => some (a == b)
  | .str a, .str b => some (a == b)
  | _, _ => none
def eqCells : List AVal → List AVal → Option Bool
  | [], [] => some true
  | [a], [b] => eqCell a b
  | a :: as, b :: bs => (eqCell a b).bind fun x => (eqCells as bs).bind fun y => some (x && y)
  | _, _ => none
def eqTyped (cx : Cx) : List (Nat × Nat) → List AVal → List AVal → Bool
  | [], [], [] => true
  | (_, t) :: fs, c :: cs, c' :: cs' => (match cx.kind t, c, c' with
      | .int _, .int k1 _, .int k2 _ => decide (k1 = k2)
      | .bool, .bool _, .bool _ => true
      | .str, .str _, .str _ => true
      | _, _, _ => false) && eqTyped cx fs cs cs'
  | _, _, _ => false
def aeq (cx : Cx) (t : Nat) : AVal → AVal → Option Bool
  | .agg as, .agg bs => match cx.kind t with
    | .st fs _ _ _ true => bif eqTyped cx fs as bs then eqCells as bs else none
    | _ => none
  | .bool a, .bool b => match cx.kind t with
    | .bool => some (a == b)
    | _ => none
  | .nilp, .nilp => match cx.kind t with
    | .ptr _ => some true
    | _ => none
  | .nilp, .ptr _ _ | .ptr _ _, .nilp => match cx.kind t with
    | .ptr _ => some false
    | _ => none
  | .nilf, .nilf => match cx.kind t with
    | .fn => some true
    | _ => none
  | .nilf, .clo _ _ | .clo _ _, .nilf => match cx.kind t with
    | .fn => some false
    | _ => none
  | .nilm, .nilm => match cx.kind t with
    | .mp _ _ _ _ => some true
    | _ => none
  | .nilm, .map _ | .map _, .nilm => match cx.kind t with
    | .mp _ _ _ _ => some false
    | _ => none
  | _, _ => none
def abin (cx : Cx) (op : BinOp) (t : Nat) : AVal → AVal → Option AVal
  | .int k a, .int k' b =>
    match op with
    | .shl => bif decide (b < 0) then none else some (.int k (k.wrap (a * 2 ^ (min b.toNat k.bits))))
    | .shr => bif decide (b < 0) then none else some (.int k (a.fdiv (2 ^ (min b.toNat k.bits))))
    | op => bif decide (k = k') then
        match op with
        | .add => some (.int k (k.wrap (a + b)))
        | .sub => some (.int k (k.wrap (a - b)))
        | .mul => some (.int k (k.wrap (a * b)))
        | .quo => bif b == 0 then none else some (.int k (k.wrap (a.tdiv b)))
        | .rem => bif b == 0 then none else some (.int k (a.tmod b))
        | .and => some (.int k (k.wrap (BitVec.ofInt k.bits a &&& BitVec.ofInt k.bits b).toNat))
        | .or => some (.int k (k.wrap (BitVec.ofInt k.bits a ||| BitVec.ofInt k.bits b).toNat))
        | .xor => some (.int k (k.wrap (BitVec.ofInt k.bits a ^^^ BitVec.ofInt k.bits b).toNat))
        | .andNot => some (.int k (k.wrap (BitVec.ofInt k.bits a &&& ~~~(BitVec.ofInt k.bits b)).toNat))
        | .eql => some (.bool (a == b))
        | .neq => some (.bool (a != b))
        | .lss => some (.bool (decide (a < b)))
        | .leq => some (.bool (decide (a ≤ b)))
        | .gtr => some (.bool (decide (a > b)))
        | .geq => some (.bool (decide (a ≥ b)))
        | _ => none
      else none
  | .str a, .str b =>
    match op with
    | .add => bif decide (((a.length + b.length : Nat) : Int) > 9223372036854775807) then none else some (.str (a ++ b))
    | .eql => some (.bool (a == b))
    | .neq => some (.bool (!(a == b)))
    | .lss => some (.bool (Op.bytesLess a b))
    | .leq => some (.bool (Op.bytesLess a b || a == b))
    | .gtr => some (.bool (!(Op.bytesLess a b || a == b)))
    | .geq => some (.bool (!(Op.bytesLess a b)))
    | _ => none
  | a, b =>
    match op with
    | .eql => (aeq cx t a b).map .bool
    | .neq => (aeq cx t a b).map fun x => .bool (!x)
    | _ => none
/-- Operands at which an operation does not answer. -/
def abad (op : BinOp) : AVal → AVal → Bool
  | .int _ _, .int _ b => match op with
    | .shl | .shr => decide (b < 0)
    | .quo | .rem => b == 0
    | _ => false
  | .str a, .str b => match op with
    | .add => decide (((a.length + b.length : Nat) : Int) > 9223372036854775807)
    | _ => false
  | _, _ => false
def abinF (cx : Cx) (op : BinOp) (t : Nat) : AVal → AVal → Option AVal
  | .int k a, .int k' b =>
    match op with
    | .shl => some (.int k (k.wrap (a * 2 ^ (min b.toNat k.bits))))
    | .shr => some (.int k (a.fdiv (2 ^ (min b.toNat k.bits))))
    | op => bif decide (k = k') then
        match op with
        | .add => some (.int k (k.wrap (a + b)))
        | .sub => some (.int k (k.wrap (a - b)))
        | .mul => some (.int k (k.wrap (a * b)))
        | .quo => some (.int k (k.wrap (a.tdiv b)))
        | .rem => some (.int k (a.tmod b))
        | .and => some (.int k (k.wrap (BitVec.ofInt k.bits a &&& BitVec.ofInt k.bits b).toNat))
        | .or => some (.int k (k.wrap (BitVec.ofInt k.bits a ||| BitVec.ofInt k.bits b).toNat))
        | .xor => some (.int k (k.wrap (BitVec.ofInt k.bits a ^^^ BitVec.ofInt k.bits b).toNat))
        | .andNot => some (.int k (k.wrap (BitVec.ofInt k.bits a &&& ~~~(BitVec.ofInt k.bits b)).toNat))
        | .eql => some (.bool (a == b))
        | .neq => some (.bool (a != b))
        | .lss => some (.bool (decide (a < b)))
        | .leq => some (.bool (decide (a ≤ b)))
        | .gtr => some (.bool (decide (a > b)))
        | .geq => some (.bool (decide (a ≥ b)))
        | _ => none
      else none
  | .str a, .str b =>
    match op with
    | .add => some (.str (a ++ b))
    | .eql => some (.bool (a == b))
    | .neq => some (.bool (!(a == b)))
    | .lss => some (.bool (Op.bytesLess a b))
    | .leq => some (.bool (Op.bytesLess a b || a == b))
    | .gtr => some (.bool (!(Op.bytesLess a b || a == b)))
    | .geq => some (.bool (!(Op.bytesLess a b)))
    | _ => none
  | a, b =>
    match op with
    | .eql => (aeq cx t a b).map .bool
    | .neq => (aeq cx t a b).map fun x => .bool (!x)
    | _ => none
def aun : UnOp → AVal → Option AVal
  | .neg, .int k n => some (.int k (k.wrap (0 - n)))
  | .xor, .int k n => some (.int k (k.wrap (BitVec.ofInt k.bits (if k.signed then -1 else k.max) ^^^ BitVec.ofInt k.bits n).toNat))
  | .not, .bool b => some (.bool (!b))
  | _, _ => none

/-- Element i, if there is one. -/
def idx {α : Type} (xs : List α) (i : Int) : Option α := bif decide (0 ≤ i) then xs[i.toNat]? else none
def loadAs (k : Kind) (cs : List AVal) : Option AVal :=
  match k with
  | .st _ sz _ _ _ => bif decide (sz ≤ cs.length) then some (.agg (cs.take sz)) else none
  | .other => none
  | _ => cs.head?
def fieldOff (k : Kind) (f : Nat) : Option (Nat × Nat) :=
  match k with
  | .st fs _ _ _ _ => fs[f]?
  | _ => none
def dropRef (o : Nat) : AVal → Option AVal
  | .ptr id off => some (.ptr id (off + o))
  | .ref cs => some (.ref (cs.drop o))
  | .aref id i off => some (.aref id i (off + o))
  | _ => none
def liveRef (objs : List AObj) : AVal → Bool
  | .aref id _ _ => match objAt objs id with
    | .arr _ _ _ => true
    | _ => false
  | _ => true
def setCells (cs : List AVal) (off : Nat) : List AVal → List AVal
  | [] => cs
  | v :: vs => setCells (cs.set off v) (off + 1) vs
/-- An int argument as a bound: from 0 to the given one. -/
def bnd (v : AVal) (hi : Nat) : Option Nat :=
  match v with
  | .int _ n => bif decide (0 ≤ n) && decide (n ≤ hi) then some n.toNat else none
  | _ => none
def elemsOf (objs : List AObj) (t : Ty) (v : AVal) : Option (List (T t)) := toList objs t v
def toU8 : (t : Ty) → List (T t) → Option Bytes
  | .u8, xs => some xs
  | _, _ => none
def ofU8 : (t : Ty) → Bytes → Option (List (T t))
  | .u8, xs => some xs
  | _, _ => none
/-- The zero of a number's type. -/
def zeroT : (t : Ty) → Kind → Option (T t)
  | .u8, .int .u8 => some (0 : UInt8)
  | .int k, .int k' => bif decide (k = k') then some (0 : Int) else none
  | _, _ => none

/-! ### Maps, and texts gone over rune by rune -/
def Ty.many : Ty → Bool
  | .u8 | .int _ | .bool | .str | .list _ => false
  | _ => true
/-- A datum as one value. -/
def boxOf (t : Ty) (x : T t) : AVal := bif t.many then .agg (cells t x) else (cells t x).headD .undef
def aggV : AVal → Bool
  | .agg _ => true
  | _ => false
def Kind.isStr : Kind → Bool
  | .str => true
  | _ => false
def zeroA : Kind → Option AVal
  | .int k => some (.int k 0)
  | .bool => some (.bool false)
  | .str => some (.str [])
  | .st _ _ _ z _ => some (.agg z)
  | _ => none
def lookM {α : Type} : List Bytes → List α → Bytes → α → α
  | k :: ks, v :: vs, s, d => bif k == s then v else lookM ks vs s d
  | _, _, _, d => d
def hasK : List Bytes → Bytes → Bool
  | [], _ => false
  | k :: ks, s => bif k == s then true else hasK ks s
def putK : List Bytes → Bytes → List Bytes
  | [], s => [s]
  | k :: ks, s => bif k == s then k :: ks else k :: putK ks s
def putV {α : Type} : List Bytes → List α → Bytes → α → List α
  | [], _, _, v => [v]
  | k :: ks, x :: vs, s, v => bif k == s then v :: vs else x :: putV ks vs s v
  | _ :: _, [], _, _ => []
def runeC (s : Bytes) (pos : Nat) : Nat := (Utf8.decode ⟨s.toArray⟩ pos).1
def runeW (s : Bytes) (pos : Nat) : Nat := (Utf8.decode ⟨s.toArray⟩ pos).2

section
variable (cx : Cx)

/-- What may be asked from below: calls, and rounds of loops over functions. -/
structure Orc where
  call : (f : Nat) → (args : List AVal) → (objs : List AObj) → Option (TA (cx.rty f args objs))
  run : (R : Type) → (f : Nat) → Code → List Nat → (m : Nat) → St → (AEx → St → Option R) → Option R

variable {cx} in
/-- A call: arguments as they are handed on; what is mutable and can be reached goes along. -/
def callK {R : Type} (O : Orc cx) (f : Nat) (args : List AVal) (objs : List AObj) (κ : List AObj → AVal → Option R) : Option R :=
  frcL frcO objs fun objs =>
  frcL (frcV 4) args fun args =>
  frcL frcN (reach 200 objs (args.flatMap (refs 3)) []) fun ids =>
  frcL (frcV 4) (args.map (renV 3 (posOf ids))) fun args1 =>
  frcL frcO (pickO objs ids) fun objs1 =>
  (O.call f args1 objs1).bind fun r => encK objs1 (cx.rty f args1 objs1) r fun objs2 v =>
    let back : Nat → Option Nat := fun j => some (bif decide (j < ids.length) then (ids[j]?).getD 0 else objs.length + (j - ids.length))
    κ (((ids.zip objs2).foldl (fun o x => o.set x.1 (renO back x.2)) objs) ++ (objs2.drop ids.length).map (renO back)) (renV 3 back v)

/-- An argument as it is handed on. -/
def argAs (objs : List AObj) (keep : Bool) (k : Kind) (v : AVal) : AVal :=
  bif keep then v else match k, v with
    | .sl t _ _ _, v => fixS objs (some t) v
    | .st _ _ ss _ _, .agg cs => .agg (fixL objs ss cs)
    | _, v => v
def argsAs (objs : List AObj) (f : Nat) : Nat → List Nat → List AVal → List AVal
  | i, t :: ts, v :: vs => argAs objs (cx.mutp f i) (cx.kind t) v :: argsAs objs f (i + 1) ts vs
  | i, [], v :: vs => v :: argsAs objs f (i + 1) [] vs
  | _, _, [] => []
def shares (f : Nat) : Nat → List AObj → List AVal → List AObj
  | _, objs, [] => objs
  | i, objs, v :: vs => shares f (i + 1) (bif cx.mutp f i then objs else shareV objs v) vs

/-- What a yield runs. -/
def codeAt : List Nat → Code → Code
  | [], c => c
  | 0 :: p, .seq a _ => codeAt p a
  | 1 :: p, .seq _ b => codeAt p b
  | 0 :: p, .cond _ a _ => codeAt p a
  | 1 :: p, .cond _ _ b => codeAt p b
  | 0 :: p, .block _ a => codeAt p a
  | 0 :: p, .loop a => codeAt p a
  | 0 :: p, .scope a => codeAt p a
  | 0 :: p, .rangeFunc _ _ a _ => codeAt p a
  | 1 :: p, .rangeFunc _ _ _ b => codeAt p b
  | _, _ => .skip
def bodyOf (f : Nat) : Code := ((cx.prog.funcs[f]?).bind (·.body)).getD .skip
def setTmps (ts : List AVal) : List Nat → List AVal → List AVal
  | p :: ps, v :: vs => setTmps (ts.set p v) ps vs
  | _, _ => ts

def callVal {R : Type} (O : Orc cx) (fv : AVal) (argTypes : List Nat) (args : List AVal) (objs0 : List AObj) (κ : List AObj → AVal → Option R) : Option R :=
  match fv with
  | .clo f caps => let objs := shares cx f 0 objs0 args; callK O f (argsAs cx objs f 0 argTypes args ++ caps) objs κ
  | .yld id => match objAt objs0 id with
    | .frm f p ts none =>
      match codeAt p (bodyOf cx f) with
      | .rangeFunc _ ps asg body =>
        bif args.length == ps.size then
          O.run R f asg (p ++ [0]) objs0.length { tmps := setTmps ts ps.toList args, objs := objs0 } fun e st1 =>
            match e, objAt st1.objs id with
            | .normal, .frm _ _ _ none => O.run R f body (p ++ [1]) st1.objs.length { st1 with objs := st1.objs.set id (.frm f p ts (some none)) } fun e st2 =>
                match e with
                | .normal => κ (st2.objs.set id (.frm f p ts none)) (.bool true)
                | e => κ (st2.objs.set id (.frm f p ts (some (some e)))) (.bool false)
            | _, _ => none
        else none
      | _ => none
    | _ => none
  | _ => none

def lenOf (k : Kind) (objs : List AObj) (v : AVal) : Option Int :=
  match k, v with
  | .str, .str s => some s.length
  | .sl _ _ _ _, .nils => some 0
  | .sl _ _ _ _, .sl _ _ xs => some xs.length
  | .sl _ _ _ _, .own id => match objAt objs id with
    | .arr _ _ xs => some xs.length
    | _ => none
  | _, _ => none

/-- May it lie in one cell? -/
def AVal.scalar : AVal → Bool
  | .undef | .agg _ | .tup _ | .it _ => false
  | _ => true
def okCells : AVal → Bool
  | .agg cs => cs.all AVal.scalar
  | v => v.scalar
/-- Zero cells of a variable: nil slices are rows of one's own. -/
def ownNils (n : Nat) : List (Option Ty) → List AVal → List AVal × List AObj
  | some t :: ss, .nils :: vs => let r := ownNils (n + 1) ss vs; (.own n :: r.1, .arr t false [] :: r.2)
  | _ :: ss, v :: vs => let r := ownNils n ss vs; (v :: r.1, r.2)
  | _, _ => ([], [])

def fillA : List AVal → List (Nat × List AVal) → Option (List AVal)
  | cs, [] => some cs
  | cs, (o, vs) :: r => bif decide (o + vs.length ≤ cs.length) then fillA (setCells cs o vs) r else none

def cellsK (k : Kind) : Nat :=
  match k with
  | .st _ sz _ _ _ => sz
  | _ => 1

def partsA (fs : List (Nat × Nat)) (ev : Operand → AVal) : List (Nat × Operand) → Option (List (Nat × List AVal))
  | [] => some []
  | (i, x) :: r => match fs[i]? with
    | some (o, ty) => let vs := valCells (ev x); bif vs.length == cellsK (cx.kind ty) && okCells (ev x) then (partsA fs ev r).map ((o, vs) :: ·) else none
    | none => none

def Kind.known : Kind → Bool
  | .other => false
  | _ => true
def sharePs (ev : Operand → AVal) : List (Nat × Operand) → List AObj → List AObj
  | [], objs => objs
  | (_, x) :: r, objs => sharePs ev r (shareV objs (ev x))
def datums (objs : List AObj) (t : Ty) (ev : Operand → AVal) : Nat → List (Nat × Operand) → Option (List (T t))
  | _, [] => some []
  | i, (j, x) :: r => bif i == j then (toDatum objs t (ev x)).bind fun d => (datums objs t ev (i + 1) r).bind fun l => some (d :: l) else none

/-- One operation. -/
def aopV {R : Type} (O : Orc cx) (o : Oper) (ev : Operand → AVal) (objs : List AObj) (κ : List AObj → AVal → Option R) : Option R :=
  let ret (v : AVal) : Option R := κ objs v
  match o.op with
  | .move x => ret (ev x)
  | .assign x => match ev x with
    | .nils => match cx.kind o.type with
      | .sl t _ _ _ => κ (objs ++ [AObj.arr t false []]) (.own objs.length)
      | _ => ret .nils
    | v => ret v
  | .pick c a b => match ev c with
    | .bool t => bif t then ret (ev a) else ret (ev b)
    | _ => none
  | .alloc e => match cx.kind e with
    | .int k => κ (objs ++ [AObj.box [.int k 0]]) (.ptr objs.length 0)
    | .bool => κ (objs ++ [AObj.box [.bool false]]) (.ptr objs.length 0)
    | .str => κ (objs ++ [AObj.box [.str []]]) (.ptr objs.length 0)
    | .sl t _ _ _ => κ (objs ++ [AObj.box [.own (objs.length + 1)], .arr t false []]) (.ptr objs.length 0)
    | .ptr _ => κ (objs ++ [AObj.box [.nilp]]) (.ptr objs.length 0)
    | .fn => κ (objs ++ [AObj.box [.nilf]]) (.ptr objs.length 0)
    | .mp _ _ _ _ => κ (objs ++ [AObj.box [.nilm]]) (.ptr objs.length 0)
    | .st _ _ ss z _ => let r := ownNils (objs.length + 1) ss z; κ (objs ++ (.box r.1 :: r.2)) (.ptr objs.length 0)
    | .other => none
  | .box _ x => bif okCells (ev x) then κ (objs ++ [AObj.box (valCells (ev x))]) (.ptr objs.length 0) else none
  | .build t parts => match cx.kind t with
    | .st fs _ _ z _ => (partsA cx fs ev parts.toList).bind fun ps => (fillA z ps).bind fun cs => ret (.agg cs)
    | _ => none
  | .buildSlice t len parts => match cx.kind t with
    | .sl ty _ _ _ => bif len == parts.size && decide (len * ty.size ≤ 16777216) then
        let objs := sharePs ev parts.toList objs
        (datums objs ty ev 0 parts.toList).bind fun xs => κ (objs ++ [AObj.arr ty false xs]) (.own objs.length)
      else none
    | _ => none
  | .load t a => match ev a with
    | .ptr id off => match objAt objs id with
      | .box cs => (loadAs (cx.kind t) (cs.drop off)).bind ret
      | _ => none
    | .ref cs => (loadAs (cx.kind t) cs).bind ret
    | .aref id i off => match objAt objs id with
      | .arr ty _ xs => (xs[i]?).bind fun x => (loadAs (cx.kind t) ((cells ty x).drop off)).bind ret
      | _ => none
    | _ => none
  | .store t a x => match ev a with
    | .ptr id off => match objAt objs id with
      | .box cs => let vs := valCells (ev x); bif (cx.kind t).known && vs.length == cellsK (cx.kind t) && decide (off + vs.length ≤ cs.length) && okCells (ev x) then
          κ (objs.set id (.box (setCells cs off vs))) (.tup [])
        else none
      | _ => none
    | .aref id i off => match objAt objs id with
      | .arr ty false xs => let vs := valCells (ev x); bif (cx.kind t).known && vs.length == cellsK (cx.kind t) && decide (off + vs.length ≤ ty.size) && okCells (ev x) then
          let objs := shareV objs (ev x)
          (xs[i]?).bind fun d => (uncells ty (fixL objs (slots ty) (setCells (cells ty d) off vs))).bind fun d' =>
            match objAt objs id with
            | .arr _ false _ => κ (objs.set id (.arr ty false (xs.set i d'))) (.tup [])
            | _ => none
        else none
      | _ => none
    | _ => none
  | .nilCheck x => match ev x with
    | .ptr i off => ret (.ptr i off)
    | .ref cs => ret (.ref cs)
    | .aref i j off => bif liveRef objs (.aref i j off) then ret (.aref i j off) else none
    | .clo f cs => ret (.clo f cs)
    | .yld i => ret (.yld i)
    | _ => none
  | .binOp op t x y _ => bif abad op (ev x) (ev y) then none else (abinF cx op t (ev x) (ev y)).bind ret
  | .unOp op _ x => (aun op (ev x)).bind ret
  | .convert s d x => match cx.kind s, cx.kind d, ev x with
    | .int _, .int k, .int _ n => ret (.int k (k.wrap n))
    | .str, .str, .str s => ret (.str s)
    | .str, .sl t _ _ _, .str s => (ofU8 t s).bind fun xs => κ (objs ++ [AObj.arr t false xs]) (.own objs.length)
    | .sl t _ _ _, .str, v => (toList objs t v).bind fun xs => (toU8 t xs).bind fun s => ret (.str s)
    | _, _, _ => none
  | .slice t x lo hi mx => match cx.kind t, ev x with
    | .str, .str s =>
      (match hi with | some h => bnd (ev h) s.length | none => some s.length).bind fun h =>
      (match lo with | some l => bnd (ev l) h | none => some 0).bind fun l =>
      match mx with
      | none => ret (.str ((s.take h).drop l))
      | some _ => none
    | .sl ty _ _ _, v => (toList (shareV objs v) ty v).bind fun xs =>
      (match hi with | some h => bnd (ev h) xs.length | none => some xs.length).bind fun h =>
      (match lo with | some l => bnd (ev l) h | none => some 0).bind fun l =>
      match mx with
      | none => κ (shareV objs v) (.sl ty false ((xs.take h).drop l))
      | some m => (bnd (ev m) xs.length).bind fun m => bif m == h && hi.isSome then κ (shareV objs v) (.sl ty true ((xs.take h).drop l)) else none
    | _, _ => none
  | .fieldAddr s x f => bif liveRef objs (ev x) then (fieldOff (cx.kind s) f).bind fun r => (dropRef r.1 (ev x)).bind ret else none
  | .field s x f => match ev x with
    | .agg cs => (fieldOff (cx.kind s) f).bind fun r => (loadAs (cx.kind r.2) (cs.drop r.1)).bind ret
    | _ => none
  | .indexAddr t0 x i => match cx.kind t0, ev x, ev i with
    | .sl ty _ _ _, .sl t _ xs, .int _ n => bif t == ty then (idx xs n).bind fun d => ret (.ref (cells t d)) else none
    | .sl ty _ _ _, .own id, .int _ n => match objAt objs id with
      | .arr t _ xs => bif t == ty then (idx xs n).bind fun _ => ret (.aref id n.toNat 0) else none
      | _ => none
    | _, _, _ => none
  | .index t0 x i => match cx.kind t0, ev x, ev i with
    | .str, .str s, .int _ n => (idx s n).bind fun c => ret (.int .u8 c.toNat)
    | _, _, _ => none
  | .extract t i => match ev t with
    | .tup vs => (vs[i]?).bind ret
    | _ => none
  | .makeSlice t l c => match cx.kind t, ev l, ev c with
    | .sl ty e _ bytes, .int _ l, .int _ c => match zeroT ty (cx.kind e) with
      | some z => bif decide (0 ≤ l) && decide (l ≤ c) && decide (c * bytes ≤ 140737488355328) then κ (objs ++ [AObj.arr ty false (List.replicate l.toNat z)]) (.own objs.length) else none
      | none => none
    | _, _, _ => none
  | .makeFunc (.func f) first caps => bif first.size == 0 then ret (.clo f (caps.toList.map ev)) else none
  | .makeMap t none => match cx.kind t with
    | .mp kt vt _ _ => κ (objs ++ [AObj.mp kt vt [] []]) (.map objs.length)
    | _ => none
  | .lookup t x i ok => match cx.kind t, ev i with
    | .mp .str vt k e, .str s => ((zeroA (cx.kind e)).bind fun z => bif aggV z == vt.many && (cx.kind k).isStr then toDatum [] vt z else none).bind fun d => match ev x with
      | .map id => match objAt objs id with
        | .mp .str vt' ks vs => if h : vt' = vt then ret (bif ok then .tup [boxOf vt (lookM ks (h ▸ vs) s d), .bool (hasK ks s)] else boxOf vt (lookM ks (h ▸ vs) s d)) else none
        | _ => none
      | .nilm => ret (bif ok then .tup [boxOf vt d, .bool false] else boxOf vt d)
      | _ => none
    | _, _ => none
  | .mapUpdate t m k x => match cx.kind t, ev m, ev k with
    | .mp .str vt kk _, .map id, .str s => bif aggV (ev x) == vt.many && (cx.kind kk).isStr then
        let objs := shareV objs (ev x)
        (toDatum objs vt (ev x)).bind fun v => match objAt objs id with
          | .mp .str vt' ks vs => if h : vt' = vt then κ (objs.set id (.mp .str vt (putK ks s) (putV ks (h ▸ vs) s v))) (.tup []) else none
          | _ => none
      else none
    | _, _, _ => none
  | .range t x => match cx.kind t, ev x with
    | .str, .str s => κ (objs ++ [AObj.sit s 0]) (.it objs.length)
    | _, _ => none
  | .next x true => match ev x with
    | .it id => match objAt objs id with
      | .sit s pos => bif decide (pos < s.length) then κ (objs.set id (.sit s (pos + runeW s pos))) (.tup [.bool true, .int .i64 ((pos : Nat) : Int), .int .i32 ((runeC s pos : Nat) : Int)]) else κ objs (.tup [.bool false])
      | _ => none
    | _ => none
  | .call c => match c.callee with
    | .value f => callVal cx O (ev f) c.argTypes.toList (c.args.toList.map ev) objs κ
    | .builtin .len => match c.args.toList, c.argTypes.toList with
      | [x], [t] => (lenOf (cx.kind t) objs (ev x)).bind fun n => ret (.int .i64 n)
      | _, _ => none
    | .builtin .max => match c.args.toList with
      | [x, y] => match ev x, ev y with
        | .int k a, .int k' b => bif decide (k = k') then ret (.int k (if b > a then b else a)) else none
        | _, _ => none
      | _ => none
    | .builtin .min => match c.args.toList with
      | [x, y] => match ev x, ev y with
        | .int k a, .int k' b => bif decide (k = k') then ret (.int k (if b < a then b else a)) else none
        | _, _ => none
      | _ => none
    | .builtin .copy => match c.args.toList, c.argTypes.toList with
      | [x, y], [t, _] => match cx.kind t, ev x with
        | .sl ty _ _ _, .own id => match objAt objs id with
          | .arr ty' false xs => if ty' = ty then (toList objs ty (ev y)).bind fun ys => bif decide (ys.length = xs.length) && decide (ty.size = 1) then κ (objs.set id (.arr ty false ys)) (.int .i64 ys.length) else none else none
          | _ => none
        | _, _ => none
      | _, _ => none
    | .builtin .append => match c.args.toList, c.argTypes.toList with
      | [x, y], [t, t2] => match cx.kind t with
        | .sl ty _ _ bytes =>
          (match cx.kind t2, ev y with
            | .str, .str s => ofU8 ty s
            | .sl _ _ _ _, v => toList objs ty v
            | _, _ => none).bind fun ys =>
          match ev x with
          | .nils => bif decide (ys.length * bytes ≤ 140737488355328) then κ (objs ++ [AObj.arr ty false ys]) (.own objs.length) else none
          | .sl ty' true xs => if h : ty' = ty then
              (bif decide ((xs.length + ys.length) * bytes ≤ 140737488355328) && decide (0 < ys.length) then κ (objs ++ [AObj.arr ty false ((h ▸ xs) ++ ys)]) (.own objs.length) else none) else none
          | .own id => match objAt objs id with
            | .arr ty' sh xs => if h : ty' = ty then
                (bif decide ((xs.length + ys.length) * bytes ≤ 140737488355328) then κ (objs.set id .dead ++ [AObj.arr ty sh ((h ▸ xs) ++ ys)]) (.own objs.length) else none) else none
            | _ => none
          | _ => none
        | _ => none
      | _, _ => none
    | _ => none
  | _ => none

/-- One operation. -/
def aop {R : Type} (O : Orc cx) (o : Oper) (st : St) (κ : St → Option R) : Option R :=
  aopV cx O o st.ev st.objs fun objs v => κ (({ st with objs := objs } : St).put o.dst v)

/-- Operations one by one. -/
def aops {R : Type} (O : Orc cx) (ops : List Oper) : List Oper → St → (St → Option R) → Option R
  | [], st, κ => κ st
  | o :: rest, st, κ => match o.guard with
    | none => aop cx O o st fun st => frcS st fun st => aops O ops rest st κ
    | some (j, want) => match (ops[j]?).bind (·.dst) with
      | none => none
      | some d => match (st.tmps[d]?).getD .undef with
        | .bool b => bif b == want
            then frcS { st with tmps := st.tmps.set d (.bool want) } fun st => aop cx O o st fun st => frcS st fun st => aops O ops rest st κ
            else frcS ({ st with tmps := st.tmps.set d (.bool (!want)) }.put o.dst (.tup [])) fun st => aops O ops rest st κ
        | .tup [] => frcS (st.put o.dst (.tup [])) fun st => aops O ops rest st κ
        | _ => none

/-! ### Operations in any order -/
/-- The numbers that an operation's operands bear. -/
def opIds (ev : Operand → AVal) (o : Oper) : List Nat := o.op.operands.toList.flatMap fun x => refs 3 (ev x)
def isArr (objs : List AObj) (i : Nat) : Bool := match objAt objs i with
  | .arr _ false _ => true
  | _ => false
/-- Does a value bear only numbers that may be? -/
def fits (P : Nat → Bool) : Nat → AVal → Bool
  | 0, _ => false
  | n + 1, v => match v with
    | .own i | .ptr i _ | .aref i _ _ | .map i | .yld i | .it i => P i
    | .ref cs | .agg cs | .tup cs | .clo _ cs => cs.all (fits P n)
    | _ => true
def fitsO (P : Nat → Bool) : AObj → Bool
  | .box cs => cs.all (fits P 3)
  | .frm _ _ ts _ => ts.all (fits P 3)
  | _ => true
/-- The objects that an operation sees. -/
def rdIds (ev : Operand → AVal) (objs : List AObj) (o : Oper) : List Nat :=
  match o.op with
  | .call c => match c.callee with
    | .value f => match ev f with
      | .clo g caps =>
        let args := c.args.toList.map ev
        let objs1 := shares cx g 0 objs args
        opIds ev o ++ reach 200 objs1 ((argsAs cx objs1 g 0 c.argTypes.toList args ++ caps).flatMap (refs 3)) []
      | _ => []
    | _ => opIds ev o
  | _ => opIds ev o
/-- The objects that an operation changes. -/
def wrIds (ev : Operand → AVal) (objs : List AObj) (o : Oper) : List Nat :=
  match o.op with
  | .store _ a v => match ev a with
    | .ptr id _ => [id]
    | .aref id _ _ => id :: (refs 3 (ev v)).filter (isArr objs)
    | _ => []
  | .slice _ x _ _ _ => (refs 3 (ev x)).filter (isArr objs)
  | .buildSlice _ _ _ => (opIds ev o).filter (isArr objs)
  | .call c => match c.callee with
    | .value f => match ev f with
      | .clo g caps =>
        let args := c.args.toList.map ev
        let objs1 := shares cx g 0 objs args
        let as1 := argsAs cx objs1 g 0 c.argTypes.toList args ++ caps
        let ids := reach 200 objs1 (as1.flatMap (refs 3)) []
        (opIds ev o).filter (isArr objs) ++ bif cx.ro g (as1.map (renV 3 (posOf ids))) (pickO objs1 ids) && ids.all (fun i => fitsO (fun j => ids.contains j) (objAt objs1 i)) then [] else ids
      | _ => []
    | .builtin .append => match c.args.toList with
      | [x, _] => match ev x with
        | .own id => [id]
        | _ => []
      | _ => []
    | .builtin .copy => match c.args.toList with
      | [x, _] => match ev x with
        | .own id => [id]
        | _ => []
      | _ => []
    | _ => []
  | _ => []
/-- No yield (nor what isn't done in any order). -/
def noYield (ev : Operand → AVal) (o : Oper) : Bool :=
  match o.op with
  | .call c => match c.callee with
    | .value f => match ev f with
      | .clo _ _ => true
      | _ => false
    | _ => true
  | .makeMap _ _ | .lookup _ _ _ _ | .mapUpdate _ _ _ _ | .range _ _ | .next _ _ => false
  | _ => true
/-- How many objects an operation may make. -/
def slotsOf (o : Oper) : Nat :=
  match o.op with
  | .assign _ | .box _ _ | .buildSlice _ _ _ | .convert _ _ _ | .makeSlice _ _ _ => 1
  | .alloc _ => 6
  | .call c => match c.callee with
    | .value _ => 6
    | .builtin .append => 1
    | _ => 0
  | _ => 0
/-- For each operation: where its own objects lie. -/
def slotTab : Nat → List Oper → List (List Nat)
  | _, [] => []
  | s, o :: r => List.range' s (slotsOf o) :: slotTab (s + slotsOf o) r
def addAll (l : List Nat) : List Nat → List Nat
  | [] => l
  | x :: xs => addAll (bif l.contains x then l else x :: l) xs
/-- For each operation: those that come ahead of it in any order. -/
def aheadTab : List Oper → List (List Nat) → List (List Nat)
  | [], acc => acc
  | o :: r, acc => aheadTab r (acc ++ [o.after.toList.foldl (fun l e => bif Region.binds .any e then addAll l (e.on :: (acc[e.on]?).getD []) else l) []])
def tmpOf : Operand → Option Nat
  | .tmp t => some t
  | _ => none
/-- The temporaries that an operation sees. -/
def rdTmps (ops : List Oper) (o : Oper) : List Nat :=
  o.op.operands.toList.filterMap tmpOf ++ (match o.guard with
    | some (j, _) => ((ops[j]?).bind (·.dst)).toList
    | none => [])
def inter (a b : List Nat) : Bool := a.any fun x => b.contains x
/-- Operations not one of which comes ahead of the other bear no temporary in common. -/
def tmpsApart (ops : List Oper) (ahead : List (List Nat)) : Nat → List Oper → Bool
  | _, [] => true
  | k, o :: r => (o.after.toList.all fun e => !Region.binds .any e || decide (e.on < k)) &&
      ((List.range k).all fun j => ((ahead[k]?).getD []).contains j || match ops[j]? with
        | some p => !(inter p.dst.toList (o.dst.toList ++ rdTmps ops o)) && !(inter o.dst.toList (rdTmps ops p))
        | none => true) && tmpsApart ops ahead (k + 1) r
/-- Do operations clash: what they see, what they change? -/
def clash (ahead : List Nat) (R W : List Nat) : Nat → List (List Nat × List Nat) → Bool
  | _, [] => false
  | j, (R', W') :: r => (!(ahead.contains j) && (inter W' R || inter R' W)) || clash ahead R W (j + 1) r
/-- New objects go to their place. -/
def moveIds (L s n : Nat) : List Nat := List.range s ++ List.range' L n ++ List.range' (s + n) (L - (s + n))
def moveO (L s n : Nat) (W : List Nat) (objs objs1 : List AObj) : List AObj :=
  let ids := moveIds L s n
  (List.range L).map fun x => bif W.contains x || (decide (s ≤ x) && decide (x < s + n)) then renO (posOf ids) (objAt objs1 ((ids[x]?).getD 0)) else objAt objs x
/-- Operations that may come in any order, done one by one. -/
def dops {R : Type} (O : Orc cx) (ops : List Oper) (ahead slots : List (List Nat)) (L0 L : Nat) : List Oper → Nat → List (List Nat × List Nat) → St → (St → Option R) → Option R
  | [], _, _, st, κ => κ st
  | o :: rest, k, fps, st, κ =>
    let sl := (slots[k]?).getD []
    let run (st : St) : Option R :=
      let wr := wrIds cx st.ev st.objs o
      let W := sl ++ wr
      let Rd := W ++ rdIds cx st.ev st.objs o
      let al := sl ++ ((ahead[k]?).getD []).flatMap fun j => (slots[j]?).getD []
      bif clash ((ahead[k]?).getD []) Rd W 0 fps || !(noYield st.ev o) then none else
      aopV cx O o st.ev st.objs fun objs1 v =>
        let n := objs1.length - L
        let s := sl.headD L
        let objs2 := moveO L s n wr st.objs objs1
        let v2 := renV 3 (posOf (moveIds L s n)) v
        let P : Nat → Bool := fun i => decide (i < L0) || al.contains i
        bif decide (n ≤ sl.length) && fits P 3 v2 && W.all (fun x => decide (x < L) && fitsO P (objAt objs2 x))
          then frcS (({ st with objs := objs2 } : St).put o.dst v2) fun st => dops O ops ahead slots L0 L rest (k + 1) (fps ++ [(Rd, W)]) st κ else none
    let skip (st : St) : Option R := frcS (st.put o.dst (.tup [])) fun st => dops O ops ahead slots L0 L rest (k + 1) (fps ++ [([], [])]) st κ
    match o.guard with
    | none => run st
    | some (j, want) => match (ops[j]?).bind (·.dst) with
      | none => none
      | some d => match (st.tmps[d]?).getD .undef with
        | .bool b => bif b == want then run { st with tmps := st.tmps.set d (.bool want) } else skip { st with tmps := st.tmps.set d (.bool (!want)) }
        | .tup [] => skip st
        | _ => none
def notDead : AObj → Bool
  | .dead => false
  | _ => true
/-- A region whose operations may come in any order. -/
def adraw {R : Type} (O : Orc cx) (ops : List Oper) (st : St) (κ : St → Option R) : Option R :=
  let L0 := st.objs.length
  let slots := slotTab L0 ops
  let L := L0 + slots.flatten.length
  let ahead := aheadTab ops []
  let P : Nat → Bool := fun i => decide (i < L0)
  bif tmpsApart ops ahead 0 ops && st.tmps.all (fits P 3) && st.objs.all (fitsO P) then
    frcS { st with objs := st.objs ++ List.replicate (L - L0) .dead } fun st => dops cx O ops ahead slots L0 L ops 0 [] st fun st =>
      let ids := List.range L0 ++ (List.range' L0 (L - L0)).filter fun i => notDead (objAt st.objs i)
      frcS { tmps := st.tmps.map (renV 3 (posOf ids)), objs := pickO st.objs ids } κ
  else none

/-- Is it a call of a function that isn't known from the text? -/
def dynCall (o : Oper) : Bool := match o.op with
  | .call c => (match c.callee with
    | .value (.tmp _) => true
    | _ => false)
  | _ => false
/-- Do the operations from t on come one by one, behind all others? -/
def chainOk (ops : List Oper) (t : Nat) : Bool :=
  ((List.range t).all fun j => (((aheadTab ops [])[t]?).getD []).contains j) &&
  ((List.range ops.length).all fun i => match ops[i]? with
    | none => false
    | some o => bif decide (i < t) then (match o.guard with | some (g, _) => decide (g < t) | none => true)
      else o.after.toList.all (fun e => !Region.binds .any e || decide (e.on < i)) && (bif decide (t < i) then o.after.toList.any (fun e => Region.binds .any e && e.on == i - 1) else true))
def tailAt (ops : List Oper) : Nat := ((List.range ops.length).find? fun t => (match ops[t]? with | some o => dynCall o | none => false) && chainOk ops t).getD ops.length
/-- A region whose last operations come one by one. -/
def adraw2 {R : Type} (O : Orc cx) (ops : List Oper) (st : St) (κ : St → Option R) : Option R :=
  let t := tailAt ops
  bif t == ops.length then adraw cx O ops st κ else adraw cx O (ops.take t) st fun st => aops cx O ops (ops.drop t) st κ

/-- What follows, by the way in which code was left. -/
def kSeq {R : Type} (next : St → Option R) (κ : AEx → St → Option R) (e : AEx) (st : St) : Option R :=
  match e with
  | .normal => next st
  | e => κ e st
def kBlock {R : Type} (id : Nat) (κ : AEx → St → Option R) (e : AEx) (st : St) : Option R :=
  match e with
  | .exit id' => bif id' == id then κ .normal st else κ (.exit id') st
  | e => κ e st
def kScope {R : Type} (κ : AEx → St → Option R) (e : AEx) (st : St) : Option R :=
  match e with
  | .goto _ => none
  | e => κ e st
def kRange {R : Type} (st1 : St) (κ : AEx → St → Option R) (objs : List AObj) (_ : AVal) : Option R :=
  match objAt objs st1.objs.length with
  | .frm _ _ _ none => κ .normal { st1 with objs := objs.set st1.objs.length .dead }
  | .frm _ _ _ (some (some e)) => κ e { st1 with objs := objs.set st1.objs.length .dead }
  | _ => none
def loopN {R : Type} (body : St → (AEx → St → Option R) → Option R) (norm : St → St) : Nat → St → (AEx → St → Option R) → Option R
  | 0, _, _ => none
  | n + 1, st, κ => body st (kSeq (fun st => frcS (norm st) fun st => loopN body norm n st κ) κ)

def maskAt (f : Nat) (p : List Nat) (m : Nat) (st : St) : St :=
  match cx.mask f p with
  | some live => canon m live st
  | none => st

/-- Code. -/
def aev {R : Type} (O : Orc cx) (n : Nat) (f : Nat) (m : Nat) : Code → List Nat → St → (AEx → St → Option R) → Option R
  | .skip, _, st, κ => κ .normal st
  | .region _ ops draw, _, st, κ => bif draw then adraw2 cx O ops.toList st (κ .normal) else aops cx O ops.toList ops.toList st (κ .normal)
  | .seq a b, p, st, κ => aev O n f m a (p ++ [0]) st (kSeq (fun st => frcS (maskAt cx f (p ++ [1]) m st) fun st => aev O n f m b (p ++ [1]) st κ) κ)
  | .cond c a b, p, st, κ => match st.ev c with
    | .bool t => bif t then aev O n f m a (p ++ [0]) (st.know c true) κ else aev O n f m b (p ++ [1]) (st.know c false) κ
    | _ => none
  | .block id a, p, st, κ => aev O n f m a (p ++ [0]) st (kBlock id κ)
  | .loop a, p, st, κ => frcS (maskAt cx f p m st) fun st => loopN (fun st κ => aev O n f m a (p ++ [0]) st κ) (maskAt cx f p m) n st κ
  | .rangeFunc g _ _ _, p, st, κ =>
    frcS (maskAt cx f p m st) fun st1 =>
    match st1.ev g with
    | .clo g caps => callK O g (.yld st1.objs.length :: caps) (st1.objs ++ [.frm f p st1.tmps none]) (kRange st1 κ)
    | _ => none
  | .exit id, _, st, κ => κ (.exit id) st
  | .scope a, p, st, κ => aev O n f m a (p ++ [0]) st (kScope κ)
  | .label _, _, st, κ => κ .normal st
  | .ret, _, st, κ => κ .ret st
  | _, _, _, _ => none

/-- Code, begun in its midst: at a place; the rounds that are left of the loops around it. -/
def resume {R : Type} (O : Orc cx) (n : Nat) (f : Nat) (m : Nat) : Code → List Nat → List Nat → List Nat → St → (AEx → St → Option R) → Option R
  | .seq a b, 0 :: q, ns, p, st, κ => resume O n f m a q ns (p ++ [0]) st (kSeq (fun st => frcS (maskAt cx f (p ++ [1]) m st) fun st => aev cx O n f m b (p ++ [1]) st κ) κ)
  | .seq _ b, 1 :: q, ns, p, st, κ => resume O n f m b q ns (p ++ [1]) st κ
  | .cond _ a _, 0 :: q, ns, p, st, κ => resume O n f m a q ns (p ++ [0]) st κ
  | .cond _ _ b, 1 :: q, ns, p, st, κ => resume O n f m b q ns (p ++ [1]) st κ
  | .block id a, 0 :: q, ns, p, st, κ => resume O n f m a q ns (p ++ [0]) st (kBlock id κ)
  | .scope a, 0 :: q, ns, p, st, κ => resume O n f m a q ns (p ++ [0]) st (kScope κ)
  | .loop a, 0 :: q, r :: ns, p, st, κ => resume O n f m a q ns (p ++ [0]) st (kSeq (fun st => frcS (maskAt cx f p m st) fun st => loopN (fun st κ => aev cx O n f m a (p ++ [0]) st κ) (maskAt cx f p m) r st κ) κ)
  | .loop a, [], [r], p, st, κ => loopN (fun st κ => aev cx O n f m a (p ++ [0]) st κ) (maskAt cx f p m) r st κ
  | c, [], _, p, st, κ => aev cx O n f m c p st κ
  | _, _, _, _, _, _ => none

def resultsA (st : St) : List ResultVar → Option (List AVal)
  | [] => some []
  | .tmp t :: r => (resultsA st r).map ((st.tmps[t]?).getD .undef :: ·)
  | .cell a t :: r => match (st.tmps[a]?).getD .undef with
    | .ptr id off => match objAt st.objs id with
      | .box cs => (loadAs (cx.kind t) (cs.drop off)).bind fun v => (resultsA st r).map (v :: ·)
      | _ => none
    | _ => none
def resultA (st : St) (rs : List ResultVar) : Option AVal := (resultsA cx st rs).map fun vs => match vs with
  | [v] => v
  | vs => .tup vs

/-- A function's end. -/
def kRet (f : Nat) (rs : List ResultVar) (args : List AVal) (objs : List AObj) (e : AEx) (st : St) : Option (TA (cx.rty f args objs)) :=
  match e with
  | .normal | .ret => (resultA cx st rs).bind fun v =>
    let ids := reach 200 st.objs ((st.objs.take objs.length).flatMap objRefs ++ refs 3 v) (List.range objs.length)
    decA objs.length (cx.rty f args objs) (pickO st.objs ids) (renV 3 (posOf ids) v)
  | _ => none
def acallBody (O : Orc cx) (n : Nat) (f : Nat) (args : List AVal) (objs : List AObj) : Option (TA (cx.rty f args objs)) :=
  match cx.prog.funcs[f]? with
  | none => none
  | some fn => match fn.body with
    | none => none
    | some c => match cx.ext f args objs with
      | some v => decA objs.length (cx.rty f args objs) objs v
      | none => aev cx O n f objs.length c [] { tmps := args ++ List.replicate (fn.ntmps - args.length) .undef, objs } (kRet cx f fn.results.toList args objs)

def orcAt : Nat → Orc cx
  | 0 => { call := fun _ _ _ => none, run := fun _ _ _ _ _ _ _ => none }
  | k + 1 => { call := fun f args objs => acallBody cx (orcAt k) k f args objs, run := fun _ f c p m st κ => aev cx (orcAt k) k f m c p st κ }

/-- What function f answers, with k for its depth and its rounds. -/
def acall (k : Nat) (f : Nat) (args : List AVal) (objs : List AObj) : Option (TA (cx.rty f args objs)) := (orcAt cx k).call f args objs
/-- What function f answers from a place in its midst. -/
def aresume (k : Nat) (f : Nat) (args : List AVal) (objs : List AObj) (pos ns : List Nat) (st : St) : Option (TA (cx.rty f args objs)) :=
  match cx.prog.funcs[f]? with
  | none => none
  | some fn => match fn.body with
    | none => none
    | some c => resume cx (orcAt cx k) k f objs.length c pos ns [] st (kRet cx f fn.results.toList args objs)
end
end Go.Ev
