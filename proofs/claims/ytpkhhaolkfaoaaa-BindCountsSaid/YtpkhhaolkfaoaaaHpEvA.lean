/-
  THE EVALUATOR, PART 1: THE DATA. Native Lean types for the program's data, the abstract values and objects of the evaluator. No statement is proved here.
-/
import Derived.RangeFuncIn
import Derived.RangeFuncLeaves
namespace Go.Ev

abbrev Bytes := List UInt8

/-! ### Native types of the program's data -/
structure Val where
  k : Int
  n : Int
  s : Bytes
structure Fld where
  name : Bytes
  k : Int
structure Sch where
  name : Bytes
  fields : List Fld
structure Evt where
  type : Bytes
  time : Int
  l : List Val
structure Exp where
  k : Int
  v : Val
  var : Bytes
  field : Bytes
  l : List Exp
structure Pat where
  k : Int
  var : Bytes
  type : Bytes
  lo : Int
  hi : Int
  l : List Pat
structure Itm where
  name : Bytes
  k : Int
  var : Bytes
  field : Bytes
structure Qry where
  p : Pat
  where_ : List Exp
  key : Bytes
  mode : Int
  within_ : Int
  items : List Itm
structure Bnd where
  at_ : Int
  var : Bytes
structure Mat where
  l : List Bnd
structure Tok where
  k : Int
  s : Bytes
  at_ : Int
structure Mov where
  var : Bytes
  type : Bytes
  next : Pat
structure Nte where
  way : List Int
  what : Int
structure Use where
  var : Bytes
  type : Bytes
  k : Int

/-- Codes of the types of data. -/
inductive Ty
  | u8 | int (k : IntKind) | bool | str | list (t : Ty)
  | val | fld | sch | evt | exp | pat | itm | qry | bnd | mat | tok | mov | nte | use
  deriving DecidableEq

def T : Ty → Type
  | .u8 => UInt8
  | .int _ => Int
  | .bool => Bool
  | .str => Bytes
  | .list t => List (T t)
  | .val => Val | .fld => Fld | .sch => Sch | .evt => Evt | .exp => Exp | .pat => Pat | .itm => Itm | .qry => Qry
  | .bnd => Bnd | .mat => Mat | .tok => Tok | .mov => Mov | .nte => Nte | .use => Use

/-- How many cells. -/
def Ty.size : Ty → Nat
  | .u8 | .int _ | .bool | .str | .list _ => 1
  | .val => 3 | .fld => 2 | .sch => 2 | .evt => 3 | .exp => 7 | .pat => 6 | .itm => 4 | .qry => 11
  | .bnd => 2 | .mat => 1 | .tok => 3 | .mov => 8 | .nte => 2 | .use => 3

/-- Abstract values. -/
inductive AVal
  | undef
  | int (k : IntKind) (n : Int)
  | bool (b : Bool)
  | str (s : Bytes)
  | nils
  | sl (t : Ty) (full : Bool) (xs : List (T t))
  | own (id : Nat)
  | ptr (id off : Nat)
  | nilp
  | ref (cs : List AVal)
  | aref (id i off : Nat)
  | agg (cs : List AVal)
  | tup (vs : List AVal)
  | clo (f : Nat) (caps : List AVal)
  | nilf
  | map (id : Nat)
  | nilm
  | yld (id : Nat)
  | it (id : Nat)
  deriving Inhabited

/-- A datum's cells. -/
def cells : (t : Ty) → T t → List AVal
  | .u8, x => [.int .u8 x.toNat]
  | .int k, x => [.int k x]
  | .bool, x => [.bool x]
  | .str, x => [.str x]
  | .list t, x => [.sl t false x]
  | .val, x => [.int .i64 x.k, .int .i64 x.n, .str x.s]
  | .fld, x => [.str x.name, .int .i64 x.k]
  | .sch, x => [.str x.name, .sl .fld false x.fields]
  | .evt, x => [.str x.type, .int .i64 x.time, .sl .val false x.l]
  | .exp, x => [.int .i64 x.k, .int .i64 x.v.k, .int .i64 x.v.n, .str x.v.s, .str x.var, .str x.field, .sl .exp false x.l]
  | .pat, x => [.int .i64 x.k, .str x.var, .str x.type, .int .i64 x.lo, .int .i64 x.hi, .sl .pat false x.l]
  | .itm, x => [.str x.name, .int .i64 x.k, .str x.var, .str x.field]
  | .qry, x => [.int .i64 x.p.k, .str x.p.var, .str x.p.type, .int .i64 x.p.lo, .int .i64 x.p.hi, .sl .pat false x.p.l, .sl .exp false x.where_, .str x.key, .int .i64 x.mode, .int .i64 x.within_, .sl .itm false x.items]
  | .bnd, x => [.int .i64 x.at_, .str x.var]
  | .mat, x => [.sl .bnd false x.l]
  | .tok, x => [.int .i64 x.k, .str x.s, .int .i64 x.at_]
  | .mov, x => [.str x.var, .str x.type, .int .i64 x.next.k, .str x.next.var, .str x.next.type, .int .i64 x.next.lo, .int .i64 x.next.hi, .sl .pat false x.next.l]
  | .nte, x => [.sl (.int .i64) false x.way, .int .i64 x.what]
  | .use, x => [.str x.var, .str x.type, .int .i64 x.k]

/-- A datum of its cells. -/
def uncells : (t : Ty) → List AVal → Option (T t)
  | .u8, [.int .u8 n] => some (UInt8.ofNat n.toNat)
  | .int k, [.int k' n] => if k' = k then some n else none
  | .bool, [.bool b] => some b
  | .str, [.str s] => some s
  | .list t, [.sl t' _ xs] => if h : t' = t then some (h ▸ xs) else none
  | .val, [.int .i64 k, .int .i64 n, .str s] => some (Val.mk k n s)
  | .fld, [.str n, .int .i64 k] => some (Fld.mk n k)
  | .sch, [.str n, .sl .fld _ l] => some (Sch.mk n l)
  | .evt, [.str t, .int .i64 n, .sl .val _ l] => some (Evt.mk t n l)
  | .exp, [.int .i64 k, .int .i64 vk, .int .i64 vn, .str vs, .str a, .str b, .sl .exp _ l] => some (Exp.mk k ⟨vk, vn, vs⟩ a b l)
  | .pat, [.int .i64 k, .str v, .str t, .int .i64 lo, .int .i64 hi, .sl .pat _ l] => some (Pat.mk k v t lo hi l)
  | .itm, [.str n, .int .i64 k, .str v, .str f] => some (Itm.mk n k v f)
  | .qry, [.int .i64 k, .str v, .str t, .int .i64 lo, .int .i64 hi, .sl .pat _ l, .sl .exp _ w, .str key, .int .i64 m, .int .i64 wi, .sl .itm _ its] => some (Qry.mk ⟨k, v, t, lo, hi, l⟩ w key m wi its)
  | .bnd, [.int .i64 a, .str v] => some (Bnd.mk a v)
  | .mat, [.sl .bnd _ l] => some (Mat.mk l)
  | .tok, [.int .i64 k, .str s, .int .i64 a] => some (Tok.mk k s a)
  | .mov, [.str v, .str t, .int .i64 pk, .str pv, .str pt, .int .i64 lo, .int .i64 hi, .sl .pat _ l] => some (Mov.mk v t ⟨pk, pv, pt, lo, hi, l⟩)
  | .nte, [.sl (.int .i64) _ l, .int .i64 w] => some (Nte.mk l w)
  | .use, [.str v, .str t, .int .i64 k] => some (Use.mk v t k)
  | _, _ => none

/-- How a piece of code is left. -/
inductive AEx
  | normal | exit (id : Nat) | goto (l : Nat) | ret
  deriving DecidableEq

/-- Abstract objects: what is mutable. -/
inductive AObj
  | dead
  | box (cs : List AVal)
  | arr (t : Ty) (shared : Bool) (xs : List (T t))
  | frm (f : Nat) (path : List Nat) (tmps : List AVal) (jump : Option (Option AEx))
  | mp (kt vt : Ty) (ks : List (T kt)) (vs : List (T vt))
  | sit (s : Bytes) (pos : Nat)

structure St where
  tmps : List AVal
  objs : List AObj

end Go.Ev
